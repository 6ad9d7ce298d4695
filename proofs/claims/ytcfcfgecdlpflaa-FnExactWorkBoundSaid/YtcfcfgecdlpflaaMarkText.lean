/- The walk of the laws' own marks that are texts: some text comes back. -/
import Derived.Test.YtcfcfgecdlpflaaBase
import Derived.Laws.BytesArg
namespace Go.Proofs.Ytcfcfgecdlpflaa
open Go.RowKit
end Go.Proofs.Ytcfcfgecdlpflaa
