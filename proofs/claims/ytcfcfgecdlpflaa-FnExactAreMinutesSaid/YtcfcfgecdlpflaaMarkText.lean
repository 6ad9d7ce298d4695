/- The walk of the laws' own marks that are texts. -/
import Derived.Test.YtcfcfgecdlpflaaBase
namespace Go.Proofs.Ytcfcfgecdlpflaa
open Go.RowKit
end Go.Proofs.Ytcfcfgecdlpflaa
