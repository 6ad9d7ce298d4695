/- The walk of the laws' own marks that are texts. -/
import Derived.Test.YtddiloifecjmgaaBase
namespace Go.Proofs.Ytddiloifecjmgaa
open Go.RowKit
end Go.Proofs.Ytddiloifecjmgaa
