/- which numbers are sums. -/
import Derived.Test.YtcgfdhgceokcnaaDoorJWalWhole2
import Derived.Test.YtcgfdhgceokcnaaDoorJWalWhole1
namespace Go.Proofs.YtcgfdhgceokcnaaDoor
open Go.RowKit
set_option linter.unusedVariables false

end Go.Proofs.YtcgfdhgceokcnaaDoor

namespace Go.Proofs.YtcgfdhgceokcnaaDoor
open Go.RowKit
set_option linter.unusedVariables false

end Go.Proofs.YtcgfdhgceokcnaaDoor

namespace Go.Proofs.YtcgfdhgceokcnaaDoor
open Go.RowKit
set_option linter.unusedVariables false

end Go.Proofs.YtcgfdhgceokcnaaDoor
