import Derived.Test.YtmknpehjncpekaaDoorErr0
namespace Go.Proofs.YtmknpehjncpekaaDoor
open Go.RowKit
set_option linter.unusedVariables false

end Go.Proofs.YtmknpehjncpekaaDoor
