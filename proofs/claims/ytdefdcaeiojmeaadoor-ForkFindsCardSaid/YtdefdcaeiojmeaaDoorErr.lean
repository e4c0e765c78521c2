import Derived.Test.YtdefdcaeiojmeaaDoorErr0
namespace Go.Proofs.YtdefdcaeiojmeaaDoor
open Go.RowKit
set_option linter.unusedVariables false

end Go.Proofs.YtdefdcaeiojmeaaDoor
