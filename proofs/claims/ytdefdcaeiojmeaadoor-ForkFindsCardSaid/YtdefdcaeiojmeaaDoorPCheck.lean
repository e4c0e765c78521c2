import Derived.Test.YtdefdcaeiojmeaaDoorProof
namespace Go.Proofs.YtdefdcaeiojmeaaDoor
open Go.RowKit Go.WideShapes
set_option linter.unusedVariables false

end Go.Proofs.YtdefdcaeiojmeaaDoor
