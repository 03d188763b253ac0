/- A number and a text, there and back. -/
import Derived.Test.YtcndgbaldjcdfaaWireP
namespace Go.Proofs.Ytcndgbaldjcdfaa
set_option maxHeartbeats 8000000
set_option maxRecDepth 100000
open Go Go.Lite
set_option linter.unusedSimpArgs false
set_option linter.unusedVariables false

end Go.Proofs.Ytcndgbaldjcdfaa
