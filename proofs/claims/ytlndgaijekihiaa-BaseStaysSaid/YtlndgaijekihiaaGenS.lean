import Derived.Test.YtlndgaijekihiaaOwn6
import Derived.Test.YtlndgaijekihiaaProg
set_option maxRecDepth 100000
set_option linter.unusedVariables false
namespace Go.Proofs.Ytlndgaijekihiaa
open Go Go.D Go.Proofs
end Go.Proofs.Ytlndgaijekihiaa
