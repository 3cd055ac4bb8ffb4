/- All of this seat's formulas. -/
import Derived.Test.YtlndgaijekihiaaGreatGenC
import Derived.Test.YtlndgaijekihiaaGreatGenT
import Derived.Test.YtlndgaijekihiaaGreatGenS
import Derived.Test.YtlndgaijekihiaaGreatOwn6
import Derived.Test.YtlndgaijekihiaaGreatGen1
import Derived.Test.YtlndgaijekihiaaGreatGen2
import Derived.Test.YtlndgaijekihiaaGreatGen3
import Derived.Test.YtlndgaijekihiaaGreatGen4
import Derived.Test.YtlndgaijekihiaaGreatGen5
