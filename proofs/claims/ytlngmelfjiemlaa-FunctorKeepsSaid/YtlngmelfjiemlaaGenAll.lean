/- All of this seat's formulas. -/
import Derived.Test.YtlngmelfjiemlaaGenC
import Derived.Test.YtlngmelfjiemlaaGenT
import Derived.Test.YtlngmelfjiemlaaGenS
import Derived.Test.YtlngmelfjiemlaaOwn6
import Derived.Test.YtlngmelfjiemlaaGen1
import Derived.Test.YtlngmelfjiemlaaGen2
import Derived.Test.YtlngmelfjiemlaaGen3
import Derived.Test.YtlngmelfjiemlaaGen4
import Derived.Test.YtlngmelfjiemlaaGen5
