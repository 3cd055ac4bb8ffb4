/- All of this seat's formulas. -/
import Derived.Test.YtdbkbaeeccemkaaGenC
import Derived.Test.YtdbkbaeeccemkaaGenT
import Derived.Test.YtdbkbaeeccemkaaGenS
import Derived.Test.YtdbkbaeeccemkaaOwn6
import Derived.Test.YtdbkbaeeccemkaaGen1
import Derived.Test.YtdbkbaeeccemkaaGen2
import Derived.Test.YtdbkbaeeccemkaaGen3
import Derived.Test.YtdbkbaeeccemkaaGen4
import Derived.Test.YtdbkbaeeccemkaaGen5
