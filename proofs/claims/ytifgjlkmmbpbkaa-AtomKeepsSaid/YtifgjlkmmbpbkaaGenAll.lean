/- All of this seat's formulas. -/
import Derived.Test.YtifgjlkmmbpbkaaGenC
import Derived.Test.YtifgjlkmmbpbkaaGenT
import Derived.Test.YtifgjlkmmbpbkaaGenS
import Derived.Test.YtifgjlkmmbpbkaaOwn6
import Derived.Test.YtifgjlkmmbpbkaaGen1
import Derived.Test.YtifgjlkmmbpbkaaGen2
import Derived.Test.YtifgjlkmmbpbkaaGen3
import Derived.Test.YtifgjlkmmbpbkaaGen4
