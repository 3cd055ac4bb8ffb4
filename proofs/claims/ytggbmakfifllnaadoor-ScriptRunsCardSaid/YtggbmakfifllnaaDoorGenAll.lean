/- All of this seat's formulas. -/
import Derived.Test.YtggbmakfifllnaaDoorGenC
import Derived.Test.YtggbmakfifllnaaDoorGenT
import Derived.Test.YtggbmakfifllnaaDoorGenS
import Derived.Test.YtggbmakfifllnaaDoorOwn6
import Derived.Test.YtggbmakfifllnaaDoorGen1
import Derived.Test.YtggbmakfifllnaaDoorGen2
import Derived.Test.YtggbmakfifllnaaDoorGen3
import Derived.Test.YtggbmakfifllnaaDoorGen4
import Derived.Test.YtggbmakfifllnaaDoorGen5
import Derived.Test.YtggbmakfifllnaaDoorGen6
import Derived.Test.YtggbmakfifllnaaDoorGen7
