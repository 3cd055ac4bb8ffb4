/- All of this seat's formulas. -/
import Derived.Test.YtcgnligpjfhjlaaGenC
import Derived.Test.YtcgnligpjfhjlaaGenT
import Derived.Test.YtcgnligpjfhjlaaGenS
import Derived.Test.YtcgnligpjfhjlaaOwn6
import Derived.Test.YtcgnligpjfhjlaaGen1
import Derived.Test.YtcgnligpjfhjlaaGen2
import Derived.Test.YtcgnligpjfhjlaaGen3
import Derived.Test.YtcgnligpjfhjlaaGen4
import Derived.Test.YtcgnligpjfhjlaaGen5
import Derived.Test.YtcgnligpjfhjlaaGen6
