/- All of this seat's formulas. -/
import Derived.Test.YtpkfckfdehaamaaGenC
import Derived.Test.YtpkfckfdehaamaaGenT
import Derived.Test.YtpkfckfdehaamaaGenS
import Derived.Test.YtpkfckfdehaamaaOwn6
import Derived.Test.YtpkfckfdehaamaaGen1
import Derived.Test.YtpkfckfdehaamaaGen2
import Derived.Test.YtpkfckfdehaamaaGen3
import Derived.Test.YtpkfckfdehaamaaGen4
