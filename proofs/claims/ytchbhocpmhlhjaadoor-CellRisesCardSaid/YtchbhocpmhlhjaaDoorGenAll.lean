/- All of this seat's formulas. -/
import Derived.Test.YtchbhocpmhlhjaaDoorGenC
import Derived.Test.YtchbhocpmhlhjaaDoorGenT
import Derived.Test.YtchbhocpmhlhjaaDoorGenS
import Derived.Test.YtchbhocpmhlhjaaDoorOwn6
import Derived.Test.YtchbhocpmhlhjaaDoorGen1
import Derived.Test.YtchbhocpmhlhjaaDoorGen2
