/- All of this seat's formulas. -/
import Derived.Test.YtdaenijbokialaaGreatGenC
import Derived.Test.YtdaenijbokialaaGreatGenT
import Derived.Test.YtdaenijbokialaaGreatGenS
import Derived.Test.YtdaenijbokialaaGreatOwn6
import Derived.Test.YtdaenijbokialaaGreatGen1
import Derived.Test.YtdaenijbokialaaGreatGen2
import Derived.Test.YtdaenijbokialaaGreatGen3
import Derived.Test.YtdaenijbokialaaGreatGen4
import Derived.Test.YtdaenijbokialaaGreatGen5
import Derived.Test.YtdaenijbokialaaGreatGen6
import Derived.Test.YtdaenijbokialaaGreatGen7
import Derived.Test.YtdaenijbokialaaGreatGen8
import Derived.Test.YtdaenijbokialaaGreatGen9
import Derived.Test.YtdaenijbokialaaGreatGen10
import Derived.Test.YtdaenijbokialaaGreatGen11
