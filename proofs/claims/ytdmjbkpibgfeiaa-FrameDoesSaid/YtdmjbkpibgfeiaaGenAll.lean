/- All of this seat's formulas. -/
import Derived.Test.YtdmjbkpibgfeiaaGenC
import Derived.Test.YtdmjbkpibgfeiaaGenT
import Derived.Test.YtdmjbkpibgfeiaaGenS
import Derived.Test.YtdmjbkpibgfeiaaOwn6
import Derived.Test.YtdmjbkpibgfeiaaGen1
import Derived.Test.YtdmjbkpibgfeiaaGen2
import Derived.Test.YtdmjbkpibgfeiaaGen3
import Derived.Test.YtdmjbkpibgfeiaaGen4
import Derived.Test.YtdmjbkpibgfeiaaGen5
import Derived.Test.YtdmjbkpibgfeiaaGen6
import Derived.Test.YtdmjbkpibgfeiaaGen7
