/- The base, whole. -/
import Derived.Test.YtcgnligpjfhjlaaDen5
