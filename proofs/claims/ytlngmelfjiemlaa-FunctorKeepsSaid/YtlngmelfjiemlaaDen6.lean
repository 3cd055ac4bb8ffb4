/- The base, whole. -/
import Derived.Test.YtlngmelfjiemlaaDen5
