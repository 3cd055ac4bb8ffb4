/- The base, whole. -/
import Derived.Test.YtdkkkomcolklbaaDen5
