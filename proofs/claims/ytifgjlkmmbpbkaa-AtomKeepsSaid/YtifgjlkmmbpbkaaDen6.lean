/- The base, whole. -/
import Derived.Test.YtifgjlkmmbpbkaaDen5
