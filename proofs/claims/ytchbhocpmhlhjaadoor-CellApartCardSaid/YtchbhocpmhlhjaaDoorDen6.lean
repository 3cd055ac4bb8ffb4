/- The base, whole. -/
import Derived.Test.YtchbhocpmhlhjaaDoorDen5
