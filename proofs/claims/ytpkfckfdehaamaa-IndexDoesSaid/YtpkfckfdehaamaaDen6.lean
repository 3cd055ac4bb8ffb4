/- The base, whole. -/
import Derived.Test.YtpkfckfdehaamaaDen5
