/- The base, whole. -/
import Derived.Test.YtdmjbkpibgfeiaaDen5
