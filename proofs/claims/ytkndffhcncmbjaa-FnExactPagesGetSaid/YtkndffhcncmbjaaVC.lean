/- What each function owes: all parts. MADE BY PROGRAM (emit.py). -/
import Derived.Test.YtkndffhcncmbjaaVC1
import Derived.Test.YtkndffhcncmbjaaVC2
