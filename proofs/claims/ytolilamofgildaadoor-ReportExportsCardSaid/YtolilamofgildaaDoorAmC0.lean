/-
A call of the program. Conditions: none.
-/
import Derived.Test.YtolilamofgildaaDoorAmTab
import Derived.Test.YtolilamofgildaaDoorAmRun
import Derived.Test.YtolilamofgildaaDoorMc
import Derived.IntWalk
namespace Go.Am

/-- A call of the program. -/
noncomputable def Tryd.call : Call := ecall 6 [] (lk Tryd.ext) (lk Tryd.tab)

end Go.Am
