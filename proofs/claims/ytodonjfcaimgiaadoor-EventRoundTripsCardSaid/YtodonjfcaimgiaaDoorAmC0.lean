/-
A call of the program. Conditions: none.
-/
import Derived.Test.YtodonjfcaimgiaaDoorAmTab
import Derived.Test.YtodonjfcaimgiaaDoorAmRun
import Derived.Test.YtodonjfcaimgiaaDoorMc
import Derived.IntWalk
namespace Go.Am

/-- A call of the program. -/
noncomputable def Tryd.call : Call := ecall 8 [] (lk Tryd.ext) (lk Tryd.tab)

end Go.Am
