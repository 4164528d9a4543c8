/- The seat's program: what is asked of its text, once. -/
import Derived.Test.YtedibiiolneooaaDoorC40
import Derived.Test.YtedibiiolneooaaDoorRows

namespace Go.Proofs.YtedibiiolneooaaDoor
open Go Go.Can
set_option maxRecDepth 100000
theorem okP : okProg Tryd.prog = true := by decide +kernel
theorem okB : drawsProg Tryd.prog [7] = true := by decide +kernel
theorem nGlobals : Tryd.prog.globals.size = 6 := by decide +kernel

end Go.Proofs.YtedibiiolneooaaDoor
