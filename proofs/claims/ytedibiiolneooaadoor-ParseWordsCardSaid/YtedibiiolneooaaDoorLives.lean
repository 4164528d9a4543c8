/- The program's small text is read and written: the law's own function 'lives' returns true, in whatever world holds the listed variables. -/
import Derived.Test.YtedibiiolneooaaDoorBase

namespace Go.Proofs.YtedibiiolneooaaDoor
open Go Go.Can Go.RowKit
set_option maxRecDepth 100000
theorem lives_run : retIs (callF Tryd.prog [7] 2000 16 #[] (roHeap 6 2 laidL)) isTrue = true := by decide +kernel

/-- The small text is read, and written again, and a wrong one refused. -/
theorem lives_true {W : World} (h : Holds W 6 2 laidL) : Calls Tryd.prog 16 #[] W fun e W' => e = .returned (.bool true) ∧ Below W.heap.size W W' :=
  calls_true okP okB nGlobals laidLt lives_run rfl h
#print axioms lives_true
end Go.Proofs.YtedibiiolneooaaDoor
