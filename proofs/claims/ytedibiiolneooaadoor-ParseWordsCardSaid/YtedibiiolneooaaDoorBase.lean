/- The listed variables' cells. -/
import Derived.Test.YtedibiiolneooaaDoorOk
import Derived.Stop.LaidErr
import Derived.Lib.LaidTab

namespace Go.Proofs.YtedibiiolneooaaDoor
open Go Go.Can Go.RowKit

set_option maxRecDepth 100000
def u8s (l : List Nat) : List Value := l.map fun n => .int .u8 (Int.ofNat n)
def u64s (l : List Nat) : List Value := l.map fun n => .int .u64 (Int.ofNat n)

/-- The listed variables, by their numbers. -/
def laidL : List (Nat × List Value) := [
  (0, [.iface 149 (.pointer (some ⟨6, 0, none⟩))]),
  (1, [.iface 149 (.pointer (some ⟨7, 0, none⟩))]),
  (2, u64s [1, 10, 100, 1000, 10000, 100000, 1000000, 10000000, 100000000, 1000000000, 10000000000, 100000000000, 1000000000000, 10000000000000, 100000000000000, 1000000000000000, 10000000000000000, 100000000000000000, 1000000000000000000, 10000000000000000000]),
  (4, u8s [0, 1, 28, 2, 29, 14, 24, 3, 30, 22, 20, 15, 25, 17, 4, 8, 31, 27, 13, 23, 21, 19, 16, 7, 26, 12, 18, 6, 11, 5, 10, 9]),
  (5, u8s [0, 1, 56, 2, 57, 49, 28, 3, 61, 58, 42, 50, 38, 29, 17, 4, 62, 47, 59, 36, 45, 43, 51, 22, 53, 39, 33, 30, 24, 18, 12, 5, 63, 55, 48, 27, 60, 41, 37, 16, 46, 35, 44, 21, 52, 32, 23, 11, 54, 26, 40, 15, 34, 20, 31, 10, 25, 14, 19, 9, 13, 8, 7, 6])]

theorem star : "*" ++ "errors.errorString" = "*errors.errorString" := by decide
theorem errRows (u : TypeId) (h : Tryd.prog.typeName? 3 u = some "*errors.errorString") : u = 149 :=
  typeName_ptr_named (nm := "errors.errorString") (by rw [star]; kernel_rfl) (by kernel_rfl) (by decide) u (by rw [star]; exact h)

theorem holds_of_var {W : World} {P : Program} {n : String} {g : Nat} {cs : Array Value} (hg : P.globalNamed n = some g) (h : W.var? P n = some cs) : ∃ t fr, W.heap[g]? = some (.cells cs t fr) := by
  unfold World.var? at h
  rw [hg] at h
  simp only [Option.bind_some] at h
  split at h
  · rename_i c t fr hc
    simp at h; subst h
    exact ⟨t, fr, hc⟩
  · cases h

theorem at_of_cell {W : World} {a : Addr} {v : Value} (h : W.cell? a = some v) : a.block < W.heap.size ∧ (⟨a.block, a.off + 0, none⟩ : Addr) = a := by
  unfold World.cell? at h
  split at h
  · rename_i c t fr hc
    split at h
    · cases h
    · rename_i hs
      refine ⟨?_, ?_⟩
      · rcases Nat.lt_or_ge a.block W.heap.size with h' | h'
        · exact h'
        · rw [Array.getElem?_eq_none h'] at hc; cases hc
      · obtain ⟨b, o, s⟩ := a
        cases s with
        | none => rfl
        | some s => simp at hs
  · cases h

theorem g0 : Tryd.prog.globalNamed "strconv.ErrSyntax" = some 0 := by kernel_rfl
theorem g1 : Tryd.prog.globalNamed "strconv.ErrRange" = some 1 := by kernel_rfl
theorem g2 : Tryd.prog.globalNamed "internal/strconv.uint64pow10" = some 2 := by kernel_rfl
theorem g4 : Tryd.prog.globalNamed "math/bits.deBruijn32tab" = some 4 := by kernel_rfl
theorem g5 : Tryd.prog.globalNamed "math/bits.deBruijn64tab" = some 5 := by kernel_rfl

theorem holds_of_laid {W : World} (h : laidMetH Tryd.prog Rows.parseWordsRow.laid W) : Holds W 6 2 laidL := by
  have h : laidMet Tryd.prog Rows.parseWordsRow.laid W := h
  have t4 : Lib.TabIs Tryd.prog W "math/bits.deBruijn32tab" .u8 [0, 1, 28, 2, 29, 14, 24, 3, 30, 22, 20, 15, 25, 17, 4, 8, 31, 27, 13, 23, 21, 19, 16, 7, 26, 12, 18, 6, 11, 5, 10, 9] :=
    Lib.tabIs_of_head (t := 161) (e := 5) (n := 32) g4 (by kernel_rfl) (by kernel_rfl) (by kernel_rfl) (by kernel_rfl) (by kernel_rfl) h
  have h := laidMet.tail h
  have t5 : Lib.TabIs Tryd.prog W "math/bits.deBruijn64tab" .u8 [0, 1, 56, 2, 57, 49, 28, 3, 61, 58, 42, 50, 38, 29, 17, 4, 62, 47, 59, 36, 45, 43, 51, 22, 53, 39, 33, 30, 24, 18, 12, 5, 63, 55, 48, 27, 60, 41, 37, 16, 46, 35, 44, 21, 52, 32, 23, 11, 54, 26, 40, 15, 34, 20, 31, 10, 25, 14, 19, 9, 13, 8, 7, 6] :=
    Lib.tabIs_of_head (t := 162) (e := 5) (n := 64) g5 (by kernel_rfl) (by kernel_rfl) (by kernel_rfl) (by kernel_rfl) (by kernel_rfl) h
  have h := laidMet.tail h
  have t2 : Lib.TabIs Tryd.prog W "internal/strconv.uint64pow10" .u64 [1, 10, 100, 1000, 10000, 100000, 1000000, 10000000, 100000000, 1000000000, 10000000000, 100000000000, 1000000000000, 10000000000000, 100000000000000, 1000000000000000, 10000000000000000, 100000000000000000, 1000000000000000000, 10000000000000000000] :=
    Lib.tabIs_of_head (t := 154) (e := 102) (n := 20) g2 (by kernel_rfl) (by kernel_rfl) (by kernel_rfl) (by kernel_rfl) (by kernel_rfl) h
  have h := laidMet.tail h
  obtain ⟨a1, s1, e1, b1, _, _⟩ := laid_sentinel (ti := 76) (ms := #[("Error", 80)]) (ts := 9) (te := 151) (f := { name := "s", type := 9, offset := 0, embedded := false, tag := "", pkgPath := "errors", byteOffset := 0 }) h g1 (by kernel_rfl) (by kernel_rfl) errRows (by kernel_rfl) (by kernel_rfl) rfl rfl (by kernel_rfl) (by kernel_rfl) (by kernel_rfl)
  have h := laidMet.tail h
  obtain ⟨a0, s0, e0, b0, _, _⟩ := laid_sentinel (ti := 76) (ms := #[("Error", 80)]) (ts := 9) (te := 151) (f := { name := "s", type := 9, offset := 0, embedded := false, tag := "", pkgPath := "errors", byteOffset := 0 }) h g0 (by kernel_rfl) (by kernel_rfl) errRows (by kernel_rfl) (by kernel_rfl) rfl rfl (by kernel_rfl) (by kernel_rfl) (by kernel_rfl)
  obtain ⟨ty0, fr0, c0⟩ := holds_of_var g0 e0
  obtain ⟨ty1, fr1, c1⟩ := holds_of_var g1 e1
  obtain ⟨ty2, fr2, c2⟩ := holds_of_var g2 t2
  obtain ⟨ty4, fr4, c4⟩ := holds_of_var g4 t4
  obtain ⟨ty5, fr5, c5⟩ := holds_of_var g5 t5
  have q0 := at_of_cell b0
  have q1 := at_of_cell b1
  refine ⟨[a0, a1], rfl, ?_, ?_, ?_⟩
  · intro p hp
    simp only [laidL, List.mem_cons, List.not_mem_nil, or_false] at hp
    rcases hp with rfl | rfl | rfl | rfl | rfl
    · refine ⟨_, _, _, c0, holds_cells (VRs.cons (.iface _ ?_) (VRs.nil _))⟩
      have := VR.ptr (ρ := adRho 6 [a0, a1]) (c := 6) (rb := ⟨a0.block, a0.off, 0, true, false⟩) 0 rfl
      rwa [q0.2] at this
    · refine ⟨_, _, _, c1, holds_cells (VRs.cons (.iface _ ?_) (VRs.nil _))⟩
      have := VR.ptr (ρ := adRho 6 [a0, a1]) (c := 7) (rb := ⟨a1.block, a1.off, 0, true, false⟩) 0 rfl
      rwa [q1.2] at this
    · exact ⟨_, _, _, c2, holds_cells (VRs.of_flatL _ (by decide +kernel))⟩
    · exact ⟨_, _, _, c4, holds_cells (VRs.of_flatL _ (by decide +kernel))⟩
    · exact ⟨_, _, _, c5, holds_cells (VRs.of_flatL _ (by decide +kernel))⟩
  · rcases Nat.lt_or_ge 5 W.heap.size with h' | h'
    · exact h'
    · rw [Array.getElem?_eq_none h'] at c5; cases c5
  · intro a ha
    simp only [List.mem_cons, List.not_mem_nil, or_false] at ha
    rcases ha with rfl | rfl
    · exact q0.1
    · exact q1.1

theorem laidLt : ∀ p ∈ laidL, p.1 < 6 := by decide +kernel

end Go.Proofs.YtedibiiolneooaaDoor
