/- Whether a text is a word. -/
import Derived.Test.YtedibiiolneooaaDoorReg

namespace Go.Proofs.YtedibiiolneooaaDoor
open Go Go.Can Go.RowKit
set_option maxRecDepth 100000

/-- The table of a function of a text, of no great length. -/
def textSB (g : FuncId) (v : List UInt8 → Value) : Spec := fun f args =>
  match Nat.beq f g, args with
  | true, [.string s] => if s.size ≤ big then some (v s.data.toList) else none
  | _, _ => none

theorem textSB_good {g : FuncId} {v : List UInt8 → Value} (hv : ∀ l, flat (v l) = true) (h : TextIsB g v) : SpecGood (textSB g v) := by
  intro f args u hu
  unfold textSB at hu
  split at hu
  · rename_i s hf
    split at hu
    · rename_i hb
      simp only [Option.some.injEq] at hu; subst hu
      have e := Nat.eq_of_beq_eq_true hf
      subst e
      refine ⟨rfl, fun w hw => (h s w hb hw).mono ?_⟩
      rintro e w' ⟨rfl, hb⟩
      exact ⟨⟨_, rfl, VR.of_flat _ _ (hv _)⟩, hb⟩
    · cases hu
  · cases hu

theorem textSB_at {g : FuncId} {v : List UInt8 → Value} {s : ByteArray} (h : s.size ≤ big) : textSB g v g [.string s] = some (v s.data.toList) := by
  unfold textSB
  simp [h]

theorem textSB_ne {g f : FuncId} {v : List UInt8 → Value} {l : List Value} (h : f ≠ g) : textSB g v f l = none := by
  unfold textSB
  rw [beq_dec]
  simp [h]

theorem orS_left {a b : Spec} {f : FuncId} {l : List Value} {v : Value} (h : a f l = some v) : orS a b f l = some v := by unfold orS; rw [h]
theorem orS_right {a b : Spec} {f : FuncId} {l : List Value} {v : Value} (h : a f l = none) (h' : b f l = some v) : orS a b f l = some v := by unfold orS; rw [h]; exact h'

/-! ## Declarations' words -/

def kindWords : List (List UInt8) := [[118, 97, 114], [118, 111, 108], [109, 117, 116, 101, 120], [103, 97, 116, 101], [116, 104, 114, 101, 97, 100]]
def kindV (l : List UInt8) : Value := .int .i64 (Int.ofNat (place kindWords l))

theorem kind_in : (kindWords.all fun l => retEq (runS noSpec noAns 31 #[.string ⟨⟨l⟩⟩]) (kindV l)) = true := by decide +kernel
theorem kind_out (s : ByteArray) : runS noSpec (ans [(31, 17, .bool false)]) 31 #[.string s] = some (.int .i64 0, kindWords.map fun w => (binF .eql (.string ⟨⟨w⟩⟩) (.string s) = some (.bool false))) := by kernel_rfl

theorem kind_calls : TextIsB 31 kindV := by
  intro s w _ h
  by_cases hs : s.data.toList ∈ kindWords
  · exact calls_eq noSpec_good (List.all_eq_true.mp kind_in _ hs) rfl rfl h
  · have e : kindV s.data.toList = .int .i64 0 := by unfold kindV; rw [(place_zero _ _).2 hs]; rfl
    rw [e]
    exact calls_run noSpec_good (kind_out s) (none_of hs) rfl rfl h

/-! ## Words -/

theorem op_callsB : TextIsB 14 opV := fun s w _ h => op_calls s w h
theorem rop_callsB : TextIsB 15 opV := fun s w _ h => rop_calls s w h

def wordT : Spec := orS (textSB 14 opV) (textSB 27 regV)
def rwordT : Spec := orS (textSB 15 opV) (orS (textSB 30 regV) (textSB 31 kindV))
theorem wordT_good : SpecGood wordT := orS_good (textSB_good (fun _ => rfl) op_callsB) (textSB_good (fun _ => rfl) reg_calls)
theorem rwordT_good : SpecGood rwordT := orS_good (textSB_good (fun _ => rfl) rop_callsB) (orS_good (textSB_good (fun _ => rfl) rreg_calls) (textSB_good (fun _ => rfl) kind_calls))

def special : List (List UInt8) := words ++ (regWords ++ kindWords)
def wordB (l : List UInt8) : Bool := special.any fun w => w == l
def wordV (l : List UInt8) : Value := .bool (wordB l)

theorem word_in : (([] :: special).all fun l => retEq (runS wordT noAns 10 #[.string ⟨⟨l⟩⟩]) (wordV l)) = true := by decide +kernel
theorem rword_in : (([] :: special).all fun l => retEq (runS rwordT noAns 11 #[.string ⟨⟨l⟩⟩]) (wordV l)) = true := by decide +kernel
theorem word_out (s : ByteArray) : runS wordT (ans [(10, 4, .bool true), (10, 7, .int .i64 0), (10, 11, .int .i64 (-1)), (47, 16, .bool false)]) 10 #[.string s] =
    some (.bool false, (binF .neq (.string s) (.string ⟨#[]⟩) = some (.bool true)) :: (wordT 14 [.string s] = some (.int .i64 0)) :: (wordT 27 [.string s] = some (.int .i64 (-1))) :: (([] :: kindWords).map fun w => (binF .eql (.string s) (.string ⟨⟨w⟩⟩) = some (.bool false)))) := by kernel_rfl
theorem rword_out (s : ByteArray) : runS rwordT (ans [(11, 4, .int .i64 0), (11, 8, .int .i64 (-1)), (11, 13, .int .i64 0)]) 11 #[.string s] =
    some (.bool false, [rwordT 15 [.string s] = some (.int .i64 0), rwordT 30 [.string s] = some (.int .i64 (-1)), rwordT 31 [.string s] = some (.int .i64 0)]) := by kernel_rfl

theorem wordB_out {l : List UInt8} (h : l ∉ special) : wordV l = .bool false := by
  unfold wordV wordB
  congr 1
  rw [List.any_eq_false]
  intro w hw e
  exact h (by rw [← eq_of_beq e]; exact hw)

theorem allP_cons {a : Prop} {l : List Prop} (ha : a) (hl : AllP l) : AllP (a :: l) := by
  intro p hp
  rcases List.mem_cons.1 hp with rfl | hp
  · exact ha
  · exact hl p hp

theorem opV_out {l : List UInt8} (h : l ∉ words) : opV l = .int .i64 0 := by unfold opV; rw [(place_zero _ _).2 h]; rfl
theorem kindV_out {l : List UInt8} (h : l ∉ kindWords) : kindV l = .int .i64 0 := by unfold kindV; rw [(place_zero _ _).2 h]; rfl

theorem word_calls : TextIsB 10 wordV := by
  intro s w hb h
  by_cases hs : s.data.toList ∈ [] :: special
  · exact calls_eq wordT_good (List.all_eq_true.mp word_in _ hs) rfl rfl h
  · have h1 : s.data.toList ≠ [] := fun e => hs (by simp [e])
    have h2 : s.data.toList ∉ special := fun e => hs (by simp [e])
    have h3 : s.data.toList ∉ words := fun e => h2 (by simp [special, e])
    have h4 : s.data.toList ∉ regWords := fun e => h2 (by simp [special, e])
    have h5 : s.data.toList ∉ kindWords := fun e => h2 (by simp [special, e])
    rw [wordB_out h2]
    refine calls_run wordT_good (word_out s) (allP_cons ?_ (allP_cons ?_ (allP_cons ?_ (none_of' (l := [] :: kindWords) (by simp [h1, h5]))))) rfl rfl h
    · rw [binF_sneq]
      show some (Value.bool (!(s.data.toList == ([] : List UInt8)))) = _
      rw [beq_eq_false_iff_ne.mpr h1]; rfl
    · exact orS_left (by rw [textSB_at hb, opV_out h3])
    · exact orS_right (textSB_ne (by decide)) (by rw [textSB_at hb, regV_out h4])

theorem rword_calls : TextIsB 11 wordV := by
  intro s w hb h
  by_cases hs : s.data.toList ∈ [] :: special
  · exact calls_eq rwordT_good (List.all_eq_true.mp rword_in _ hs) rfl rfl h
  · have h2 : s.data.toList ∉ special := fun e => hs (by simp [e])
    have h3 : s.data.toList ∉ words := fun e => h2 (by simp [special, e])
    have h4 : s.data.toList ∉ regWords := fun e => h2 (by simp [special, e])
    have h5 : s.data.toList ∉ kindWords := fun e => h2 (by simp [special, e])
    rw [wordB_out h2]
    refine calls_run rwordT_good (rword_out s) (allP3 ?_ ?_ ?_) rfl rfl h
    · exact orS_left (by rw [textSB_at hb, opV_out h3])
    · exact orS_right (textSB_ne (by decide)) (orS_left (by rw [textSB_at hb, regV_out h4]))
    · exact orS_right (textSB_ne (by decide)) (orS_right (textSB_ne (by decide)) (by rw [textSB_at hb, kindV_out h5]))

end Go.Proofs.YtedibiiolneooaaDoor
