/- Which operation's word a text is. -/
import Derived.Test.YtedibiiolneooaaDoorForm

namespace Go.Proofs.YtedibiiolneooaaDoor
open Go Go.Can Go.RowKit
set_option maxRecDepth 100000

theorem rform_in : ((List.range 20).all fun k => retEq (runS noSpec noAns 9 #[.int .i64 (Int.ofNat (k + 1))]) (formV (Int.ofNat (k + 1)))) = true := by decide +kernel
theorem rform_lo (op : Int) : runS noSpec (ans [(9, 7, .bool true)]) 9 #[.int .i64 op] = some (.tuple #[.string ⟨#[]⟩, .string ⟨#[]⟩], [binF .lss (.int .i64 op) (.int .i64 1) = some (.bool true)]) := by kernel_rfl
theorem rform_hi (op : Int) : runS noSpec (ans [(9, 7, .bool false), (9, 12, .bool true)]) 9 #[.int .i64 op] = some (.tuple #[.string ⟨#[]⟩, .string ⟨#[]⟩], [binF .lss (.int .i64 op) (.int .i64 1) = some (.bool false), binF .gtr (.int .i64 op) (.int .i64 20) = some (.bool true)]) := by kernel_rfl

theorem rform_calls (op : Int) {w : World} (h : Holds w 6 2 laidL) : Calls Tryd.prog 9 #[.int .i64 op] w fun e w' => e = .returned (formV op) ∧ Below w.heap.size w w' := by
  by_cases h1 : op < 1
  · have e : formV op = .tuple #[.string ⟨#[]⟩, .string ⟨#[]⟩] := by simp [formV, rowAt, show ¬ (1 ≤ op) by omega]
    rw [e]
    exact calls_run noSpec_good (rform_lo op) (by intro p hp; simp only [List.mem_singleton] at hp; subst hp; rw [binF_lss]; simp [h1]) rfl rfl h
  · by_cases h2 : 20 < op
    · have e : formV op = .tuple #[.string ⟨#[]⟩, .string ⟨#[]⟩] := by simp [formV, rowAt, show ¬ (op ≤ 20) by omega]
      rw [e]
      refine calls_run noSpec_good (rform_hi op) ?_ rfl rfl h
      intro p hp
      simp only [List.mem_cons, List.not_mem_nil, or_false] at hp
      rcases hp with rfl | rfl
      · rw [binF_lss]; simp [h1]
      · rw [binF_gtr]; simp [h2]
    · obtain ⟨k, hk, rfl⟩ : ∃ k : Nat, k < 20 ∧ op = Int.ofNat (k + 1) := ⟨(op - 1).toNat, by omega, by simp; omega⟩
      exact calls_eq noSpec_good (List.all_eq_true.mp rform_in k (List.mem_range.2 hk)) rfl rfl h

/-! ## Tables -/

/-- The table of one function of one text. -/
def textS (g : FuncId) (v : List UInt8 → Value) : Spec := fun f args =>
  match Nat.beq f g, args with
  | true, [.string s] => some (v s.data.toList)
  | _, _ => none

def orS (a b : Spec) : Spec := fun f args =>
  match a f args with
  | some v => some v
  | none => b f args

theorem orS_good {a b : Spec} (ha : SpecGood a) (hb : SpecGood b) : SpecGood (orS a b) := by
  intro f args v h
  unfold orS at h
  split at h
  · rename_i u hu
    simp only [Option.some.injEq] at h; subst h
    exact ha f args _ hu
  · exact hb f args v h

/-- What a function of a text gives. -/
def TextIs (g : FuncId) (v : List UInt8 → Value) : Prop := ∀ (s : ByteArray) (w : World), Holds w 6 2 laidL → Calls Tryd.prog g #[.string s] w fun e w' => e = .returned (v s.data.toList) ∧ Below w.heap.size w w'

theorem textS_good {g : FuncId} {v : List UInt8 → Value} (hv : ∀ l, flat (v l) = true) (h : TextIs g v) : SpecGood (textS g v) := by
  intro f args u hu
  unfold textS at hu
  split at hu
  · rename_i s hf
    simp only [Option.some.injEq] at hu; subst hu
    have e := Nat.eq_of_beq_eq_true hf
    subst e
    refine ⟨rfl, fun w hw => (h s w hw).mono ?_⟩
    rintro e w' ⟨rfl, hb⟩
    exact ⟨⟨_, rfl, VR.of_flat _ _ (hv _)⟩, hb⟩
  · cases hu

/-- The table of the two functions Form. -/
def formS : Spec := fun f args =>
  match Nat.beq f 8 || Nat.beq f 9, args with
  | true, [.int .i64 n] => some (formV n)
  | _, _ => none

theorem formS_good : SpecGood formS := by
  intro f args u hu
  unfold formS at hu
  split at hu
  · rename_i n hf
    simp only [Option.some.injEq] at hu; subst hu
    rw [Bool.or_eq_true] at hf
    refine ⟨rfl, fun w hw => ?_⟩
    rcases hf with hf | hf
    · have e := Nat.eq_of_beq_eq_true hf
      subst e
      refine (form_calls n hw).mono ?_
      rintro e w' ⟨rfl, hb⟩
      exact ⟨⟨_, rfl, VR.of_flat _ _ rfl⟩, hb⟩
    · have e := Nat.eq_of_beq_eq_true hf
      subst e
      refine (rform_calls n hw).mono ?_
      rintro e w' ⟨rfl, hb⟩
      exact ⟨⟨_, rfl, VR.of_flat _ _ rfl⟩, hb⟩
  · cases hu

/-! ## Words -/

def words : List (List UInt8) := rowsW.map (·.1)

/-- A text's number on a list of texts, from one on; 0: it is not there. -/
def place : List (List UInt8) → List UInt8 → Nat
  | [], _ => 0
  | w :: l, t => if w = t then 1 else (match place l t with | 0 => 0 | n + 1 => n + 2)

theorem place_zero : ∀ (l : List (List UInt8)) (t : List UInt8), place l t = 0 ↔ t ∉ l := by
  intro l
  induction l with
  | nil => intro t; simp [place]
  | cons w l ih =>
    intro t
    simp only [place]
    by_cases h : w = t
    · simp [h]
    · rw [if_neg h]
      have := ih t
      split
      · rename_i e; simp [e] at this; simp [this, Ne.symm h]
      · rename_i n e; simp [e] at this; simp [this]

def opV (l : List UInt8) : Value := .int .i64 (Int.ofNat (place words l))

theorem bytes_of (s : ByteArray) : s = ⟨⟨s.data.toList⟩⟩ := rfl

theorem op_in : (words.all fun l => retEq (runS formS noAns 14 #[.string ⟨⟨l⟩⟩]) (opV l)) = true := by decide +kernel
theorem op_out (s : ByteArray) : runS formS (ans [(14, 17, .bool false)]) 14 #[.string s] = some (.int .i64 0, words.map fun w => (binF .eql (.string ⟨⟨w⟩⟩) (.string s) = some (.bool false))) := by kernel_rfl
theorem rop_in : (words.all fun l => retEq (runS noSpec noAns 15 #[.string ⟨⟨l⟩⟩]) (opV l)) = true := by decide +kernel
theorem rop_out (s : ByteArray) : runS noSpec (ans [(15, 18, .bool false)]) 15 #[.string s] = some (.int .i64 0, words.map fun w => (binF .eql (.string ⟨⟨w⟩⟩) (.string s) = some (.bool false))) := by kernel_rfl

theorem none_of {l : List (List UInt8)} {s : ByteArray} (h : s.data.toList ∉ l) : AllP (l.map fun w => (binF .eql (.string ⟨⟨w⟩⟩) (.string s) = some (.bool false))) := by
  intro p hp
  obtain ⟨w, hw, rfl⟩ := List.mem_map.1 hp
  rw [binF_seql]
  have : ¬ (w = s.data.toList) := fun e => h (e ▸ hw)
  simp [this]

theorem op_calls : TextIs 14 opV := by
  intro s w h
  by_cases hs : s.data.toList ∈ words
  · have := List.all_eq_true.mp op_in _ hs
    exact calls_eq formS_good this rfl rfl h
  · have e : opV s.data.toList = .int .i64 0 := by unfold opV; rw [(place_zero _ _).2 hs]; rfl
    rw [e]
    exact calls_run formS_good (op_out s) (none_of hs) rfl rfl h

theorem rop_calls : TextIs 15 opV := by
  intro s w h
  by_cases hs : s.data.toList ∈ words
  · have := List.all_eq_true.mp rop_in _ hs
    exact calls_eq noSpec_good this rfl rfl h
  · have e : opV s.data.toList = .int .i64 0 := by unfold opV; rw [(place_zero _ _).2 hs]; rfl
    rw [e]
    exact calls_run noSpec_good (rop_out s) (none_of hs) rfl rfl h

end Go.Proofs.YtedibiiolneooaaDoor
