/- The operations' words and forms, of any number. -/
import Derived.Test.YtedibiiolneooaaDoorBase
import Derived.Test.YtedibiiolneooaaDoorC42

namespace Go.Proofs.YtedibiiolneooaaDoor
open Go Go.Can Go.RowKit
set_option maxRecDepth 100000

/-- A run: callees by the table, or else run. -/
noncomputable def runS (S : FuncId → List Value → Option Value) (A : FuncId → Tmp → Option Value) (f : FuncId) (args : Array Value) : Option (Value × List Prop) :=
  retQ (callQ Tryd.prog 6 2 laidL S [7] A 400 20 f args (roHeap 6 2 laidL))

abbrev Spec := FuncId → List Value → Option Value
abbrev SpecGood (S : Spec) : Prop := SpecOk Tryd.prog 6 2 laidL S

theorem calls_run {S : Spec} {A : FuncId → Tmp → Option Value} {f : FuncId} {args : Array Value} {v : Value} {q : List Prop} (hS : SpecGood S) (hc : runS S A f args = some (v, q)) (hq : AllP q) (ha : flatL args.toList = true) (hv : flat v = true)
    {w : World} (h : Holds w 6 2 laidL) : Calls Tryd.prog f args w fun e w' => e = .returned v ∧ Below w.heap.size w w' := by
  refine (calls_spec okP okB nGlobals (by omega) laidLt hS hc hq ha h).mono ?_
  rintro e w' ⟨⟨v', rfl, hv'⟩, hb⟩
  rw [hv' hv]
  exact ⟨rfl, hb⟩

noncomputable def retEq (r : Option (Value × List Prop)) (v0 : Value) : Bool :=
  match r with
  | some (v, []) => veq v v0
  | _ => false

noncomputable def noAns : FuncId → Tmp → Option Value := fun _ _ => none

theorem calls_eq {S : Spec} {f : FuncId} {args : Array Value} {v : Value} (hS : SpecGood S) (hc : retEq (runS S noAns f args) v = true) (ha : flatL args.toList = true) (hv : flat v = true)
    {w : World} (h : Holds w 6 2 laidL) : Calls Tryd.prog f args w fun e w' => e = .returned v ∧ Below w.heap.size w w' := by
  unfold retEq at hc
  split at hc
  · rename_i v' hr
    have e := veq_eq _ _ hc
    subst e
    exact calls_run hS hr (fun p hp => by cases hp) ha hv h
  · cases hc

def noSpec : Spec := fun _ _ => none
theorem noSpec_good : SpecGood noSpec := by intro f args v h; cases h

/-- Answers to operations, by functions and temporaries. -/
noncomputable def ans (l : List (FuncId × Tmp × Value)) : FuncId → Tmp → Option Value := fun f d =>
  List.rec (motive := fun _ => Option Value) none (fun p _ ih => match Nat.beq p.1 f, Nat.beq p.2.1 d with | true, true => some p.2.2 | _, _ => ih) l

theorem binF_lss {k : IntKind} {a b : Int} : binF .lss (.int k a) (.int k b) = some (.bool (decide (a < b))) := by rw [← ltF_eq]; cases k <;> rfl
theorem binF_gtr {k : IntKind} {a b : Int} : binF .gtr (.int k a) (.int k b) = some (.bool (decide (b < a))) := by rw [← ltF_eq]; cases k <;> rfl
theorem binF_leq {k : IntKind} {a b : Int} : binF .leq (.int k a) (.int k b) = some (.bool (!decide (b < a))) := by rw [← ltF_eq]; cases k <;> rfl
theorem binF_geq {k : IntKind} {a b : Int} : binF .geq (.int k a) (.int k b) = some (.bool (!decide (a < b))) := by rw [← ltF_eq]; cases k <;> rfl
theorem binF_eql {k : IntKind} {a b : Int} : binF .eql (.int k a) (.int k b) = some (.bool (decide (a = b))) := by rw [← eqF_eq]; cases k <;> rfl
theorem binF_neq {k : IntKind} {a b : Int} : binF .neq (.int k a) (.int k b) = some (.bool (!decide (a = b))) := by rw [← eqF_eq]; cases k <;> rfl
theorem binF_seql {s u : ByteArray} : binF .eql (.string s) (.string u) = some (.bool (s.data.toList == u.data.toList)) := by rw [← bytesF_eq]; rfl
theorem binF_sneq {s u : ByteArray} : binF .neq (.string s) (.string u) = some (.bool (!(s.data.toList == u.data.toList))) := by rw [← bytesF_eq]; rfl

/-- The operations' words and forms. -/
def rowsW : List (List UInt8 × List UInt8) := [
  ([99, 111, 110, 115, 116], [114, 110]), ([109, 111, 118, 101], [114, 114]), ([97, 100, 100], [114, 114, 114]), ([115, 117, 98], [114, 114, 114]), ([109, 117, 108], [114, 114, 114]),
  ([108, 101, 115, 115], [114, 114, 114]), ([101, 113, 117, 97, 108], [114, 114, 114]), ([106, 117, 109, 112], [120]), ([122, 101, 114, 111], [114, 120]), ([112, 114, 105, 110, 116], [114]),
  ([114, 101, 97, 100], [114, 120]), ([119, 114, 105, 116, 101], [114, 120]), ([108, 111, 111, 107], [114, 120]), ([115, 101, 116], [114, 120]), ([108, 111, 99, 107], [120]),
  ([117, 110, 108, 111, 99, 107], [120]), ([102, 111, 114, 107], [120]), ([106, 111, 105, 110], [120]), ([98, 97, 114, 114, 105, 101, 114], [120]), ([101, 120, 105, 116], [])]

def rowAt (op : Int) : List UInt8 × List UInt8 := if 1 ≤ op ∧ op ≤ 20 then rowsW.getD (op - 1).toNat ([], []) else ([], [])
def formV (op : Int) : Value := .tuple #[.string ⟨⟨(rowAt op).1⟩⟩, .string ⟨⟨(rowAt op).2⟩⟩]

theorem form_in : ((List.range 20).all fun k => retEq (runS noSpec noAns 8 #[.int .i64 (Int.ofNat (k + 1))]) (formV (Int.ofNat (k + 1)))) = true := by decide +kernel
theorem form_lo (op : Int) : runS noSpec (ans [(8, 8, .bool true)]) 8 #[.int .i64 op] = some (.tuple #[.string ⟨#[]⟩, .string ⟨#[]⟩], [binF .lss (.int .i64 op) (.int .i64 1) = some (.bool true)]) := by kernel_rfl
theorem form_hi (op : Int) : runS noSpec (ans [(8, 8, .bool false), (8, 11, .bool true)]) 8 #[.int .i64 op] = some (.tuple #[.string ⟨#[]⟩, .string ⟨#[]⟩], [binF .lss (.int .i64 op) (.int .i64 1) = some (.bool false), binF .gtr (.int .i64 op) (.int .i64 20) = some (.bool true)]) := by kernel_rfl

theorem form_calls (op : Int) {w : World} (h : Holds w 6 2 laidL) : Calls Tryd.prog 8 #[.int .i64 op] w fun e w' => e = .returned (formV op) ∧ Below w.heap.size w w' := by
  by_cases h1 : op < 1
  · have e : formV op = .tuple #[.string ⟨#[]⟩, .string ⟨#[]⟩] := by simp [formV, rowAt, show ¬ (1 ≤ op) by omega]
    rw [e]
    exact calls_run noSpec_good (form_lo op) (by intro p hp; simp only [List.mem_singleton] at hp; subst hp; rw [binF_lss]; simp [h1]) rfl rfl h
  · by_cases h2 : 20 < op
    · have e : formV op = .tuple #[.string ⟨#[]⟩, .string ⟨#[]⟩] := by simp [formV, rowAt, show ¬ (op ≤ 20) by omega]
      rw [e]
      refine calls_run noSpec_good (form_hi op) ?_ rfl rfl h
      intro p hp
      simp only [List.mem_cons, List.not_mem_nil, or_false] at hp
      rcases hp with rfl | rfl
      · rw [binF_lss]; simp [h1]
      · rw [binF_gtr]; simp [h2]
    · obtain ⟨k, hk, rfl⟩ : ∃ k : Nat, k < 20 ∧ op = Int.ofNat (k + 1) := ⟨(op - 1).toNat, by omega, by simp; omega⟩
      exact calls_eq noSpec_good (List.all_eq_true.mp form_in k (List.mem_range.2 hk)) rfl rfl h
end Go.Proofs.YtedibiiolneooaaDoor
