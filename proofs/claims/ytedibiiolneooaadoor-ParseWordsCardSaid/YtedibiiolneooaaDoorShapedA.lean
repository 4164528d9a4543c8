/- Whether a text has a name's letters: the document's loop over its bytes. -/
import Derived.Test.YtedibiiolneooaaDoorWord
import Derived.Test.YtedibiiolneooaaDoorC43

namespace Go.Proofs.YtedibiiolneooaaDoor
open Go Go.Can Go.RowKit
set_option maxRecDepth 100000

/-! ## A letter -/

def lb (m : Nat) : Bool := (decide (97 ≤ m) && decide (m ≤ 122)) || (decide (65 ≤ m) && decide (m ≤ 90))
theorem let_in : ((List.range 256).all fun m => retEq (runS noSpec noAns 48 #[.int .u8 (Int.ofNat m)]) (.bool (lb m))) = true := by decide +kernel

def letS : Spec := fun f args =>
  match Nat.beq f 48, args with
  | true, [.int .u8 (.ofNat m)] => if m < 256 then some (.bool (lb m)) else none
  | _, _ => none

theorem letS_good : SpecGood letS := by
  intro f args u hu
  unfold letS at hu
  split at hu
  · rename_i m hf
    split at hu
    · rename_i hm
      simp only [Option.some.injEq] at hu; subst hu
      have e := Nat.eq_of_beq_eq_true hf
      subst e
      refine ⟨rfl, fun w hw => (calls_eq noSpec_good (List.all_eq_true.mp let_in m (List.mem_range.2 hm)) rfl rfl hw).mono ?_⟩
      rintro e w' ⟨rfl, hb⟩
      exact ⟨⟨_, rfl, VR.of_flat _ _ rfl⟩, hb⟩
    · cases hu
  · cases hu

theorem letS_at {m : Nat} (h : m < 256) : letS 48 [.int .u8 (Int.ofNat m)] = some (.bool (lb m)) := by
  show (if m < 256 then some (Value.bool (lb m)) else none) = _
  rw [if_pos h]

/-- Answers to operations, by their temporaries. -/
noncomputable def ansT (l : List (Tmp × Value)) : Tmp → Option Value := fun d =>
  List.rec (motive := fun _ => Option Value) none (fun p _ ih => match Nat.beq p.1 d with | true => some p.2 | false => ih) l

noncomputable def H0 : Heap := roHeap 6 2 laidL

/-! ## The loop's round -/

noncomputable def c32 : Code := match Tryd.prog.funcs[32]? with | some fn => (match fn.body with | some c => c | none => .skip) | none => .skip
noncomputable def b32 : Code := Code.inner (Code.inner (Code.rgt (Code.lft (Code.rgt c32))))
noncomputable def q32 (K : Nat) (A : Tmp → Option Value) (a : CAct) : Option (X × CAct × Heap × List Prop) :=
  execQ Tryd.prog 6 2 laidL letS (callQ Tryd.prog 6 2 laidL letS [7] noAns 400 3) A K b32 a H0
noncomputable def e32 (K : Nat) (a : CAct) : Option (X × CAct × Heap) := exec Tryd.prog (calW Tryd.prog 6 2 laidL letS [7] 400 3) K b32 a H0

theorem e32_of {K : Nat} {A : Tmp → Option Value} {a a' : CAct} {x : X} {q : List Prop} (h : q32 K A a = some (x, a', H0, q)) (hq : AllP q) : e32 K a = some (x, a', H0) :=
  execQ_sound (callQ_sub 3) (calW_keeps 3) _ _ _ _ _ _ _ h hq

def k0 : List Nat := [0, 2, 3]
def kN : List Nat := [0, 2, 3, 4, 5, 6, 7, 10, 11, 12, 13, 14, 15, 16, 17, 18, 19, 20, 21, 22, 23, 24, 25, 26, 27, 28, 29, 30, 31, 32, 33, 34, 35, 36, 8, 9]

noncomputable def rLa (K : Nat) (x : Nat → Value) (s : ByteArray) (i m : Nat) := q32 K (ansT [(7, .bool true), (12, (.int .u8 (Int.ofNat m))), (13, .bool true), (9, (.int .i64 (Int.ofNat (i + 1))))]) (actK (upd [(0, (.string s)), (3, (.int .i64 (Int.ofNat i)))] x) k0)
theorem tLa (K : Nat) (x : Nat → Value) (s : ByteArray) (i m : Nat) : rLa K x s i m = some (.normal, actK (xOf (outA (rLa K x s i m))) kN, H0, [binF .lss (.int .i64 (Int.ofNat i)) (goInt (Int.ofNat (lenF s.data.toList (nat_lit 0)))) = some (.bool true), idxV (.string s) (.int .i64 (Int.ofNat i)) = some (.int .u8 (Int.ofNat m)), letS 48 [(.int .u8 (Int.ofNat m))] = some (.bool true), binF .add (.int .i64 (Int.ofNat i)) (.int .i64 1) = some (.int .i64 (Int.ofNat (i + 1)))]) := by kernel_rfl
theorem tLa0 (K : Nat) (x : Nat → Value) (s : ByteArray) (i m : Nat) : xOf (outA (rLa K x s i m)) 0 = (.string s) := by kernel_rfl
theorem tLa3 (K : Nat) (x : Nat → Value) (s : ByteArray) (i m : Nat) : xOf (outA (rLa K x s i m)) 3 = (.int .i64 (Int.ofNat (i + 1))) := by kernel_rfl
noncomputable def rZa (K : Nat) (x : Nat → Value) (s : ByteArray) (i m : Nat) := q32 K (ansT [(7, .bool true), (12, (.int .u8 (Int.ofNat m))), (13, .bool false), (17, .bool true)]) (actK (upd [(0, (.string s)), (3, (.int .i64 (Int.ofNat i)))] x) k0)
theorem tZa (K : Nat) (x : Nat → Value) (s : ByteArray) (i m : Nat) : rZa K x s i m = some (.ret, outA (rZa K x s i m), H0, [binF .lss (.int .i64 (Int.ofNat i)) (goInt (Int.ofNat (lenF s.data.toList (nat_lit 0)))) = some (.bool true), idxV (.string s) (.int .i64 (Int.ofNat i)) = some (.int .u8 (Int.ofNat m)), letS 48 [(.int .u8 (Int.ofNat m))] = some (.bool false), binF .eql (.int .i64 (Int.ofNat i)) (.int .i64 0) = some (.bool true)]) := by kernel_rfl
theorem tZad (K : Nat) (x : Nat → Value) (s : ByteArray) (i m : Nat) : (outA (rZa K x s i m)).defers = [] := by kernel_rfl
theorem tZa2 (K : Nat) (x : Nat → Value) (s : ByteArray) (i m : Nat) : xOf (outA (rZa K x s i m)) 2 = .bool false := by kernel_rfl
noncomputable def rLb (K : Nat) (x : Nat → Value) (s : ByteArray) (i m : Nat) := q32 K (ansT [(7, .bool true), (12, (.int .u8 (Int.ofNat m))), (13, .bool true), (9, (.int .i64 (Int.ofNat (i + 1))))]) (actK (upd [(0, (.string s)), (3, (.int .i64 (Int.ofNat i)))] x) kN)
theorem tLb (K : Nat) (x : Nat → Value) (s : ByteArray) (i m : Nat) : rLb K x s i m = some (.normal, actK (xOf (outA (rLb K x s i m))) kN, H0, [binF .lss (.int .i64 (Int.ofNat i)) (goInt (Int.ofNat (lenF s.data.toList (nat_lit 0)))) = some (.bool true), idxV (.string s) (.int .i64 (Int.ofNat i)) = some (.int .u8 (Int.ofNat m)), letS 48 [(.int .u8 (Int.ofNat m))] = some (.bool true), binF .add (.int .i64 (Int.ofNat i)) (.int .i64 1) = some (.int .i64 (Int.ofNat (i + 1)))]) := by kernel_rfl
theorem tLb0 (K : Nat) (x : Nat → Value) (s : ByteArray) (i m : Nat) : xOf (outA (rLb K x s i m)) 0 = (.string s) := by kernel_rfl
theorem tLb3 (K : Nat) (x : Nat → Value) (s : ByteArray) (i m : Nat) : xOf (outA (rLb K x s i m)) 3 = (.int .i64 (Int.ofNat (i + 1))) := by kernel_rfl
noncomputable def rUb (K : Nat) (x : Nat → Value) (s : ByteArray) (i m : Nat) := q32 K (ansT [(7, .bool true), (12, (.int .u8 (Int.ofNat m))), (13, .bool false), (17, .bool false), (21, (.int .u8 (Int.ofNat m))), (22, .bool false), (9, (.int .i64 (Int.ofNat (i + 1))))]) (actK (upd [(0, (.string s)), (3, (.int .i64 (Int.ofNat i)))] x) kN)
theorem tUb (K : Nat) (x : Nat → Value) (s : ByteArray) (i m : Nat) : rUb K x s i m = some (.normal, actK (xOf (outA (rUb K x s i m))) kN, H0, [binF .lss (.int .i64 (Int.ofNat i)) (goInt (Int.ofNat (lenF s.data.toList (nat_lit 0)))) = some (.bool true), idxV (.string s) (.int .i64 (Int.ofNat i)) = some (.int .u8 (Int.ofNat m)), letS 48 [(.int .u8 (Int.ofNat m))] = some (.bool false), binF .eql (.int .i64 (Int.ofNat i)) (.int .i64 0) = some (.bool false), idxV (.string s) (.int .i64 (Int.ofNat i)) = some (.int .u8 (Int.ofNat m)), binF .neq (.int .u8 (Int.ofNat m)) (.int .u8 95) = some (.bool false), binF .add (.int .i64 (Int.ofNat i)) (.int .i64 1) = some (.int .i64 (Int.ofNat (i + 1)))]) := by kernel_rfl
theorem tUb0 (K : Nat) (x : Nat → Value) (s : ByteArray) (i m : Nat) : xOf (outA (rUb K x s i m)) 0 = (.string s) := by kernel_rfl
theorem tUb3 (K : Nat) (x : Nat → Value) (s : ByteArray) (i m : Nat) : xOf (outA (rUb K x s i m)) 3 = (.int .i64 (Int.ofNat (i + 1))) := by kernel_rfl
noncomputable def rDb (K : Nat) (x : Nat → Value) (s : ByteArray) (i m : Nat) := q32 K (ansT [(7, .bool true), (12, (.int .u8 (Int.ofNat m))), (13, .bool false), (17, .bool false), (21, (.int .u8 (Int.ofNat m))), (22, .bool true), (26, (.int .u8 (Int.ofNat m))), (27, .bool false), (31, (.int .u8 (Int.ofNat m))), (32, .bool false), (9, (.int .i64 (Int.ofNat (i + 1))))]) (actK (upd [(0, (.string s)), (3, (.int .i64 (Int.ofNat i)))] x) kN)
theorem tDb (K : Nat) (x : Nat → Value) (s : ByteArray) (i m : Nat) : rDb K x s i m = some (.normal, actK (xOf (outA (rDb K x s i m))) kN, H0, [binF .lss (.int .i64 (Int.ofNat i)) (goInt (Int.ofNat (lenF s.data.toList (nat_lit 0)))) = some (.bool true), idxV (.string s) (.int .i64 (Int.ofNat i)) = some (.int .u8 (Int.ofNat m)), letS 48 [(.int .u8 (Int.ofNat m))] = some (.bool false), binF .eql (.int .i64 (Int.ofNat i)) (.int .i64 0) = some (.bool false), idxV (.string s) (.int .i64 (Int.ofNat i)) = some (.int .u8 (Int.ofNat m)), binF .neq (.int .u8 (Int.ofNat m)) (.int .u8 95) = some (.bool true), idxV (.string s) (.int .i64 (Int.ofNat i)) = some (.int .u8 (Int.ofNat m)), binF .lss (.int .u8 (Int.ofNat m)) (.int .u8 48) = some (.bool false), idxV (.string s) (.int .i64 (Int.ofNat i)) = some (.int .u8 (Int.ofNat m)), binF .gtr (.int .u8 (Int.ofNat m)) (.int .u8 57) = some (.bool false), binF .add (.int .i64 (Int.ofNat i)) (.int .i64 1) = some (.int .i64 (Int.ofNat (i + 1)))]) := by kernel_rfl
theorem tDb0 (K : Nat) (x : Nat → Value) (s : ByteArray) (i m : Nat) : xOf (outA (rDb K x s i m)) 0 = (.string s) := by kernel_rfl
theorem tDb3 (K : Nat) (x : Nat → Value) (s : ByteArray) (i m : Nat) : xOf (outA (rDb K x s i m)) 3 = (.int .i64 (Int.ofNat (i + 1))) := by kernel_rfl
noncomputable def rBb (K : Nat) (x : Nat → Value) (s : ByteArray) (i m : Nat) := q32 K (ansT [(7, .bool true), (12, (.int .u8 (Int.ofNat m))), (13, .bool false), (17, .bool false), (21, (.int .u8 (Int.ofNat m))), (22, .bool true), (26, (.int .u8 (Int.ofNat m))), (27, .bool true)]) (actK (upd [(0, (.string s)), (3, (.int .i64 (Int.ofNat i)))] x) kN)
theorem tBb (K : Nat) (x : Nat → Value) (s : ByteArray) (i m : Nat) : rBb K x s i m = some (.ret, outA (rBb K x s i m), H0, [binF .lss (.int .i64 (Int.ofNat i)) (goInt (Int.ofNat (lenF s.data.toList (nat_lit 0)))) = some (.bool true), idxV (.string s) (.int .i64 (Int.ofNat i)) = some (.int .u8 (Int.ofNat m)), letS 48 [(.int .u8 (Int.ofNat m))] = some (.bool false), binF .eql (.int .i64 (Int.ofNat i)) (.int .i64 0) = some (.bool false), idxV (.string s) (.int .i64 (Int.ofNat i)) = some (.int .u8 (Int.ofNat m)), binF .neq (.int .u8 (Int.ofNat m)) (.int .u8 95) = some (.bool true), idxV (.string s) (.int .i64 (Int.ofNat i)) = some (.int .u8 (Int.ofNat m)), binF .lss (.int .u8 (Int.ofNat m)) (.int .u8 48) = some (.bool true)]) := by kernel_rfl
theorem tBbd (K : Nat) (x : Nat → Value) (s : ByteArray) (i m : Nat) : (outA (rBb K x s i m)).defers = [] := by kernel_rfl
theorem tBb2 (K : Nat) (x : Nat → Value) (s : ByteArray) (i m : Nat) : xOf (outA (rBb K x s i m)) 2 = .bool false := by kernel_rfl
noncomputable def rCb (K : Nat) (x : Nat → Value) (s : ByteArray) (i m : Nat) := q32 K (ansT [(7, .bool true), (12, (.int .u8 (Int.ofNat m))), (13, .bool false), (17, .bool false), (21, (.int .u8 (Int.ofNat m))), (22, .bool true), (26, (.int .u8 (Int.ofNat m))), (27, .bool false), (31, (.int .u8 (Int.ofNat m))), (32, .bool true)]) (actK (upd [(0, (.string s)), (3, (.int .i64 (Int.ofNat i)))] x) kN)
theorem tCb (K : Nat) (x : Nat → Value) (s : ByteArray) (i m : Nat) : rCb K x s i m = some (.ret, outA (rCb K x s i m), H0, [binF .lss (.int .i64 (Int.ofNat i)) (goInt (Int.ofNat (lenF s.data.toList (nat_lit 0)))) = some (.bool true), idxV (.string s) (.int .i64 (Int.ofNat i)) = some (.int .u8 (Int.ofNat m)), letS 48 [(.int .u8 (Int.ofNat m))] = some (.bool false), binF .eql (.int .i64 (Int.ofNat i)) (.int .i64 0) = some (.bool false), idxV (.string s) (.int .i64 (Int.ofNat i)) = some (.int .u8 (Int.ofNat m)), binF .neq (.int .u8 (Int.ofNat m)) (.int .u8 95) = some (.bool true), idxV (.string s) (.int .i64 (Int.ofNat i)) = some (.int .u8 (Int.ofNat m)), binF .lss (.int .u8 (Int.ofNat m)) (.int .u8 48) = some (.bool false), idxV (.string s) (.int .i64 (Int.ofNat i)) = some (.int .u8 (Int.ofNat m)), binF .gtr (.int .u8 (Int.ofNat m)) (.int .u8 57) = some (.bool true)]) := by kernel_rfl
theorem tCbd (K : Nat) (x : Nat → Value) (s : ByteArray) (i m : Nat) : (outA (rCb K x s i m)).defers = [] := by kernel_rfl
theorem tCb2 (K : Nat) (x : Nat → Value) (s : ByteArray) (i m : Nat) : xOf (outA (rCb K x s i m)) 2 = .bool false := by kernel_rfl

noncomputable def rE (K : Nat) (x : Nat → Value) (s : ByteArray) (i : Nat) := q32 K (ansT [(7, .bool false)]) (actK (upd [(0, (.string s)), (3, (.int .i64 (Int.ofNat i)))] x) kN)
theorem tE (K : Nat) (x : Nat → Value) (s : ByteArray) (i : Nat) : rE K x s i = some (.exit 0, actK (xOf (outA (rE K x s i))) kN, H0, [binF .lss (.int .i64 (Int.ofNat i)) (goInt (Int.ofNat (lenF s.data.toList (nat_lit 0)))) = some (.bool false)]) := by kernel_rfl
theorem tE0 (K : Nat) (x : Nat → Value) (s : ByteArray) (i : Nat) : xOf (outA (rE K x s i)) 0 = (.string s) := by kernel_rfl

end Go.Proofs.YtedibiiolneooaaDoor
