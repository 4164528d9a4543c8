/- Values' operations of the interpreter, made for quick evaluation. -/
import Derived.Test.YtedibiiolneooaaDoorC35

namespace Go.Can
open Go

noncomputable def intBinF (op : BinOp) (k : IntKind) (a b : Int) : Option Value :=
  match op with
  | .add => some (.int k (wrapF k (Int.add a b)))
  | .sub => some (.int k (wrapF k (Int.sub a b)))
  | .mul => some (.int k (wrapF k (Int.mul a b)))
  | .eql => some (.bool (eqF a b))
  | .neq => some (.bool (not (eqF a b)))
  | .lss => some (.bool (ltF a b))
  | .leq => some (.bool (not (ltF b a)))
  | .gtr => some (.bool (ltF b a))
  | .geq => some (.bool (not (ltF a b)))
  | .quo =>
    (match a, b with
    | .ofNat m, .ofNat (n + 1) => some (.int k (wrapF k (.ofNat (Nat.div m (Nat.succ n)))))
    | _, _ => none)
  | .rem =>
    (match a, b with
    | .ofNat m, .ofNat (n + 1) => some (.int k (succF (Nat.mod m (Nat.succ n)) .ofNat))
    | _, _ => none)
  | .and =>
    (match a, b with
    | .ofNat m, .ofNat n => (match Nat.ble m (maxN k), Nat.ble n (maxN k) with | true, true => some (.int k (wrapF k (.ofNat (Nat.land m n)))) | _, _ => none)
    | _, _ => none)
  | .or =>
    (match a, b with
    | .ofNat m, .ofNat n => (match Nat.ble m (maxN k), Nat.ble n (maxN k) with | true, true => some (.int k (wrapF k (.ofNat (Nat.lor m n)))) | _, _ => none)
    | _, _ => none)
  | .xor =>
    (match a, b with
    | .ofNat m, .ofNat n => (match Nat.ble m (maxN k), Nat.ble n (maxN k) with | true, true => some (.int k (wrapF k (.ofNat (Nat.xor m n)))) | _, _ => none)
    | _, _ => none)
  | _ => none

noncomputable def shiftF (op : BinOp) (k : IntKind) (a b : Int) : Option Value :=
  match op, a, b with
  | .shl, .ofNat m, .ofNat n => (match Nat.ble n k.bits with | true => some (.int k (wrapF k (.ofNat (Nat.mul m (Nat.pow (nat_lit 2) n))))) | false => none)
  | .shr, .ofNat m, .ofNat n => (match Nat.ble n k.bits with | true => some (.int k (succF (Nat.div m (Nat.pow (nat_lit 2) n)) .ofNat)) | false => none)
  | _, _, _ => none

noncomputable def bytesF (l : List UInt8) : List UInt8 → Bool :=
  List.rec (motive := fun _ => List UInt8 → Bool)
    (fun m => List.rec (motive := fun _ => Bool) true (fun _ _ _ => false) m)
    (fun x _ ih m => List.rec (motive := fun _ => Bool) false (fun y m' _ => Bool.rec (motive := fun _ => Bool) false (ih m') (Nat.beq x.toNat y.toNat)) m) l

theorem bytesF_eq : ∀ l m : List UInt8, bytesF l m = (l == m) := by
  intro l
  induction l with
  | nil => intro m; cases m <;> rfl
  | cons x l ih =>
    intro m
    cases m with
    | nil => rfl
    | cons y m =>
      show Bool.rec (motive := fun _ => Bool) false (bytesF l m) (Nat.beq x.toNat y.toNat) = _
      rw [ih, beq_dec]
      by_cases h : x = y
      · subst h; simp
      · have : ¬ x.toNat = y.toNat := fun e => h (UInt8.toNat.inj e)
        simp [this, h]

noncomputable def strBinF (op : BinOp) (s u : ByteArray) : Option Value :=
  match op with
  | .eql => some (.bool (bytesF s.data.toList u.data.toList))
  | .neq => some (.bool (not (bytesF s.data.toList u.data.toList)))
  | .add =>
    (match Nat.ble (lenF s.data.toList (lenF u.data.toList (nat_lit 0))) (nat_lit 9223372036854775807) with
    | true => some (.string ⟨⟨appF s.data.toList u.data.toList⟩⟩)
    | false => none)
  | _ => none

noncomputable def binF (op : BinOp) (x y : Value) : Option Value :=
  match x with
  | .int k a =>
    (match y with
    | .int j b =>
      (match shiftF op k a b with
      | some v => some v
      | none =>
        match Nat.beq (kindN k) (kindN j) with
        | true => intBinF op k a b
        | false => none)
    | _ => none)
  | .string s => (match y with | .string u => strBinF op s u | _ => none)
  | _ => none

variable {P : Program}

theorem guard_int {op : BinOp} {t : TypeId} {xo yo : Operand} {k j : IntKind} {a b : Int} : pureRun P (eqGuard op t xo yo (.int k a) (.int j b)) = some (.ok ()) := by
  cases op <;> rfl

theorem guard_str {op : BinOp} {t : TypeId} {xo yo : Operand} {a b : ByteArray} : pureRun P (eqGuard op t xo yo (.string a) (.string b)) = some (.ok ()) := by
  cases op <;> rfl

theorem ofInt_small (k : IntKind) (m : Nat) : BitVec.ofInt k.bits (Int.ofNat m) = BitVec.ofNat k.bits m := by
  simp

theorem maxN_lt (k : IntKind) {m : Nat} (h : Nat.ble m (maxN k) = true) : m < 2 ^ k.bits := by
  have h := Nat.le_of_ble_eq_true h
  cases k <;> simp only [maxN] at h <;> simp only [IntKind.bits] <;> omega

theorem intBinF_sound {op : BinOp} {k : IntKind} {a b : Int} {v : Value} {t : TypeId} (h : intBinF op k a b = some v) : pureRun P (binOp op t (.int k a) (.int k b)) = some (.ok v) := by
  cases op <;> simp only [intBinF] at h
  case add => simp at h; subst h; simp [binOp, Op.intArith, pureRun_pure, wrapF_eq] <;> rfl
  case sub => simp at h; subst h; simp [binOp, Op.intArith, pureRun_pure, wrapF_eq] <;> rfl
  case mul => simp at h; subst h; simp [binOp, Op.intArith, pureRun_pure, wrapF_eq] <;> rfl
  case eql => simp at h; subst h; simp only [binOp, Op.intCmp, pureRun_pure, eqF_eq, ne_eq, not_true_eq_false, if_false] <;> rfl
  case neq => simp at h; subst h; simp only [binOp, Op.intCmp, pureRun_pure, eqF_eq, ne_eq, not_true_eq_false, if_false] <;> rfl
  case lss => simp at h; subst h; simp only [binOp, Op.intCmp, pureRun_pure, ltF_eq, ne_eq, not_true_eq_false, if_false]
  case gtr => simp at h; subst h; simp only [binOp, Op.intCmp, pureRun_pure, ltF_eq, ne_eq, not_true_eq_false, if_false] <;> rfl
  case leq =>
    simp at h; subst h
    have : (!decide (b < a)) = decide (a ≤ b) := by by_cases hh : b < a <;> simp [hh] <;> omega
    simp only [binOp, Op.intCmp, pureRun_pure, ltF_eq, ne_eq, not_true_eq_false, if_false, this]
  case geq =>
    simp at h; subst h
    have : (!decide (a < b)) = decide (a ≥ b) := by by_cases hh : a < b <;> simp [hh] <;> omega
    simp only [binOp, Op.intCmp, pureRun_pure, ltF_eq, ne_eq, not_true_eq_false, if_false, this]
  case quo =>
    split at h
    · rename_i m n
      simp at h; subst h
      have hz : ¬ (Int.ofNat (n + 1) = 0) := by simp; omega
      simp only [binOp, ne_eq, not_true_eq_false, if_false, Op.intDiv, if_neg hz, pureRun_pure, wrapF_eq]
      rfl
    · cases h
  case rem =>
    split at h
    · rename_i m n
      simp at h; subst h
      have hz : ¬ (Int.ofNat (n + 1) = 0) := by simp; omega
      simp only [binOp, ne_eq, not_true_eq_false, if_false, Op.intDiv, if_neg hz, pureRun_pure, succF_eq]
      rfl
    · cases h
  case and =>
    split at h
    · rename_i m n
      split at h
      · rename_i hm hn
        simp at h; subst h
        simp only [binOp, ne_eq, not_true_eq_false, if_false, Op.intBits, pureRun_pure, wrapF_eq, ofInt_small, BitVec.toNat_and, BitVec.toNat_ofNat, Nat.mod_eq_of_lt (maxN_lt k hm), Nat.mod_eq_of_lt (maxN_lt k hn)] <;> rfl
      · cases h
    · cases h
  case or =>
    split at h
    · rename_i m n
      split at h
      · rename_i hm hn
        simp at h; subst h
        simp only [binOp, ne_eq, not_true_eq_false, if_false, Op.intBits, pureRun_pure, wrapF_eq, ofInt_small, BitVec.toNat_or, BitVec.toNat_ofNat, Nat.mod_eq_of_lt (maxN_lt k hm), Nat.mod_eq_of_lt (maxN_lt k hn)] <;> rfl
      · cases h
    · cases h
  case xor =>
    split at h
    · rename_i m n
      split at h
      · rename_i hm hn
        simp at h; subst h
        simp only [binOp, ne_eq, not_true_eq_false, if_false, Op.intBits, pureRun_pure, wrapF_eq, ofInt_small, BitVec.toNat_xor, BitVec.toNat_ofNat, Nat.mod_eq_of_lt (maxN_lt k hm), Nat.mod_eq_of_lt (maxN_lt k hn)] <;> rfl
      · cases h
    · cases h
  all_goals cases h

theorem shiftF_sound {op : BinOp} {k j : IntKind} {a b : Int} {v : Value} {t : TypeId} (h : shiftF op k a b = some v) : pureRun P (binOp op t (.int k a) (.int j b)) = some (.ok v) := by
  unfold shiftF at h
  split at h
  · rename_i m n
    split at h
    · rename_i hb
      have hb := Nat.le_of_ble_eq_true hb
      have hm : min (Int.ofNat n).toNat k.bits = n := by simp; omega
      have hn : ¬ (Int.ofNat n < 0) := by simp
      simp at h; subst h
      simp only [binOp, Op.shift, if_neg hn, hm, pureRun_pure, wrapF_eq]
      have : Int.ofNat (Nat.mul m (Nat.pow 2 n)) = Int.ofNat m * 2 ^ n := by
        show ((m * 2 ^ n : Nat) : Int) = (m : Int) * 2 ^ n
        simp
      rw [← this]; rfl
    · cases h
  · rename_i m n
    split at h
    · rename_i hb
      have hb := Nat.le_of_ble_eq_true hb
      have hm : min (Int.ofNat n).toNat k.bits = n := by simp; omega
      have hn : ¬ (Int.ofNat n < 0) := by simp
      simp at h; subst h
      simp only [binOp, Op.shift, if_neg hn, hm, pureRun_pure, succF_eq]
      have : Int.ofNat (Nat.div m (Nat.pow 2 n)) = (Int.ofNat m).fdiv (2 ^ n) := by
        show ((m / 2 ^ n : Nat) : Int) = (m : Int).fdiv (2 ^ n)
        have e : ((2 : Int) ^ n) = ((2 ^ n : Nat) : Int) := by simp
        rw [e]; exact Int.ofNat_fdiv m (2 ^ n)
      rw [← this]; rfl
    · cases h
  · cases h

theorem size_data (s : ByteArray) : s.size = s.data.toList.length := by rw [Array.length_toList]; rfl
theorem loop_eq (s : ByteArray) : ∀ (n i : Nat) (r : List UInt8), s.size - i = n → ByteArray.toList.loop s i r = r.reverse ++ s.data.toList.drop i := by
  intro n
  induction n with
  | zero =>
    intro i r h
    rw [ByteArray.toList.loop]
    have e := size_data s
    have hd : s.data.toList.drop i = [] := by apply List.drop_eq_nil_of_le; omega
    rw [if_neg (by omega), hd]; simp
  | succ n ih =>
    intro i r h
    rw [ByteArray.toList.loop]
    rw [if_pos (by omega), ih (i + 1) _ (by omega)]
    have e := size_data s
    have hi : i < s.data.toList.length := by omega
    rw [List.drop_eq_getElem_cons hi]
    have hi' : i < s.data.size := by rw [← Array.length_toList]; exact hi
    have hg : s.data[i]! = s.data[i] := getElem!_pos s.data i hi'
    simp [ByteArray.get!, hg]
theorem toList_data (s : ByteArray) : s.toList = s.data.toList := by
  unfold ByteArray.toList
  rw [loop_eq s _ 0 [] rfl]; simp

theorem strBinF_sound {op : BinOp} {s u : ByteArray} {v : Value} {t : TypeId} (h : strBinF op s u = some v) : pureRun P (binOp op t (.string s) (.string u)) = some (.ok v) := by
  cases op <;> simp only [strBinF] at h
  case eql => simp at h; subst h; simp only [binOp, Op.stringOp, pureRun_pure, bytesF_eq, toList_data]
  case neq => simp at h; subst h; simp only [binOp, Op.stringOp, pureRun_pure, bytesF_eq, toList_data]
  case add =>
    split at h
    · rename_i hb
      simp at h; subst h
      have hb := Nat.le_of_ble_eq_true hb
      rw [lenF_eq, lenF_eq] at hb
      have hs : ¬ (((s.size + u.size : Nat) : Int) > IntKind.i64.max) := by
        have e : IntKind.i64.max = 9223372036854775807 := rfl
        have e1 := size_data s
        have e2 := size_data u
        rw [e, e1, e2]
        omega
      simp only [binOp, Op.stringOp, if_neg hs, pureRun_pure, appF_eq]
      have e : (⟨⟨s.data.toList ++ u.data.toList⟩⟩ : ByteArray) = s ++ u := by
        apply ByteArray.ext
        apply Array.ext'
        simp
      rw [e]
    · cases h
  all_goals cases h

theorem binF_sound {op : BinOp} {x y v : Value} {t : TypeId} {xo yo : Operand} (h : binF op x y = some v) : flat x = true ∧ flat y = true ∧ flat v = true ∧ pureRun P (do eqGuard op t xo yo x y; binOp op t x y) = some (.ok v) := by
  unfold binF at h
  split at h
  · rename_i k a
    split at h
    · rename_i j b
      split at h
      · rename_i v' hs
        simp at h; subst h
        refine ⟨rfl, rfl, ?_, ?_⟩
        · unfold shiftF at hs
          split at hs
          · split at hs
            · simp at hs; subst hs; rfl
            · cases hs
          · split at hs
            · simp at hs; subst hs; rfl
            · cases hs
          · cases hs
        · rw [pureRun_bind, guard_int]
          exact shiftF_sound hs
      · split at h
        · rename_i hk
          have e := kindN_eq hk
          subst e
          refine ⟨rfl, rfl, ?_, ?_⟩
          · cases op <;> simp only [intBinF] at h <;> (repeat' split at h) <;> first | (simp at h; subst h; rfl) | cases h
          · rw [pureRun_bind, guard_int]
            exact intBinF_sound h
        · cases h
    · cases h
  · rename_i s
    split at h
    · rename_i u
      refine ⟨rfl, rfl, ?_, ?_⟩
      · cases op <;> simp only [strBinF] at h <;> (repeat' split at h) <;> first | (simp at h; subst h; rfl) | cases h
      · rw [pureRun_bind, guard_str]
        exact strBinF_sound h
    · cases h
  · cases h

end Go.Can
