/- Pieces of the interpreter, made for quick evaluation: each is the plain one. -/
import Derived.Test.YtedibiiolneooaaDoorCc

namespace Go.Can
open Go

/-! ## Tries -/

noncomputable def getF {α : Type} (t : Tr α) : Nat → Option α :=
  Tr.rec (motive := fun _ => Nat → Option α) (fun _ => none)
    (fun _ v _ gl gr n => Nat.rec (motive := fun _ => Option α) v
      (fun m _ => Bool.rec (motive := fun _ => Option α) (gr (Nat.div m (nat_lit 2))) (gl (Nat.div m (nat_lit 2))) (Nat.beq (Nat.mod m (nat_lit 2)) (nat_lit 0))) n) t

noncomputable def forceT {α β : Type} (t : Tr α) (k : Tr α → β) : β :=
  Tr.rec (motive := fun _ => β) (k .nil) (fun l v r _ _ => k (.node l v r)) t

noncomputable def singleF {α : Type} (x : α) : Nat → Nat → Tr α :=
  Nat.rec (motive := fun _ => Nat → Tr α) (fun n => Nat.rec (motive := fun _ => Tr α) (.node .nil (some x) .nil) (fun _ _ => .nil) n)
    (fun _ ih n => Nat.rec (motive := fun _ => Tr α) (.node .nil (some x) .nil)
      (fun m _ => Bool.rec (motive := fun _ => Tr α) (.node .nil none (ih (Nat.div m (nat_lit 2)))) (.node (ih (Nat.div m (nat_lit 2))) none .nil) (Nat.beq (Nat.mod m (nat_lit 2)) (nat_lit 0))) n)

noncomputable def setF {α : Type} (x : α) (t : Tr α) : Nat → Tr α :=
  Tr.rec (motive := fun _ => Nat → Tr α) (fun n => singleF x n n)
    (fun l v r sl sr n => Nat.rec (motive := fun _ => Tr α) (.node l (some x) r)
      (fun m _ => Bool.rec (motive := fun _ => Tr α) (forceT (sr (Nat.div m (nat_lit 2))) fun r' => .node l v r') (forceT (sl (Nat.div m (nat_lit 2))) fun l' => .node l' v r) (Nat.beq (Nat.mod m (nat_lit 2)) (nat_lit 0))) n) t

theorem forceT_eq {α β : Type} (t : Tr α) (k : Tr α → β) : forceT t k = k t := by cases t <;> rfl

theorem beqB (m : Nat) : Nat.beq (Nat.mod m (nat_lit 2)) (nat_lit 0) = decide (m % 2 = 0) := by
  have : Nat.beq (m % 2) 0 = decide (m % 2 = 0) := by
    by_cases h : m % 2 = 0
    · simp [h]
    · simp only [h, decide_false]
      cases hb : Nat.beq (m % 2) 0 with
      | false => rfl
      | true => exact absurd (Nat.eq_of_beq_eq_true hb) h
  exact this

theorem getF_eq {α : Type} (t : Tr α) : getF t = t.get := by
  induction t with
  | nil => funext n; rw [Tr.get_nil]; rfl
  | node l v r ihl ihr =>
    funext n
    cases n with
    | zero => rfl
    | succ m =>
      show Bool.rec (motive := fun _ => Option α) (getF r (m / 2)) (getF l (m / 2)) (Nat.beq (Nat.mod m (nat_lit 2)) (nat_lit 0)) = _
      rw [beqB, ihl, ihr]
      by_cases h : m % 2 = 0 <;> simp [h, Tr.get]

theorem singleF_eq {α : Type} (x : α) : ∀ (j k n : Nat), n ≤ j → n ≤ k → singleF x j n = Tr.put k .nil n x := by
  intro j
  induction j with
  | zero =>
    intro k n hj hk
    obtain rfl : n = 0 := by omega
    cases k <;> rfl
  | succ j ih =>
    intro k n hj hk
    cases n with
    | zero => cases k <;> rfl
    | succ m =>
      cases k with
      | zero => omega
      | succ k =>
        show Bool.rec (motive := fun _ => Tr α) (.node .nil none (singleF x j (m / 2))) (.node (singleF x j (m / 2)) none .nil) (Nat.beq (Nat.mod m (nat_lit 2)) (nat_lit 0)) = _
        rw [beqB, ih k (m / 2) (by omega) (by omega)]
        by_cases h : m % 2 = 0 <;> simp [h, Tr.put]

theorem setF_put {α : Type} (x : α) (t : Tr α) : ∀ (k n : Nat), n ≤ k → setF x t n = Tr.put k t n x := by
  induction t with
  | nil => intro k n h; exact singleF_eq x n k n (Nat.le_refl _) h
  | node l v r ihl ihr =>
    intro k n hk
    cases n with
    | zero => cases k <;> rfl
    | succ m =>
      cases k with
      | zero => omega
      | succ k =>
        show Bool.rec (motive := fun _ => Tr α) (forceT (setF x r (m / 2)) fun r' => .node l v r') (forceT (setF x l (m / 2)) fun l' => .node l' v r) (Nat.beq (Nat.mod m (nat_lit 2)) (nat_lit 0)) = _
        rw [beqB, forceT_eq, forceT_eq, ihl k (m / 2) (by omega), ihr k (m / 2) (by omega)]
        by_cases h : m % 2 = 0 <;> simp [h, Tr.put]

theorem setF_eq {α : Type} (x : α) (t : Tr α) (n : Nat) : setF x t n = t.set n x := setF_put x t n n (Nat.le_refl _)

/-! ## Numbers -/

noncomputable def succF {β : Type} (n : Nat) (k : Nat → β) : β := Nat.rec (motive := fun _ => β) (k (nat_lit 0)) (fun m _ => k (Nat.succ m)) n
theorem succF_eq {β : Type} (n : Nat) (k : Nat → β) : succF n k = k n := by cases n <;> rfl

def maxN : IntKind → Nat
  | .i8 => 127
  | .i16 => 32767
  | .i32 => 2147483647
  | .i64 => 9223372036854775807
  | .u8 => 255
  | .u16 => 65535
  | .u32 => 4294967295
  | .u64 => 18446744073709551615

def negN : IntKind → Nat
  | .i8 => 128
  | .i16 => 32768
  | .i32 => 2147483648
  | .i64 => 9223372036854775808
  | _ => 0

noncomputable def wrapF (k : IntKind) (n : Int) : Int :=
  Int.rec (motive := fun _ => Int)
    (fun m => Bool.rec (motive := fun _ => Int) (k.wrap (.ofNat m)) (succF m .ofNat) (Nat.ble m (maxN k)))
    (fun m => Bool.rec (motive := fun _ => Int) (k.wrap (.negSucc m)) (succF m .negSucc) (Nat.ble (Nat.succ m) (negN k))) n

theorem wrapF_eq (k : IntKind) (n : Int) : wrapF k n = k.wrap n := by
  cases n with
  | ofNat m =>
    show Bool.rec (motive := fun _ => Int) (k.wrap (.ofNat m)) (succF m .ofNat) (Nat.ble m (maxN k)) = _
    cases h : Nat.ble m (maxN k) with
    | false => rfl
    | true =>
      have h := Nat.le_of_ble_eq_true h
      simp only [succF_eq]
      have p8 : (2 : Int) ^ 8 = 256 := rfl
      have p16 : (2 : Int) ^ 16 = 65536 := rfl
      have p32 : (2 : Int) ^ 32 = 4294967296 := rfl
      have p64 : (2 : Int) ^ 64 = 18446744073709551616 := rfl
      have q8 : (2 : Int) ^ (8 - 1) = 128 := rfl
      have q16 : (2 : Int) ^ (16 - 1) = 32768 := rfl
      have q32 : (2 : Int) ^ (32 - 1) = 2147483648 := rfl
      have q64 : (2 : Int) ^ (64 - 1) = 9223372036854775808 := rfl
      cases k <;> simp only [maxN] at h <;> simp only [IntKind.wrap, IntKind.bits, IntKind.signed, Bool.true_and, Bool.false_and, Int.ofNat_eq_natCast, ge_iff_le, p8, p16, p32, p64, q8, q16, q32, q64, decide_eq_true_eq, if_false, Bool.false_eq_true] <;> (try split) <;> omega
  | negSucc m =>
    show Bool.rec (motive := fun _ => Int) (k.wrap (.negSucc m)) (succF m .negSucc) (Nat.ble (Nat.succ m) (negN k)) = _
    cases h : Nat.ble (Nat.succ m) (negN k) with
    | false => rfl
    | true =>
      have h := Nat.le_of_ble_eq_true h
      simp only [succF_eq]
      have p8 : (2 : Int) ^ 8 = 256 := rfl
      have p16 : (2 : Int) ^ 16 = 65536 := rfl
      have p32 : (2 : Int) ^ 32 = 4294967296 := rfl
      have p64 : (2 : Int) ^ 64 = 18446744073709551616 := rfl
      have q8 : (2 : Int) ^ (8 - 1) = 128 := rfl
      have q16 : (2 : Int) ^ (16 - 1) = 32768 := rfl
      have q32 : (2 : Int) ^ (32 - 1) = 2147483648 := rfl
      have q64 : (2 : Int) ^ (64 - 1) = 9223372036854775808 := rfl
      cases k <;> simp only [negN] at h <;> simp only [IntKind.wrap, IntKind.bits, IntKind.signed, Bool.true_and, Bool.false_and, Int.negSucc_eq, ge_iff_le, p8, p16, p32, p64, q8, q16, q32, q64, decide_eq_true_eq, if_false, Bool.false_eq_true] <;> (try split) <;> omega

noncomputable def ltF (x y : Int) : Bool :=
  Int.rec (motive := fun _ => Bool)
    (fun m => Int.rec (motive := fun _ => Bool) (fun n => Nat.ble (Nat.succ m) n) (fun _ => false) y)
    (fun m => Int.rec (motive := fun _ => Bool) (fun _ => true) (fun n => Nat.ble (Nat.succ n) m) y) x

theorem ble_dec (m n : Nat) : Nat.ble m n = decide (m ≤ n) := by
  by_cases h : m ≤ n
  · simp [h, Nat.ble_eq_true_of_le]
  · simp only [h, decide_false]
    cases hb : Nat.ble m n with
    | false => rfl
    | true => exact absurd (Nat.le_of_ble_eq_true hb) h

theorem beq_dec (m n : Nat) : Nat.beq m n = decide (m = n) := by
  by_cases h : m = n
  · subst h; simp
  · simp only [h, decide_false]
    cases hb : Nat.beq m n with
    | false => rfl
    | true => exact absurd (Nat.eq_of_beq_eq_true hb) h

theorem ltF_eq (x y : Int) : ltF x y = decide (x < y) := by
  cases x <;> cases y <;> simp only [ltF, ble_dec, Int.negSucc_eq, Int.ofNat_eq_natCast] <;> (try rw [eq_comm]) <;> simp <;> omega

noncomputable def eqF (x y : Int) : Bool :=
  Int.rec (motive := fun _ => Bool)
    (fun m => Int.rec (motive := fun _ => Bool) (fun n => Nat.beq m n) (fun _ => false) y)
    (fun m => Int.rec (motive := fun _ => Bool) (fun _ => false) (fun n => Nat.beq m n) y) x

theorem eqF_eq (x y : Int) : eqF x y = decide (x = y) := by
  cases x <;> cases y <;> simp only [eqF, beq_dec, Int.negSucc_eq, Int.ofNat_eq_natCast] <;> (try rw [eq_comm]) <;> simp <;> omega

def kindN : IntKind → Nat
  | .i8 => 0
  | .i16 => 1
  | .i32 => 2
  | .i64 => 3
  | .u8 => 4
  | .u16 => 5
  | .u32 => 6
  | .u64 => 7

theorem kindN_eq {k j : IntKind} (h : Nat.beq (kindN k) (kindN j) = true) : k = j := by
  have := Nat.eq_of_beq_eq_true h
  cases k <;> cases j <;> simp [kindN] at this <;> rfl

end Go.Can
