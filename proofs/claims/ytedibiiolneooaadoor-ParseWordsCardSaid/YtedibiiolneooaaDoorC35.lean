/- Memory and lists of the interpreter, made for quick evaluation. -/
import Derived.Test.YtedibiiolneooaaDoorC34

namespace Go.Can
open Go

noncomputable def evF (t : Tr Value) (x : Operand) : Value :=
  match x with
  | .tmp n => (match getF t n with | some v => v | none => undef)
  | .const v => v
  | .global g => .pointer (some ⟨g, 0, none⟩)
  | .func f => .func (.func f) #[] #[]

theorem evF_eq (a : CAct) : evF a.t = a.eval := by
  funext x
  cases x <;> simp only [evF, CAct.eval, CAct.get, getF_eq]
  split <;> simp_all

/-! ## Lists -/

noncomputable def nthF {α : Type} (l : List α) : Nat → Option α :=
  List.rec (motive := fun _ => Nat → Option α) (fun _ => none) (fun x _ ih n => Nat.rec (motive := fun _ => Option α) (some x) (fun m _ => ih m) n) l

theorem nthF_eq {α : Type} : ∀ (l : List α) (n : Nat), nthF l n = l[n]? := by
  intro l
  induction l with
  | nil => intro n; simp [nthF]
  | cons x l ih =>
    intro n
    cases n with
    | zero => rfl
    | succ m => exact (ih m).trans (by simp)

noncomputable def dropF {α : Type} (n : Nat) : List α → List α :=
  Nat.rec (motive := fun _ => List α → List α) (fun l => l) (fun _ ih l => List.rec (motive := fun _ => List α) [] (fun _ l' _ => ih l') l) n

theorem dropF_eq {α : Type} : ∀ (n : Nat) (l : List α), dropF n l = l.drop n := by
  intro n
  induction n with
  | zero => intro l; rfl
  | succ n ih =>
    intro l
    cases l with
    | nil => rfl
    | cons x l => exact (ih l).trans rfl

noncomputable def takeK (n : Nat) : List Value → Option (List Value) :=
  Nat.rec (motive := fun _ => List Value → Option (List Value)) (fun _ => some [])
    (fun _ ih l => List.rec (motive := fun _ => Option (List Value)) none (fun x l' _ => match known x with | true => (match ih l' with | some r => some (x :: r) | none => none) | false => none) l) n

theorem takeK_eq : ∀ (n : Nat) (l r : List Value), takeK n l = some r → n ≤ l.length ∧ r = l.take n ∧ r.all known = true := by
  intro n
  induction n with
  | zero =>
    intro l r h
    have h : some [] = some r := h
    simp at h; subst h; simp
  | succ n ih =>
    intro l r h
    cases l with
    | nil => have h : none = some r := h; cases h
    | cons x l =>
      have h : (match known x with | true => (match takeK n l with | some r => some (x :: r) | none => none) | false => none) = some r := h
      split at h
      · rename_i hx
        split at h
        · rename_i r' hr
          obtain ⟨h1, h2, h3⟩ := ih _ _ hr
          simp at h; subst h
          subst h2
          exact ⟨by simp; exact h1, by simp, by simp only [List.all_cons, hx, h3, Bool.true_and]⟩
        · cases h
      · cases h

/-- Cells written over a list; none: it is too short. -/
noncomputable def overF (vs : List Value) : List Value → Option (List Value) :=
  List.rec (motive := fun _ => List Value → Option (List Value)) (fun l => some l)
    (fun v _ ih l => List.rec (motive := fun _ => Option (List Value)) none (fun _ l' _ => match ih l' with | some r => some (v :: r) | none => none) l) vs

noncomputable def spliceF (vs : List Value) (off : Nat) : List Value → Option (List Value) :=
  Nat.rec (motive := fun _ => List Value → Option (List Value)) (fun l => overF vs l)
    (fun _ ih l => List.rec (motive := fun _ => Option (List Value)) none (fun x l' _ => match ih l' with | some r => some (x :: r) | none => none) l) off

theorem overF_eq : ∀ (vs l r : List Value), overF vs l = some r → vs.length ≤ l.length ∧ r = vs ++ l.drop vs.length := by
  intro vs
  induction vs with
  | nil => intro l r h; have h : some l = some r := h; simp at h; subst h; simp
  | cons v vs ih =>
    intro l r h
    cases l with
    | nil => have h : none = some r := h; cases h
    | cons x l =>
      have h : (match overF vs l with | some r => some (v :: r) | none => none) = some r := h
      split at h
      · rename_i r' hr
        obtain ⟨h1, h2⟩ := ih _ _ hr
        simp at h; subst h; subst h2
        exact ⟨by simp; exact h1, by simp⟩
      · cases h

theorem spliceF_eq : ∀ (off : Nat) (vs l r : List Value), spliceF vs off l = some r → off + vs.length ≤ l.length ∧ r = splice l off vs := by
  intro off
  induction off with
  | zero =>
    intro vs l r h
    obtain ⟨h1, h2⟩ := overF_eq vs l r h
    exact ⟨by omega, by simp [splice, h2]⟩
  | succ n ih =>
    intro vs l r h
    cases l with
    | nil => have h : none = some r := h; cases h
    | cons x l =>
      have h : (match spliceF vs n l with | some r => some (x :: r) | none => none) = some r := h
      split at h
      · rename_i r' hr
        obtain ⟨h1, h2⟩ := ih _ _ _ hr
        simp at h; subst h; subst h2
        refine ⟨by simp; omega, ?_⟩
        have e : n + 1 + vs.length = n + vs.length + 1 := by omega
        simp [splice, e]
      · cases h

noncomputable def allF (p : Value → Bool) (l : List Value) : Bool :=
  List.rec (motive := fun _ => Bool) true (fun x _ ih => match p x with | true => ih | false => false) l

theorem allF_eq (p : Value → Bool) : ∀ l : List Value, allF p l = l.all p := by
  intro l
  induction l with
  | nil => rfl
  | cons x l ih =>
    show (match p x with | true => allF p l | false => false) = _
    rw [ih, List.all_cons]
    cases p x <;> rfl

noncomputable def mapF {α β : Type} (f : α → β) (l : List α) : List β :=
  List.rec (motive := fun _ => List β) [] (fun x _ ih => f x :: ih) l

theorem mapF_eq {α β : Type} (f : α → β) : ∀ l : List α, mapF f l = l.map f := by
  intro l
  induction l with
  | nil => rfl
  | cons x l ih => show f x :: mapF f l = _; rw [ih]; rfl

noncomputable def appF {α : Type} (l m : List α) : List α :=
  List.rec (motive := fun _ => List α) m (fun x _ ih => x :: ih) l

theorem appF_eq {α : Type} (m : List α) : ∀ l : List α, appF l m = l ++ m := by
  intro l
  induction l with
  | nil => rfl
  | cons x l ih => show x :: appF l m = _; rw [ih]; rfl

/-- A list's length if it is not beyond a bound. -/
noncomputable def lenF {α : Type} (l : List α) (k : Nat) : Nat :=
  List.rec (motive := fun _ => Nat → Nat) (fun k => k) (fun _ _ ih k => ih (Nat.succ k)) l k

theorem lenF_eq {α : Type} : ∀ (l : List α) (k : Nat), lenF l k = k + l.length := by
  intro l
  induction l with
  | nil => intro k; rfl
  | cons x l ih => intro k; exact (ih (k + 1)).trans (by simp; omega)

/-! ## Memory -/

noncomputable def readF (H : Heap) (c : Nat) : Option Blk :=
  match getF H.t c with
  | some (.cells b) =>
    match b.ro with
    | true => some b
    | false =>
      match getF H.fam b.fam with
      | some (_, fl) => (match Nat.ble fl b.ver with | true => some b | false => none)
      | none => none
  | _ => none

theorem readF_eq (H : Heap) (c : Nat) : readF H c = H.read c := by
  unfold readF Heap.read Heap.blk Heap.live
  rw [getF_eq]
  cases h : H.t.get c with
  | none => rfl
  | some o =>
    cases o with
    | cells b =>
      simp only []
      cases b.ro with
      | true => simp
      | false =>
        simp only [getF_eq, Bool.false_or]
        cases H.fam.get b.fam with
        | none => simp
        | some p =>
          obtain ⟨q, fl⟩ := p
          simp only [ble_dec]
          by_cases hh : fl ≤ b.ver <;> simp [hh]
    | map es => rfl
    | siter s p => rfl

noncomputable def wrF (H : Heap) (c off : Nat) (vs : List Value) : Option Heap :=
  match readF H c with
  | some b =>
    match b.ro with
    | true => none
    | false =>
      match getF H.fam b.fam with
      | some (top, _) =>
        match Nat.beq b.ver top, Nat.ble b.frz off, allF okCell vs, vs with
        | true, true, true, _ :: _ =>
          (match spliceF vs off b.cells with
          | some cells => some { next := H.next, t := setF (.cells { cells := cells, elem := b.elem, fam := b.fam, ver := b.ver, ro := false, frz := b.frz, strish := b.strish, exact := b.exact }) H.t c, fam := setF (top, top) H.fam b.fam }
          | none => none)
        | _, _, _, _ => none
      | none => none
  | none => none

theorem wrF_eq (H : Heap) (c off : Nat) (vs : List Value) (H' : Heap) (h : wrF H c off vs = some H') : H.wr c off vs = some H' := by
  unfold wrF at h
  unfold Heap.wr
  rw [readF_eq] at h
  split at h
  · rename_i b hb
    rw [hb]
    simp only []
    split at h
    · cases h
    · rename_i hro
      rw [if_neg (by simp [hro])]
      rw [getF_eq] at h
      split at h
      · rename_i top fl hf
        rw [hf]
        simp only []
        split at h
        · rename_i x xs h1 h2 h3
          split at h
          · rename_i cells hs
            rw [beq_dec] at h1
            rw [ble_dec] at h2
            rw [allF_eq] at h3
            obtain ⟨s1, s2⟩ := spliceF_eq _ _ _ _ hs
            rw [if_pos ⟨of_decide_eq_true h1, s1, of_decide_eq_true h2, h3, rfl⟩]
            simp only [Option.some.injEq] at h ⊢
            rw [← h, setF_eq, setF_eq, s2, ← hro]
          · cases h
        · cases h
      · cases h
  · cases h

noncomputable def newF (H : Heap) (cells : List Value) (elem : TypeId) (exact strish : Bool) : Heap :=
  succF H.next fun n => { next := Nat.succ n, t := setF (.cells { cells, elem, fam := n, ver := 0, ro := false, frz := 0, strish, exact }) H.t n, fam := setF (0, 0) H.fam n }

theorem newF_eq (H : Heap) (cells : List Value) (elem : TypeId) (exact strish : Bool) : newF H cells elem exact strish = H.new cells elem exact strish := by
  unfold newF Heap.new
  rw [succF_eq, setF_eq, setF_eq]

noncomputable def growF (H : Heap) (b : Blk) (off len : Nat) (new : List Value) : Option Heap := H.grow b off len new

end Go.Can
