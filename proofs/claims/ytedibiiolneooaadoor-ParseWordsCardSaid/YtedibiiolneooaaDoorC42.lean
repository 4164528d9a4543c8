/- A function's code run with answers that are given to some of its operations: each is asked to be proved behind. -/
import Derived.Test.YtedibiiolneooaaDoorC41

namespace Go.Can
open Go Go.RowKit

noncomputable def idxV (x i : Value) : Option Value :=
  match x, i with
  | .string s, .int _ (.ofNat n) => (match nthF s.data.toList n with | some b => some (.int .u8 (Int.ofNat b.toNat)) | none => none)
  | _, _ => none

noncomputable def ansProp (P : Program) (t : Tr Value) (f : FOp) (o : Oper) (H : Heap) (v : Value) : Prop :=
  match f with
  | .bin op x y => binF op (evF t x) (evF t y) = some v
  | .idxT x i => idxV (evF t x) (evF t i) = some v
  | .not x => notV (evF t x) = some v
  | f => runF P t f o H = some (.val v H)

theorem ansProp_ok {P : Program} {t : Tr Value} {f : FOp} {o : Oper} {H : Heap} {v : Value} (h : ansProp P t f o H v) : runF P t f o H = some (.val v H) := by
  unfold ansProp at h
  split at h
  · simp only [runF, binOpF, h]
  · simp only [runF, idxTF]
    unfold idxV at h
    split at h
    · rename_i s k n e1 e2
      rw [e1, e2]
      simp only []
      split at h
      · rename_i b hb
        simp only [hb]
        simp only [Option.some.injEq] at h
        rw [h]
      · cases h
    · cases h
  · simp only [runF, notF, h]
  · exact h

noncomputable def ansQ (P : Program) (n k : Nat) (L : List (Nat × List Value)) (S : FuncId → List Value → Option Value) (f : FOp) (d : Tmp) (v : Value) (o : Oper) (a : CAct) (H : Heap) : Option (Except Value CAct × Heap × List Prop) :=
  match f with
  | .callS g args => (match goodB n k H L with | true => some (.ok (putF a (some d) v), H, [S g (mapF (evF a.t) args) = some v]) | false => none)
  | f => some (.ok (putF a (some d) v), H, [ansProp P a.t f o H v])

abbrev CalQ := FuncId → Array Value → Heap → Option (End × Heap × List Prop)

noncomputable def execOneC (P : Program) (cal : CalQ) (o : Oper) (a : CAct) (H : Heap) : Option (Except Value CAct × Heap × List Prop) :=
  match runF P a.t (fop P o) o H with
  | some (.val v H') => some (.ok (putF a o.dst v), H', [])
  | some (.skip H') => some (.ok (putF a o.dst undef), H', [])
  | some (.pan v H') => some (.error v, H', [])
  | some (.defer d H') => some (.ok (putF { a with defers := d :: a.defers } o.dst undef), H', [])
  | some (.enter f args H') =>
    match cal f args H' with
    | some (.ret v, H'', q) => some (.ok (putF a o.dst v), H'', q)
    | some (.pan v, H'', q) => some (.error v, H'', q)
    | none => none
  | none => none

noncomputable def execOneQ (P : Program) (n k : Nat) (L : List (Nat × List Value)) (S : FuncId → List Value → Option Value) (cal : CalQ) (A : Tmp → Option Value) (o : Oper) (a : CAct) (H : Heap) : Option (Except Value CAct × Heap × List Prop) :=
  match o.dst with
  | some d =>
    (match A d with
    | some v => ansQ P n k L S (fop P o) d v o a H
    | none => execOneC P cal o a H)
  | none => execOneC P cal o a H

noncomputable def opsQ (P : Program) (n k : Nat) (L : List (Nat × List Value)) (S : FuncId → List Value → Option Value) (cal : CalQ) (A : Tmp → Option Value) (ops : Array Oper) (l : List Oper) : CAct → Heap → Option (X × CAct × Heap × List Prop) :=
  List.rec (motive := fun _ => CAct → Heap → Option (X × CAct × Heap × List Prop)) (fun a H => some (.normal, a, H, []))
    (fun o _ ih a H =>
      match wantedF ops a o with
      | some true =>
        (match execOneQ P n k L S cal A o a H with
        | some (.ok a', H', q) => (match ih a' H' with | some (x, a2, H2, q2) => some (x, a2, H2, appF q q2) | none => none)
        | some (.error v, H', q) => some (.pan v, a, H', q)
        | none => none)
      | some false => ih (putF a o.dst undef) H
      | none => none) l

noncomputable def opsDQ (P : Program) (n k : Nat) (L : List (Nat × List Value)) (S : FuncId → List Value → Option Value) (cal : CalQ) (A : Tmp → Option Value) (ops : Array Oper) (l : List Oper) : Nat → CAct → Heap → Option (X × CAct × Heap × List Prop) :=
  List.rec (motive := fun _ => Nat → CAct → Heap → Option (X × CAct × Heap × List Prop)) (fun _ a H => some (.normal, a, H, []))
    (fun o _ ih i a H =>
      match wantedF ops a o with
      | some true =>
        (match execOneQ P n k L S cal A o a H with
        | some (.ok a', H', q) => (match ih (Nat.succ i) a' H' with | some (x, a2, H2, q2) => some (x, a2, H2, appF q q2) | none => none)
        | _ => none)
      | some false => ih (Nat.succ i) (putF a o.dst undef) H
      | none => none) l

noncomputable def regQ (P : Program) (n k : Nat) (L : List (Nat × List Value)) (S : FuncId → List Value → Option Value) (cal : CalQ) (A : Tmp → Option Value) (ops : Array Oper) (draw : Bool) (a : CAct) (H : Heap) : Option (X × CAct × Heap × List Prop) :=
  match draw with
  | false => opsQ P n k L S cal A ops ops.toList a H
  | true =>
    match floats P ops with
    | [] => opsDQ P n k L S cal A ops ops.toList (nat_lit 0) a H
    | _ => none

noncomputable def iterQ (step : CAct → Heap → Option (X × CAct × Heap × List Prop)) (k : Nat) : CAct → Heap → Option (X × CAct × Heap × List Prop) :=
  Nat.rec (motive := fun _ => CAct → Heap → Option (X × CAct × Heap × List Prop)) (fun _ _ => none)
    (fun _ ih a H =>
      match step a H with
      | some (x, a', H', q) => (match x with | .normal => (match ih a' H' with | some (x, a2, H2, q2) => some (x, a2, H2, appF q q2) | none => none) | x => some (x, a', H', q))
      | none => none) k

noncomputable def execQ (P : Program) (n k : Nat) (L : List (Nat × List Value)) (S : FuncId → List Value → Option Value) (cal : CalQ) (A : Tmp → Option Value) (fuel : Nat) (c : Code) : CAct → Heap → Option (X × CAct × Heap × List Prop) :=
  Code.rec (motive := fun _ => CAct → Heap → Option (X × CAct × Heap × List Prop))
    (fun a H => some (.normal, a, H, []))
    (fun _ ops draw a H => regQ P n k L S cal A ops draw a H)
    (fun _ _ ex ey a H =>
      match ex a H with
      | some (x, a', H', q) => (match x with | .normal => (match ey a' H' with | some (x, a2, H2, q2) => some (x, a2, H2, appF q q2) | none => none) | x => some (x, a', H', q))
      | none => none)
    (fun c _ _ ex ey a H =>
      match evF a.t c with
      | .bool true => ex a H
      | .bool false => ey a H
      | _ => none)
    (fun id _ eb a H =>
      match eb a H with
      | some (x, a', H', q) =>
        (match x with
        | .exit i => (match Nat.beq i id with | true => some (.normal, a', H', q) | false => some (.exit i, a', H', q))
        | x => some (x, a', H', q))
      | none => none)
    (fun _ eb a H => iterQ eb fuel a H)
    (fun _ _ _ _ _ _ _ _ => none)
    (fun id a H => some (.exit id, a, H, []))
    (fun _ eb a H =>
      match eb a H with
      | some (x, a', H', q) => (match x with | .goto _ => none | x => some (x, a', H', q))
      | none => none)
    (fun _ a H => some (.normal, a, H, []))
    (fun l a H => some (.goto l, a, H, []))
    (fun a H => some (.ret, a, H, []))
    (fun _ _ _ => none) c

def AllP (q : List Prop) : Prop := ∀ p ∈ q, p

theorem AllP.app {q q2 : List Prop} (h : AllP (appF q q2)) : AllP q ∧ AllP q2 := by
  rw [appF_eq] at h
  exact ⟨fun p hp => h p (by simp [hp]), fun p hp => h p (by simp [hp])⟩

variable {P : Program} {n k : Nat} {L : List (Nat × List Value)} {S : FuncId → List Value → Option Value} {cal : CalQ} {cal' : Cal} {A : Tmp → Option Value}

/-- What the calls give holds, once what they leave to be proved is. -/
def SubQ (cal : CalQ) (cal' : Cal) : Prop := ∀ f args H e H' q, cal f args H = some (e, H', q) → AllP q → cal' f args H = some (e, H')

/-- Calls that keep to the table. -/
def Keeps (n k : Nat) (L : List (Nat × List Value)) (S : FuncId → List Value → Option Value) (cal : Cal) : Prop := ∀ f args H v, S f args.toList = some v → goodB n k H L = true → cal f args H = some (.ret v, H)

theorem execOneC_sound (hc : SubQ cal cal') {o : Oper} {a : CAct} {H H' : Heap} {r : Except Value CAct} {q : List Prop} (h : execOneC P cal o a H = some (r, H', q)) (hq : AllP q) :
    execOne P cal' o a H = some (r, H') := by
  unfold execOneC at h
  unfold execOne
  simp only [putF_eq] at h
  split at h
  · rename_i v H2 hr
    rw [← evF_eq, runF_sound hr]; simp only [Option.some.injEq, Prod.mk.injEq] at h ⊢; exact ⟨h.1, h.2.1⟩
  · rename_i H2 hr
    rw [← evF_eq, runF_sound hr]; simp only [Option.some.injEq, Prod.mk.injEq] at h ⊢; exact ⟨h.1, h.2.1⟩
  · rename_i v H2 hr
    rw [← evF_eq, runF_sound hr]; simp only [Option.some.injEq, Prod.mk.injEq] at h ⊢; exact ⟨h.1, h.2.1⟩
  · rename_i d H2 hr
    rw [← evF_eq, runF_sound hr]; simp only [Option.some.injEq, Prod.mk.injEq] at h ⊢; exact ⟨h.1, h.2.1⟩
  · rename_i f args H2 hr
    rw [← evF_eq, runF_sound hr]
    simp only []
    split at h
    · rename_i v H3 q1 hcal
      simp only [Option.some.injEq, Prod.mk.injEq] at h
      obtain ⟨h1, h2, rfl⟩ := h
      rw [hc _ _ _ _ _ _ hcal hq]
      simp only [Option.some.injEq, Prod.mk.injEq]; exact ⟨h1, h2⟩
    · rename_i v H3 q1 hcal
      simp only [Option.some.injEq, Prod.mk.injEq] at h
      obtain ⟨h1, h2, rfl⟩ := h
      rw [hc _ _ _ _ _ _ hcal hq]
      simp only [Option.some.injEq, Prod.mk.injEq]; exact ⟨h1, h2⟩
    · cases h
  · cases h

theorem execOneQ_sound (hc : SubQ cal cal') (hk : Keeps n k L S cal') {o : Oper} {a : CAct} {H H' : Heap} {r : Except Value CAct} {q : List Prop} (h : execOneQ P n k L S cal A o a H = some (r, H', q)) (hq : AllP q) :
    execOne P cal' o a H = some (r, H') := by
  unfold execOneQ at h
  split at h
  · rename_i d hd
    split at h
    · rename_i v hv
      unfold ansQ at h
      split at h
      · rename_i g args hf
        split at h
        · rename_i hg
          simp only [Option.some.injEq, Prod.mk.injEq] at h
          obtain ⟨rfl, rfl, rfl⟩ := h
          have hp : S g (mapF (evF a.t) args) = some v := hq _ (by simp)
          have hr : runF P a.t (fop P o) o H = some (.enter g ⟨mapF (evF a.t) args⟩ H) := by rw [hf]; rfl
          unfold execOne
          rw [← evF_eq, runF_sound hr]
          simp only [hk g ⟨mapF (evF a.t) args⟩ H v hp hg, putF_eq, hd]
        · cases h
      · rename_i f hf
        simp only [Option.some.injEq, Prod.mk.injEq] at h
        obtain ⟨rfl, rfl, rfl⟩ := h
        have hr := ansProp_ok (hq _ (List.mem_singleton.2 rfl))
        unfold execOne
        rw [← evF_eq, runF_sound hr]
        simp only [putF_eq, hd]
    · exact execOneC_sound hc h hq
  · exact execOneC_sound hc h hq

theorem opsQ_sound (hc : SubQ cal cal') (hk : Keeps n k L S cal') {ops : Array Oper} : ∀ (l : List Oper) (i : Nat) (a : CAct) (H : Heap) (x : X) (a1 : CAct) (H1 : Heap) (q : List Prop), ops.toList.drop i = l → opsQ P n k L S cal A ops l a H = some (x, a1, H1, q) → AllP q →
    execOps P cal' ops (List.range' i l.length) a H = some (x, a1, H1) := by
  intro l
  induction l with
  | nil =>
    intro i a H x a1 H1 q _ h _
    have h : some (X.normal, a, H, ([] : List Prop)) = some (x, a1, H1, q) := h
    simp only [Option.some.injEq, Prod.mk.injEq] at h
    obtain ⟨rfl, rfl, rfl, rfl⟩ := h
    rfl
  | cons o l ih =>
    intro i a H x a1 H1 q hl h hq
    obtain ⟨h1, h2, h3⟩ := head_drop hl
    have h : (match wantedF ops a o with
      | some true =>
        (match execOneQ P n k L S cal A o a H with
        | some (.ok a', H', q) => (match opsQ P n k L S cal A ops l a' H' with | some (x, a2, H2, q2) => some (x, a2, H2, appF q q2) | none => none)
        | some (.error v, H', q) => some (.pan v, a, H', q)
        | none => none)
      | some false => opsQ P n k L S cal A ops l (putF a o.dst undef) H
      | none => none) = some (x, a1, H1, q) := h
    rw [List.length_cons, List.range'_succ]
    simp only [execOps, h1]
    rw [wantedF_eq] at h
    split at h
    · rename_i hw
      rw [hw]
      split at h
      · rename_i a' H' q1 he
        split at h
        · rename_i x2 a2 H2 q2 hi
          simp only [Option.some.injEq, Prod.mk.injEq] at h
          obtain ⟨rfl, rfl, rfl, rfl⟩ := h
          obtain ⟨hq1, hq2⟩ := hq.app
          simp only [execOneQ_sound hc hk he hq1]
          exact ih _ _ _ _ _ _ _ h2 hi hq2
        · cases h
      · rename_i v H' q1 he
        simp only [Option.some.injEq, Prod.mk.injEq] at h
        obtain ⟨rfl, rfl, rfl, rfl⟩ := h
        simp only [execOneQ_sound hc hk he hq]
      · cases h
    · rename_i hw
      rw [hw]
      rw [putF_eq] at h
      exact ih _ _ _ _ _ _ _ h2 h hq
    · cases h

theorem opsDQ_sound (hc : SubQ cal cal') (hk : Keeps n k L S cal') {ops : Array Oper} : ∀ (l : List Oper) (i : Nat) (a : CAct) (H : Heap) (tr : List (CAct × Heap)) (x : X) (a1 : CAct) (H1 : Heap) (q : List Prop), ops.toList.drop i = l →
    opsDQ P n k L S cal A ops l i a H = some (x, a1, H1, q) → AllP q → ∃ tr', execTr P cal' ops (List.range' i l.length) a H tr = some (x, a1, H1, tr') := by
  intro l
  induction l with
  | nil =>
    intro i a H tr x a1 H1 q _ h _
    have h : some (X.normal, a, H, ([] : List Prop)) = some (x, a1, H1, q) := h
    simp only [Option.some.injEq, Prod.mk.injEq] at h
    obtain ⟨rfl, rfl, rfl, rfl⟩ := h
    exact ⟨_, rfl⟩
  | cons o l ih =>
    intro i a H tr x a1 H1 q hl h hq
    obtain ⟨h1, h2, h3⟩ := head_drop hl
    have h : (match wantedF ops a o with
      | some true =>
        (match execOneQ P n k L S cal A o a H with
        | some (.ok a', H', q) => (match opsDQ P n k L S cal A ops l (Nat.succ i) a' H' with | some (x, a2, H2, q2) => some (x, a2, H2, appF q q2) | none => none)
        | _ => none)
      | some false => opsDQ P n k L S cal A ops l (Nat.succ i) (putF a o.dst undef) H
      | none => none) = some (x, a1, H1, q) := h
    rw [List.length_cons, List.range'_succ]
    simp only [execTr, h1]
    rw [wantedF_eq] at h
    split at h
    · rename_i hw
      rw [hw]
      split at h
      · rename_i a' H' q1 he
        split at h
        · rename_i x2 a2 H2 q2 hi
          simp only [Option.some.injEq, Prod.mk.injEq] at h
          obtain ⟨rfl, rfl, rfl, rfl⟩ := h
          obtain ⟨hq1, hq2⟩ := hq.app
          simp only [execOneQ_sound hc hk he hq1]
          exact ih _ _ _ _ _ _ _ _ h2 hi hq2
        · cases h
      · cases h
    · rename_i hw
      rw [hw]
      rw [putF_eq] at h
      exact ih _ _ _ _ _ _ _ _ h2 h hq
    · cases h

theorem regQ_sound (hc : SubQ cal cal') (hk : Keeps n k L S cal') {fuel : Nat} {id : Nat} {ops : Array Oper} {draw : Bool} {a a1 : CAct} {H H1 : Heap} {x : X} {q : List Prop} (h : regQ P n k L S cal A ops draw a H = some (x, a1, H1, q)) (hq : AllP q) :
    exec P cal' fuel (.region id ops draw) a H = some (x, a1, H1) := by
  unfold regQ at h
  have hlen : ops.toList.length = ops.size := Array.length_toList
  cases draw with
  | false =>
    simp only [exec]
    have := opsQ_sound hc hk ops.toList 0 a H _ _ _ _ rfl h hq
    rw [hlen] at this
    rw [List.range_eq_range']
    exact this
  | true =>
    simp only [] at h
    split at h
    · rename_i hfl
      simp only [exec, execDraw]
      obtain ⟨tr', hh⟩ := opsDQ_sound hc hk ops.toList 0 a H [] x a1 H1 q rfl h hq
      rw [hlen] at hh
      rw [List.range_eq_range', hh, hfl]
      simp
    · cases h

theorem iterQ_sound {st : CAct → Heap → Option (X × CAct × Heap × List Prop)} {st' : CAct → Heap → Option (X × CAct × Heap)} (hs : ∀ a H x a' H' q, st a H = some (x, a', H', q) → AllP q → st' a H = some (x, a', H')) :
    ∀ (k : Nat) (a : CAct) (H : Heap) (x : X) (a' : CAct) (H' : Heap) (q : List Prop), iterQ st k a H = some (x, a', H', q) → AllP q → iter st' k a H = some (x, a', H') := by
  intro k
  induction k with
  | zero => intro a H x a' H' q h _; cases h
  | succ k ih =>
    intro a H x a' H' q h hq
    have h : (match st a H with
      | some (x, a', H', q) => (match x with | .normal => (match iterQ st k a' H' with | some (x, a2, H2, q2) => some (x, a2, H2, appF q q2) | none => none) | x => some (x, a', H', q))
      | none => none) = some (x, a', H', q) := h
    simp only [iter]
    split at h
    · rename_i y b I q1 he
      split at h
      · split at h
        · rename_i x2 a2 H2 q2 hi
          simp only [Option.some.injEq, Prod.mk.injEq] at h
          obtain ⟨rfl, rfl, rfl, rfl⟩ := h
          obtain ⟨hq1, hq2⟩ := hq.app
          rw [hs _ _ _ _ _ _ he hq1]
          exact ih _ _ _ _ _ _ hi hq2
        · cases h
      · rename_i hx
        simp only [Option.some.injEq, Prod.mk.injEq] at h
        obtain ⟨rfl, rfl, rfl, rfl⟩ := h
        rw [hs _ _ _ _ _ _ he hq]
        split
        · rename_i e
          simp at e
          exact absurd e.1 (by intro e'; exact hx e')
        · rfl
    · cases h

theorem execQ_sound (hc : SubQ cal cal') (hk : Keeps n k L S cal') {fuel : Nat} : ∀ (c : Code) (a : CAct) (H : Heap) (x : X) (a' : CAct) (H' : Heap) (q : List Prop), execQ P n k L S cal A fuel c a H = some (x, a', H', q) → AllP q → exec P cal' fuel c a H = some (x, a', H') := by
  intro c
  induction c with
  | skip =>
    intro a H x a' H' q h _
    have h : some (X.normal, a, H, ([] : List Prop)) = some (x, a', H', q) := h
    simp only [Option.some.injEq, Prod.mk.injEq] at h
    obtain ⟨rfl, rfl, rfl, rfl⟩ := h
    rfl
  | region id ops draw => intro a H x a' H' q h hq; exact regQ_sound hc hk h hq
  | seq c1 c2 ihx ihy =>
    intro a H x a' H' q h hq
    have h : (match execQ P n k L S cal A fuel c1 a H with
      | some (x, a', H', q) => (match x with | .normal => (match execQ P n k L S cal A fuel c2 a' H' with | some (x, a2, H2, q2) => some (x, a2, H2, appF q q2) | none => none) | x => some (x, a', H', q))
      | none => none) = some (x, a', H', q) := h
    simp only [exec]
    split at h
    · rename_i z b I q1 he
      split at h
      · split at h
        · rename_i x2 a2 H2 q2 hi
          simp only [Option.some.injEq, Prod.mk.injEq] at h
          obtain ⟨rfl, rfl, rfl, rfl⟩ := h
          obtain ⟨hq1, hq2⟩ := hq.app
          rw [ihx _ _ _ _ _ _ he hq1]
          exact ihy _ _ _ _ _ _ hi hq2
        · cases h
      · rename_i hx
        simp only [Option.some.injEq, Prod.mk.injEq] at h
        obtain ⟨rfl, rfl, rfl, rfl⟩ := h
        rw [ihx _ _ _ _ _ _ he hq]
        split
        · rename_i e
          simp at e
          exact absurd e.1 (by intro e'; exact hx e')
        · rfl
    · cases h
  | cond c c1 c2 ihx ihy =>
    intro a H x a' H' q h hq
    have h : (match evF a.t c with
      | .bool true => execQ P n k L S cal A fuel c1 a H
      | .bool false => execQ P n k L S cal A fuel c2 a H
      | _ => none) = some (x, a', H', q) := h
    simp only [exec]
    rw [evF_eq] at h
    split at h
    · rename_i e; rw [e]; exact ihx _ _ _ _ _ _ h hq
    · rename_i e; rw [e]; exact ihy _ _ _ _ _ _ h hq
    · cases h
  | block id b ih =>
    intro a H x a' H' q h hq
    have h : (match execQ P n k L S cal A fuel b a H with
      | some (x, a', H', q) =>
        (match x with
        | .exit i => (match Nat.beq i id with | true => some (.normal, a', H', q) | false => some (.exit i, a', H', q))
        | x => some (x, a', H', q))
      | none => none) = some (x, a', H', q) := h
    simp only [exec]
    split at h
    · rename_i z b' I q1 he
      split at h
      · rename_i i
        rw [beq_dec] at h
        by_cases hi : i = id
        · simp only [hi, decide_true, Option.some.injEq, Prod.mk.injEq] at h
          obtain ⟨rfl, rfl, rfl, rfl⟩ := h
          rw [ih _ _ _ _ _ _ he hq]
          simp only [hi, if_true]
        · simp only [hi, decide_false, Option.some.injEq, Prod.mk.injEq] at h
          obtain ⟨rfl, rfl, rfl, rfl⟩ := h
          rw [ih _ _ _ _ _ _ he hq]
          simp only [hi, if_false]
      · rename_i hx
        simp only [Option.some.injEq, Prod.mk.injEq] at h
        obtain ⟨rfl, rfl, rfl, rfl⟩ := h
        rw [ih _ _ _ _ _ _ he hq]
        split
        · rename_i e
          simp at e
          exact absurd e.1 (by intro e'; exact hx _ e')
        · rfl
    · cases h
  | loop b ih =>
    intro a H x a' H' q h hq
    have h : iterQ (execQ P n k L S cal A fuel b) fuel a H = some (x, a', H', q) := h
    simp only [exec]
    exact iterQ_sound ih _ _ _ _ _ _ _ h hq
  | rangeFunc f ps c1 c2 => intro a H x a' H' q h _; cases h
  | exit id =>
    intro a H x a' H' q h _
    have h : some (X.exit id, a, H, ([] : List Prop)) = some (x, a', H', q) := h
    simp only [Option.some.injEq, Prod.mk.injEq] at h
    obtain ⟨rfl, rfl, rfl, rfl⟩ := h
    rfl
  | scope b ih =>
    intro a H x a' H' q h hq
    have h : (match execQ P n k L S cal A fuel b a H with
      | some (x, a', H', q) => (match x with | .goto _ => none | x => some (x, a', H', q))
      | none => none) = some (x, a', H', q) := h
    simp only [exec]
    split at h
    · rename_i z b' I q1 he
      split at h
      · cases h
      · rename_i hx
        simp only [Option.some.injEq, Prod.mk.injEq] at h
        obtain ⟨rfl, rfl, rfl, rfl⟩ := h
        rw [ih _ _ _ _ _ _ he hq]
        split
        · rename_i e
          simp at e
          exact absurd e.1 (by intro e'; exact hx _ e')
        · rfl
    · cases h
  | label l =>
    intro a H x a' H' q h _
    have h : some (X.normal, a, H, ([] : List Prop)) = some (x, a', H', q) := h
    simp only [Option.some.injEq, Prod.mk.injEq] at h
    obtain ⟨rfl, rfl, rfl, rfl⟩ := h
    rfl
  | goto l =>
    intro a H x a' H' q h _
    have h : some (X.goto l, a, H, ([] : List Prop)) = some (x, a', H', q) := h
    simp only [Option.some.injEq, Prod.mk.injEq] at h
    obtain ⟨rfl, rfl, rfl, rfl⟩ := h
    rfl
  | ret =>
    intro a H x a' H' q h _
    have h : some (X.ret, a, H, ([] : List Prop)) = some (x, a', H', q) := h
    simp only [Option.some.injEq, Prod.mk.injEq] at h
    obtain ⟨rfl, rfl, rfl, rfl⟩ := h
    rfl
  | refuse w => intro a H x a' H' q h _; cases h

/-! ## A call -/

noncomputable def callOneQ (P : Program) (n k : Nat) (L : List (Nat × List Value)) (S : FuncId → List Value → Option Value) (bad : List Nat) (cal : CalQ) (A : Tmp → Option Value) (fuel : Nat) (f : FuncId) (args : Array Value) (H : Heap) : Option (End × Heap × List Prop) :=
  match bodyF P bad f with
  | none => none
  | some (fn, c) =>
    match execQ P n k L S cal A fuel c { t := initF args.toList (nat_lit 0) .nil, defers := [] } H with
    | some (x, a, H', q) =>
      (match x with
      | .normal => (match leaveF P bad fuel fn a .ret H' with | some (e, H2) => some (e, H2, q) | none => none)
      | .ret => (match leaveF P bad fuel fn a .ret H' with | some (e, H2) => some (e, H2, q) | none => none)
      | .pan v => (match leaveF P bad fuel fn a (.pan v false) H' with | some (e, H2) => some (e, H2, q) | none => none)
      | _ => none)
    | none => none

theorem callOneQ_sound {bad : List Nat} (hc : SubQ cal cal') (hk : Keeps n k L S cal') {fuel : Nat} {f : FuncId} {args : Array Value} {H H' : Heap} {e : End} {q : List Prop} (h : callOneQ P n k L S bad cal A fuel f args H = some (e, H', q)) (hq : AllP q) :
    callW P bad cal' fuel f args H = some (e, H') := by
  unfold callOneQ bodyF at h
  simp only [callW]
  by_cases hb : bad.contains f = true
  · rw [if_pos hb] at h; cases h
  · rw [if_neg hb] at h ⊢
    split at h
    · cases h
    · rename_i fn c hbody
      cases hf : P.funcs[f]? with
      | none => rw [hf] at hbody; cases hbody
      | some fn' =>
        rw [hf] at hbody
        simp only [] at hbody ⊢
        cases hcb : fn'.body with
        | none => rw [hcb] at hbody; cases hbody
        | some c' =>
          rw [hcb] at hbody
          simp only [Option.some.injEq, Prod.mk.injEq] at hbody ⊢
          obtain ⟨rfl, rfl⟩ := hbody
          split at h
          · rename_i x a H1 q1 he
            rw [initF_eq] at he
            have he0 := he
            split at h
            · split at h
              · rename_i e2 H2 hl
                simp only [Option.some.injEq, Prod.mk.injEq] at h
                obtain ⟨rfl, rfl, rfl⟩ := h
                have he : exec P cal' fuel c' (initAct args) H = some (_, a, H1) := execQ_sound hc hk _ _ _ _ _ _ _ he hq
                rw [he]
                exact leaveF_sound hl
              · cases h
            · split at h
              · rename_i e2 H2 hl
                simp only [Option.some.injEq, Prod.mk.injEq] at h
                obtain ⟨rfl, rfl, rfl⟩ := h
                have he : exec P cal' fuel c' (initAct args) H = some (_, a, H1) := execQ_sound hc hk _ _ _ _ _ _ _ he hq
                rw [he]
                exact leaveF_sound hl
              · cases h
            · split at h
              · rename_i e2 H2 hl
                simp only [Option.some.injEq, Prod.mk.injEq] at h
                obtain ⟨rfl, rfl, rfl⟩ := h
                have he : exec P cal' fuel c' (initAct args) H = some (_, a, H1) := execQ_sound hc hk _ _ _ _ _ _ _ he hq
                rw [he]
                exact leaveF_sound hl
              · cases h
            · cases h
          · cases h

/-- Calls: by the table of answers, or else run; A: the answers that are given to operations, function by function. -/
noncomputable def callQ (P : Program) (n k : Nat) (L : List (Nat × List Value)) (S : FuncId → List Value → Option Value) (bad : List Nat) (A : FuncId → Tmp → Option Value) (fuel : Nat) (depth : Nat) : CalQ :=
  Nat.rec (motive := fun _ => CalQ) (fun f args H => match specCal n k L S f args H with | some (e, H') => some (e, H', []) | none => none)
    (fun _ ih f args H =>
      match specCal n k L S f args H with
      | some (e, H') => some (e, H', [])
      | none => callOneQ P n k L S bad ih (A f) fuel f args H) depth

def calW (P : Program) (n k : Nat) (L : List (Nat × List Value)) (S : FuncId → List Value → Option Value) (bad : List Nat) (fuel : Nat) : Nat → Cal
  | 0 => specCal n k L S
  | d + 1 => orCal (specCal n k L S) (callW P bad (calW P n k L S bad fuel d) fuel)

theorem calW_keeps {bad : List Nat} {fuel : Nat} (d : Nat) : Keeps n k L S (calW P n k L S bad fuel d) := by
  intro f args H v h1 h2
  cases d with
  | zero => simp only [calW, specCal, h1, h2]
  | succ d => simp only [calW, orCal, specCal, h1, h2]

theorem callQ_sub {bad : List Nat} {A : FuncId → Tmp → Option Value} {fuel : Nat} : ∀ d, SubQ (callQ P n k L S bad A fuel d) (calW P n k L S bad fuel d) := by
  intro d
  induction d with
  | zero =>
    intro f args H e H' q h _
    have h : (match specCal n k L S f args H with | some (e, H') => some (e, H', []) | none => none) = some (e, H', q) := h
    split at h
    · rename_i e1 H1 hs
      simp only [Option.some.injEq, Prod.mk.injEq] at h
      obtain ⟨rfl, rfl, rfl⟩ := h
      exact hs
    · cases h
  | succ d ih =>
    intro f args H e H' q h hq
    have h : (match specCal n k L S f args H with
      | some (e, H') => some (e, H', [])
      | none => callOneQ P n k L S bad (callQ P n k L S bad A fuel d) (A f) fuel f args H) = some (e, H', q) := h
    simp only [calW, orCal]
    split at h
    · rename_i e1 H1 hs
      simp only [Option.some.injEq, Prod.mk.injEq] at h
      obtain ⟨rfl, rfl, rfl⟩ := h
      rw [hs]
    · rename_i hs
      rw [hs]
      exact callOneQ_sound ih (calW_keeps d) h hq

theorem calW_sound (hP : okProg P = true) {bad : List Nat} (hB : drawsProg P bad = true) (hN : P.globals.size = n) (h0 : 0 < n) (hL : ∀ p ∈ L, p.1 < n) (hS : SpecOk P n k L S) (fuel : Nat) : ∀ d, CalSound P (calW P n k L S bad fuel d) := by
  intro d
  induction d with
  | zero => exact specCal_sound hN h0 hL hS
  | succ d ih => exact orCal_sound (specCal_sound hN h0 hL hS) (callW_sound hP hB ih fuel)

/-- What is asked of a run: its answer, and what it leaves to be proved. -/
noncomputable def retQ (r : Option (End × Heap × List Prop)) : Option (Value × List Prop) :=
  match r with
  | some (.ret v, _, q) => some (v, q)
  | _ => none

/-- A CALL OF A FUNCTION WHOSE CALLEES ARE MET BY A TABLE OF ANSWERS, OR RUN. -/
theorem calls_spec (hP : okProg P = true) {bad : List Nat} (hB : drawsProg P bad = true) {A : FuncId → Tmp → Option Value} {fuel d : Nat}
    {f : FuncId} {args : Array Value} {v : Value} {q : List Prop} (hN : P.globals.size = n) (h0 : 0 < n) (hL : ∀ p ∈ L, p.1 < n) (hS : SpecOk P n k L S)
    (hc : retQ (callQ P n k L S bad A fuel d f args (roHeap n k L)) = some (v, q)) (hq : AllP q) (ha : flatL args.toList = true)
    {w : World} (h : Holds w n k L) : Calls P f args w fun e w' => (∃ v', e = .returned v' ∧ (flat v = true → v' = v)) ∧ Below w.heap.size w w' := by
  unfold retQ at hc
  split at hc
  · rename_i v' H' q' hr
    simp only [Option.some.injEq, Prod.mk.injEq] at hc
    obtain ⟨rfl, rfl⟩ := hc
    have hw := callQ_sub d _ _ _ _ _ _ hr hq
    obtain ⟨as, hk, h⟩ := h
    subst hk
    refine (calW_sound hP hB hN h0 hL hS fuel d f args _ _ _ hw (roRho w n as) w args (roGR hN) (roRel h hL) (VRs.of_flatL _ ha)).mono ?_
    rintro e w' ⟨ρ', hp, v', he, hr⟩
    exact ⟨⟨v', he, fun hv => hr.eq_of_flat hv⟩, below_of_post hp fun c rb hx => roRho_ro hx⟩
  · cases hc

end Go.Can
