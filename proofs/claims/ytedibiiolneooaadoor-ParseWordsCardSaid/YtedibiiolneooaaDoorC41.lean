/- A function's code run with calls that are told by a table of answers; answers that are given to operations, and asked to be proved. -/
import Derived.Test.YtedibiiolneooaaDoorC40

namespace Go.Can
open Go Go.RowKit

/-! ## A call whose callees are met by 'cal' -/

def callW (P : Program) (bad : List Nat) (cal : Cal) (n : Nat) : Cal := fun f args H =>
  if bad.contains f then none else
  match P.funcs[f]? with
  | none => none
  | some fn =>
    match fn.body with
    | none => none
    | some c =>
      match exec P cal n c (initAct args) H with
      | some (.normal, a, H') | some (.ret, a, H') => leave P bad (call P bad n) n fn a a.defers .ret H'
      | some (.pan v, a, H') => leave P bad (call P bad n) n fn a a.defers (.pan v false) H'
      | _ => none

theorem callW_sound {P : Program} (hP : okProg P = true) {bad : List Nat} (hB : drawsProg P bad = true) {cal : Cal} (hc : CalSound P cal) (n : Nat) : CalSound P (callW P bad cal n) := by
    intro f args H e H' h ρ w args' hG hR hargs
    have fold : ∀ {R : Ending → World → Prop}, (∀ e' w', (∃ ρ', Post ρ H w ρ' H' w' ∧ EndR ρ' e e') → R e' w') → Calls P f args' w (fun e' w' => ∃ ρ', Post ρ H w ρ' H' w' ∧ EndR ρ' e e') → Calls P f args' w R := fun hr hc => hc.mono hr
    refine fold (fun e' w' q => ?_) ?_
    · obtain ⟨ρ', q1, q2⟩ := q
      refine ⟨ρ', q1, ?_⟩
      cases e <;> exact q2
    · simp only [callW] at h
      split at h
      · cases h
      rename_i hbad
      split at h
      · cases h
      · rename_i fn hf
        split at h
        · cases h
        · rename_i c hb
          have hok := (okFunc_of hP hf).2 c hb
          have hdr := draws_of hB hbad hf hb
          have hA := initAct_rel hargs fn.ntmps
          refine calls_of_wp_defers hf hb ?_
          have hS := callS_sound hP hB (call_sound hP hB n) n
          split at h
          · rename_i a H1 he
            refine wp_mono (exec_sound hP (drawSound hP) hc n c hok hdr _ H ρ w _ _ hG hR hA he) fun e' a2 w2 q => ?_
            obtain ⟨ρ1, q1, q2, q3⟩ := q
            simp only [XRel] at q3; subst q3
            exact leaves_post q1 (leave_sound hP hS _ .ret H1 ρ1 w2 _ .returning e H' h (hG.mono q1.ext) q1.rel q2 q2.defers rfl)
          · rename_i a H1 he
            refine wp_mono (exec_sound hP (drawSound hP) hc n c hok hdr _ H ρ w _ _ hG hR hA he) fun e' a2 w2 q => ?_
            obtain ⟨ρ1, q1, q2, q3⟩ := q
            simp only [XRel] at q3; subst q3
            exact leaves_post q1 (leave_sound hP hS _ .ret H1 ρ1 w2 _ .returning e H' h (hG.mono q1.ext) q1.rel q2 q2.defers rfl)
          · rename_i v a H1 he
            refine wp_mono (exec_sound hP (drawSound hP) hc n c hok hdr _ H ρ w _ _ hG hR hA he) fun e' a2 w2 q => ?_
            obtain ⟨ρ1, q1, q2, q3⟩ := q
            obtain ⟨v', rfl, q4⟩ := q3
            exact leaves_post q1 (leave_sound hP hS _ (.pan v false) H1 ρ1 w2 _ (.panicking [{ v := v', recovered := false }]) e H' h (hG.mono q1.ext) q1.rel q2 q2.defers ⟨v', rfl, q4⟩)
          · cases h

/-! ## A table of answers -/

/-- Cells that a table of variables may list. -/
def cellIs (n k : Nat) : Value → Value → Bool
  | .int j a, .int i b => Nat.beq (kindN j) (kindN i) && eqF' a b
  | .iface t (.pointer (some ⟨c, 0, none⟩)), .iface u (.pointer (some ⟨d, 0, none⟩)) => Nat.beq t u && Nat.beq c d && Nat.ble n c && Nat.ble (c + 1) (n + k)
  | _, _ => false
where eqF' : Int → Int → Bool
  | .ofNat a, .ofNat b => Nat.beq a b
  | .negSucc a, .negSucc b => Nat.beq a b
  | _, _ => false

def cellsAre (n k : Nat) : List Value → List Value → Bool
  | [], [] => true
  | x :: l, y :: m => cellIs n k x y && cellsAre n k l m
  | _, _ => false

/-- Does the heap hold the listed variables as blocks that are read alone? -/
def goodB (n k : Nat) (H : Heap) : List (Nat × List Value) → Bool
  | [] => true
  | p :: L => (match H.t.get p.1 with
    | some (.cells b) => b.ro && cellsAre n k b.cells p.2
    | _ => false) && goodB n k H L

def specCal (n k : Nat) (L : List (Nat × List Value)) (S : FuncId → List Value → Option Value) : Cal := fun f args H =>
  match S f args.toList with
  | some v => (match goodB n k H L with | true => some (.ret v, H) | false => none)
  | none => none

theorem cellsAre_at {n k : Nat} : ∀ {l m : List Value} {i : Nat} {v : Value}, cellsAre n k l m = true → m[i]? = some v → ∃ u, l[i]? = some u ∧ cellIs n k u v = true := by
  intro l
  induction l with
  | nil =>
    intro m i v h hv
    cases m with
    | nil => simp at hv
    | cons y m => simp [cellsAre] at h
  | cons x l ih =>
    intro m i v h hv
    cases m with
    | nil => simp at hv
    | cons y m =>
      simp only [cellsAre, Bool.and_eq_true] at h
      cases i with
      | zero => simp at hv; subst hv; exact ⟨x, rfl, h.1⟩
      | succ i =>
        obtain ⟨u, h1, h2⟩ := ih h.2 (by simpa using hv)
        exact ⟨u, by simpa using h1, h2⟩

theorem goodB_at {n k : Nat} {H : Heap} : ∀ {L : List (Nat × List Value)} {p : Nat × List Value}, goodB n k H L = true → p ∈ L → ∃ b, H.t.get p.1 = some (.cells b) ∧ b.ro = true ∧ cellsAre n k b.cells p.2 = true := by
  intro L
  induction L with
  | nil => intro p h hp; simp at hp
  | cons q L ih =>
    intro p h hp
    simp only [goodB, Bool.and_eq_true] at h
    obtain ⟨h1, h2⟩ := h
    rcases List.mem_cons.1 hp with rfl | hp
    · split at h1
      · rename_i b hb
        simp only [Bool.and_eq_true] at h1
        exact ⟨b, hb, h1.1, h1.2⟩
      · cases h1
    · exact ih h2 hp

theorem eqF'_eq {a b : Int} (h : cellIs.eqF' a b = true) : a = b := by
  cases a <;> cases b <;> simp only [cellIs.eqF'] at h
  · rw [Nat.eq_of_beq_eq_true h]
  · cases h
  · cases h
  · rw [Nat.eq_of_beq_eq_true h]

def adOf (n k : Nat) (ρ : Rho) : List Addr := (List.range k).map fun j => match ρ (n + j) with | some rb => ⟨rb.blk, rb.off, none⟩ | none => ⟨0, 0, none⟩

theorem cellIs_vr {n k : Nat} {ρ : Rho} {u v v' : Value} (h : cellIs n k u v = true) (hv : VR ρ u v') : VR (adRho n (adOf n k ρ)) v v' := by
  unfold cellIs at h
  split at h
  · rename_i j a i b
    simp only [Bool.and_eq_true] at h
    have e1 := kindN_eq h.1
    have e2 := eqF'_eq h.2
    subst e1; subst e2
    rw [hv.int_inv]
    exact .int _ _
  · rename_i t c ty d
    simp only [Bool.and_eq_true] at h
    obtain ⟨⟨⟨h1, h2⟩, h3⟩, h4⟩ := h
    have e1 := Nat.eq_of_beq_eq_true h1
    have e2 := Nat.eq_of_beq_eq_true h2
    have h3 := Nat.le_of_ble_eq_true h3
    have h4 := Nat.le_of_ble_eq_true h4
    subst e1; subst e2
    cases hv with
    | iface _ hp =>
      obtain ⟨rb, hc, rfl⟩ := hp.ptr_inv
      refine .iface _ ?_
      have hg : adRho n (adOf n k ρ) c = some ⟨rb.blk, rb.off, 0, true, false⟩ := by
        unfold adRho adOf
        rw [if_neg (by omega)]
        rw [List.getElem?_map, List.getElem?_range (by omega)]
        simp only [Option.map]
        rw [show n + (c - n) = c by omega, hc]
      exact VR.ptr (rb := ⟨rb.blk, rb.off, 0, true, false⟩) 0 hg
  · cases h

theorem holds_of_good {P : Program} {n k : Nat} {L : List (Nat × List Value)} {ρ : Rho} {H : Heap} {w : World} (hn : P.globals.size = n) (h0 : 0 < n) (hL : ∀ p ∈ L, p.1 < n) (hG : GR P ρ) (hR : Rel ρ H w) (h : goodB n k H L = true) : Holds w n k L := by
  have hsz : n ≤ w.heap.size := by
    obtain ⟨rb, h1, h2, _⟩ := hG (n - 1) (by omega)
    have := (hR.lt _ _ h1).2
    omega
  refine ⟨adOf n k ρ, by simp [adOf], ?_, hsz, ?_⟩
  · intro p hp
    obtain ⟨b, h1, h2, h3⟩ := goodB_at h hp
    obtain ⟨rb, r1, r2, r3⟩ := hG p.1 (by rw [hn]; exact hL p hp)
    obtain ⟨cs, t, fr, hc⟩ := hR.cells _ _ _ r1 h1
    refine ⟨cs, t, fr, by rw [← r2]; exact hc.there, fun i v hv => ?_⟩
    obtain ⟨u, u1, u2⟩ := cellsAre_at h3 hv
    obtain ⟨v', v1, v2⟩ := hc.vals (by simp [Heap.live, h2]) i u u1
    rw [r3] at v1
    exact ⟨v', by simpa using v1, cellIs_vr u2 v2⟩
  · intro a ha
    unfold adOf at ha
    obtain ⟨j, hj, rfl⟩ := List.mem_map.1 ha
    split
    · rename_i rb hr; exact (hR.lt _ _ hr).2
    · show 0 < w.heap.size; omega

theorem rel_below {ρ : Rho} {H : Heap} {w w' : World} (h : Rel ρ H w) (hb : Below w.heap.size w w') : Post ρ H w ρ H w' := by
  have hk : ∀ c rb, ρ c = some rb → w'.heap[rb.blk]? = w.heap[rb.blk]? := fun c rb hc => hb.block _ (h.lt c rb hc).2
  refine ⟨Ext.refl ρ, ⟨h.wf, fun c rb hc => ⟨(h.lt c rb hc).1, Nat.lt_of_lt_of_le (h.lt c rb hc).2 hb.size⟩, ?_, ?_, ?_, h.sep⟩, fun c rb h1 h2 => (by rw [h1] at h2; cases h2), Nat.le_refl _, hb.size,
    fun k hk _ => hb.block k hk, hb.os, hb.tape, hb.output⟩
  · intro c rb b hc hg
    obtain ⟨cs, t, fr, q⟩ := h.cells c rb b hc hg
    exact ⟨cs, t, fr, q.ro, q.exact, by rw [hk c rb hc]; exact q.there, q.size, q.elem, q.whole, q.vals, q.frz⟩
  · intro c rb es hc hg
    rw [hk c rb hc]
    exact h.map c rb es hc hg
  · intro c rb s pos hc hg
    rw [hk c rb hc]
    exact h.siter c rb s pos hc hg

/-- What the table says must hold of the model's calls. -/
def SpecOk (P : Program) (n k : Nat) (L : List (Nat × List Value)) (S : FuncId → List Value → Option Value) : Prop :=
  ∀ f args v, S f args = some v → flatL args = true ∧ ∀ w, Holds w n k L → Calls P f args.toArray w fun e w' => (∃ v', e = .returned v' ∧ VR (fun _ => none) v v') ∧ Below w.heap.size w w'

theorem specCal_sound {P : Program} {n k : Nat} {L : List (Nat × List Value)} {S : FuncId → List Value → Option Value} (hn : P.globals.size = n) (h0 : 0 < n) (hL : ∀ p ∈ L, p.1 < n) (hS : SpecOk P n k L S) :
    CalSound P (specCal n k L S) := by
  intro f args H e H' h ρ w args' hG hR hargs
  unfold specCal at h
  split at h
  · rename_i v hv
    split at h
    · rename_i hg
      simp only [Option.some.injEq, Prod.mk.injEq] at h
      obtain ⟨rfl, rfl⟩ := h
      obtain ⟨h1, h3⟩ := hS f _ v hv
      have ea : args' = args.toList.toArray := by
        apply Array.ext'
        simp only
        refine List.ext_getElem? fun i => ?_
        cases hi : args.toList[i]? with
        | none =>
          rw [List.getElem?_eq_none_iff] at hi ⊢
          have := hargs.len; omega
        | some x =>
          obtain ⟨x', hx1, hx2⟩ := hargs.get hi
          rw [hx1, hx2.eq_of_flat (flatL_at h1 hi)]
      rw [ea]
      refine (h3 w (holds_of_good hn h0 hL hG hR hg)).mono ?_
      rintro e' w' ⟨⟨v', rfl, hv'⟩, hb⟩
      exact ⟨ρ, rel_below hR hb, v', rfl, hv'.mono fun _ _ hx => by cases hx⟩
    · cases h
  · cases h

/-- One, or else another. -/
def orCal (a b : Cal) : Cal := fun f args H =>
  match a f args H with
  | some r => some r
  | none => b f args H

theorem orCal_sound {P : Program} {a b : Cal} (ha : CalSound P a) (hb : CalSound P b) : CalSound P (orCal a b) := by
  intro f args H e H' h
  unfold orCal at h
  split at h
  · rename_i r hr
    simp only [Option.some.injEq] at h; subst h
    exact ha f args H e H' hr
  · exact hb f args H e H' h

end Go.Can
