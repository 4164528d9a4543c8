/- What the quick interpreter gives, the plain one gives. -/
import Derived.Test.YtedibiiolneooaaDoorC38

namespace Go.Can
open Go

variable {P : Program} {cal cal' : Cal}

def Sub (cal cal' : Cal) : Prop := ∀ f args H r, cal f args H = some r → cal' f args H = some r

theorem putF_eq (a : CAct) (d : Option Tmp) (v : Value) : putF a d v = a.put d v := by
  cases d with
  | none => rfl
  | some d => simp only [putF, CAct.put, setF_eq]

theorem execOneF_sound (hc : Sub cal cal') {o : Oper} {a : CAct} {H : Heap} {r : Except Value CAct × Heap} (h : execOneF P cal o a H = some r) : execOne P cal' o a H = some r := by
  unfold execOneF at h
  unfold execOne
  simp only [putF_eq] at h
  split at h
  · rename_i v H' hr
    rw [← evF_eq, runF_sound hr]; exact h
  · rename_i H' hr
    rw [← evF_eq, runF_sound hr]; exact h
  · rename_i v H' hr
    rw [← evF_eq, runF_sound hr]; exact h
  · rename_i d H' hr
    rw [← evF_eq, runF_sound hr]; exact h
  · rename_i f args H' hr
    rw [← evF_eq, runF_sound hr]
    simp only []
    split at h
    · rename_i v H'' hcal
      rw [hc _ _ _ _ hcal]; exact h
    · rename_i v H'' hcal
      rw [hc _ _ _ _ hcal]; exact h
    · cases h
  · cases h

theorem wantedF_eq (ops : Array Oper) (a : CAct) (o : Oper) : wantedF ops a o = wantedC ops a o := by
  unfold wantedF guardT
  cases hg : o.guard with
  | none => simp [wantedC, hg]
  | some p =>
    obtain ⟨j, want⟩ := p
    simp only []
    cases hd : (ops[j]?).bind (·.dst) with
    | none => simp [wantedC, hg, hd]
    | some d =>
      simp only [getF_eq]
      cases hv : a.t.get d with
      | none => rfl
      | some v =>
        simp only [wantedC, hg, hd, CAct.get, hv, Option.getD]
        cases v with
        | bool b => rfl
        | chan c => rfl
        | _ => rfl

theorem head_drop {ops : Array Oper} {i : Nat} {o : Oper} {l : List Oper} (h : ops.toList.drop i = o :: l) : ops[i]? = some o ∧ ops.toList.drop (i + 1) = l ∧ ops.size = i + 1 + l.length := by
  have h1 : i < ops.toList.length := by
    rcases Nat.lt_or_ge i ops.toList.length with h' | h'
    · exact h'
    · rw [List.drop_eq_nil_of_le h'] at h; cases h
  have h2 := List.drop_eq_getElem_cons h1
  rw [h] at h2
  injection h2 with h3 h4
  refine ⟨?_, h4.symm, ?_⟩
  · rw [← Array.getElem?_toList, List.getElem?_eq_getElem h1, h3]
  · have := congrArg List.length h
    simp at this h1
    omega

theorem opsF_sound (hc : Sub cal cal') {ops : Array Oper} : ∀ (l : List Oper) (i : Nat) (a : CAct) (H : Heap) (r : X × CAct × Heap), ops.toList.drop i = l → opsF P cal ops l a H = some r →
    execOps P cal' ops (List.range' i l.length) a H = some r := by
  intro l
  induction l with
  | nil => intro i a H r _ h; exact h
  | cons o l ih =>
    intro i a H r hl h
    obtain ⟨h1, h2, h3⟩ := head_drop hl
    have h : (match wantedF ops a o with
      | some true =>
        (match execOneF P cal o a H with
        | some (.ok a', H') => opsF P cal ops l a' H'
        | some (.error v, H') => some (.pan v, a, H')
        | none => none)
      | some false => opsF P cal ops l (putF a o.dst undef) H
      | none => none) = some r := h
    rw [List.length_cons, List.range'_succ]
    simp only [execOps, h1]
    rw [wantedF_eq] at h
    split at h
    · rename_i hw
      rw [hw]
      split at h
      · rename_i a' H' he
        simp only [execOneF_sound hc he]
        exact ih _ _ _ _ h2 h
      · rename_i v H' he
        simp only [execOneF_sound hc he]
        exact h
      · cases h
    · rename_i hw
      rw [hw]
      rw [putF_eq] at h
      exact ih _ _ _ _ h2 h
    · cases h

theorem opsTF_sound (hc : Sub cal cal') {ops : Array Oper} : ∀ (l : List Oper) (i : Nat) (a : CAct) (H : Heap) (tr : List (CAct × Heap)) (r : X × CAct × Heap × List (CAct × Heap)), ops.toList.drop i = l →
    opsTF P cal ops l i a H tr = some r → execTr P cal' ops (List.range' i l.length) a H tr = some r := by
  intro l
  induction l with
  | nil => intro i a H tr r _ h; exact h
  | cons o l ih =>
    intro i a H tr r hl h
    obtain ⟨h1, h2, h3⟩ := head_drop hl
    have h : (match wantedF ops a o with
      | some true =>
        (match execOneF P cal o a H with
        | some (.ok a', H') => opsTF P cal ops l (Nat.succ i) a' H' ((a, H) :: tr)
        | some (.error v, H') =>
          if cls P o = .eff && ((List.range' (i + 1) (ops.size - (i + 1))).all (fun j => ahead (Region.before ops) i j) && (List.range i).all (fun j => ahead (Region.before ops) j i)) then some (.pan v, a, H', (a, H) :: tr) else none
        | none => none)
      | some false => opsTF P cal ops l (Nat.succ i) (putF a o.dst undef) H ((a, H) :: tr)
      | none => none) = some r := h
    rw [List.length_cons, List.range'_succ]
    simp only [execTr, h1]
    rw [wantedF_eq] at h
    have e : ops.size - (i + 1) = l.length := by omega
    rw [e] at h
    split at h
    · rename_i hw
      rw [hw]
      split at h
      · rename_i a' H' he
        simp only [execOneF_sound hc he]
        exact ih _ _ _ _ _ h2 h
      · rename_i v H' he
        simp only [execOneF_sound hc he]
        exact h
      · cases h
    · rename_i hw
      rw [hw]
      rw [putF_eq] at h
      exact ih _ _ _ _ _ h2 h
    · cases h

theorem opsDF_sound (hc : Sub cal cal') {ops : Array Oper} : ∀ (l : List Oper) (i : Nat) (a : CAct) (H : Heap) (tr : List (CAct × Heap)) (x : X) (a1 : CAct) (H1 : Heap), ops.toList.drop i = l →
    opsDF P cal ops l i a H = some (x, a1, H1) → ∃ tr', execTr P cal' ops (List.range' i l.length) a H tr = some (x, a1, H1, tr') := by
  intro l
  induction l with
  | nil =>
    intro i a H tr x a1 H1 _ h
    have h : some (X.normal, a, H) = some (x, a1, H1) := h
    simp only [Option.some.injEq, Prod.mk.injEq] at h
    obtain ⟨rfl, rfl, rfl⟩ := h
    exact ⟨_, rfl⟩
  | cons o l ih =>
    intro i a H tr x a1 H1 hl h
    obtain ⟨h1, h2, h3⟩ := head_drop hl
    have h : (match wantedF ops a o with
      | some true =>
        (match execOneF P cal o a H with
        | some (.ok a', H') => opsDF P cal ops l (Nat.succ i) a' H'
        | some (.error v, H') =>
          if cls P o = .eff && ((List.range' (i + 1) (ops.size - (i + 1))).all (fun j => ahead (Region.before ops) i j) && (List.range i).all (fun j => ahead (Region.before ops) j i)) then some (.pan v, a, H') else none
        | none => none)
      | some false => opsDF P cal ops l (Nat.succ i) (putF a o.dst undef) H
      | none => none) = some (x, a1, H1) := h
    rw [List.length_cons, List.range'_succ]
    simp only [execTr, h1]
    rw [wantedF_eq] at h
    have e : ops.size - (i + 1) = l.length := by omega
    rw [e] at h
    split at h
    · rename_i hw
      rw [hw]
      split at h
      · rename_i a' H' he
        simp only [execOneF_sound hc he]
        exact ih _ _ _ _ _ _ _ h2 h
      · rename_i v H' he
        simp only [execOneF_sound hc he]
        split at h
        · rename_i hcond
          rw [if_pos hcond]
          simp only [Option.some.injEq, Prod.mk.injEq] at h
          obtain ⟨rfl, rfl, rfl⟩ := h
          exact ⟨_, rfl⟩
        · cases h
      · cases h
    · rename_i hw
      rw [hw]
      rw [putF_eq] at h
      exact ih _ _ _ _ _ _ _ h2 h
    · cases h

theorem sameRes_mono {r1 r2 r1' r2' : Option Res} (h1 : ∀ r, r1 = some r → r1' = some r) (h2 : ∀ r, r2 = some r → r2' = some r) (h : sameRes r1 r2 = true) : sameRes r1' r2' = true := by
  unfold sameRes at h
  split at h
  · rw [h1 _ rfl, h2 _ rfl]; exact h
  · cases h

theorem floatOkF_sound {ops : Array Oper} {tr : List (CAct × Heap)} {f : Nat × Nat} (h : floatOkF P ops tr f = true) : floatOk P ops tr f = true := by
  unfold floatOkF at h
  unfold floatOk
  rw [nthF_eq, nthF_eq, nthF_eq] at h
  split at h
  · rename_i oi ai Hi ak Hk ak' Hk' e1 e2 e3 e4
    rw [e1, e2, e3, e4]
    simp only []
    rw [wantedF_eq] at h
    by_cases hw : wantedC ops ai oi = some true
    · rw [if_pos hw]
      rw [hw] at h
      simp only [Bool.and_eq_true] at h ⊢
      obtain ⟨ha, hb⟩ := h
      rw [← evF_eq]
      exact ⟨sameRes_mono (fun _ => runF_sound) (fun _ => runF_sound) ha, sameRes_mono (fun _ => runF_sound) (fun _ => runF_sound) hb⟩
    · rw [if_neg hw]
  · rename_i hno
    split
    · rename_i e1 e2 e3 e4
      exact absurd e4 (by
        intro _
        exact hno _ _ _ _ _ _ _ e1 e2 e3 e4)
    · rfl

theorem allP_eq (p : Nat × Nat → Bool) : ∀ l, allP p l = l.all p := by
  intro l
  induction l with
  | nil => rfl
  | cons x l ih =>
    show (match p x with | true => allP p l | false => false) = _
    rw [ih, List.all_cons]
    cases p x <;> rfl

theorem regF_sound (hc : Sub cal cal') {k : Nat} {id : Nat} {ops : Array Oper} {draw : Bool} {a : CAct} {H : Heap} {r : X × CAct × Heap} (h : regF P cal ops draw a H = some r) :
    exec P cal' k (.region id ops draw) a H = some r := by
  unfold regF at h
  have hlen : ops.toList.length = ops.size := Array.length_toList
  cases draw with
  | false =>
    simp only [exec]
    have := opsF_sound hc ops.toList 0 a H r rfl h
    rw [hlen] at this
    rw [List.range_eq_range']
    exact this
  | true =>
    simp only [exec, execDraw]
    simp only [] at h
    split at h
    · rename_i hfl
      obtain ⟨x, a1, H1⟩ := r
      obtain ⟨tr', hh⟩ := opsDF_sound hc ops.toList 0 a H [] x a1 H1 rfl h
      rw [hlen] at hh
      rw [List.range_eq_range', hh, hfl]
      simp
    · rename_i fl hfl
      split at h
      · rename_i x a' H' tr ht
        have hh := opsTF_sound hc ops.toList 0 a H [] _ rfl ht
        rw [hlen] at hh
        rw [List.range_eq_range', hh]
        simp only []
        split at h
        · rename_i hall
          rw [allP_eq] at hall
          have : (floats P ops).all (floatOk P ops tr.reverse) = true := by
            rw [List.all_eq_true] at hall ⊢
            intro f hf
            exact floatOkF_sound (hall f hf)
          rw [if_pos this]; exact h
        · cases h
      · cases h

theorem iterF_sound {st st' : CAct → Heap → Option (X × CAct × Heap)} (hs : ∀ a H r, st a H = some r → st' a H = some r) : ∀ (k : Nat) (a : CAct) (H : Heap) (r : X × CAct × Heap), iterF st k a H = some r → iter st' k a H = some r := by
  intro k
  induction k with
  | zero => intro a H r h; exact h
  | succ k ih =>
    intro a H r h
    have h : (match st a H with
      | some (x, a', H') => (match x with | .normal => iterF st k a' H' | x => some (x, a', H'))
      | none => none) = some r := h
    simp only [iter]
    split at h
    · rename_i x a' H' he
      rw [hs _ _ _ he]
      split at h
      · exact ih _ _ _ h
      · rename_i hx
        split
        · rename_i e
          simp at e
          exact absurd e.1 (by intro e'; exact hx e')
        · exact h
    · cases h

theorem execF_sound (hc : Sub cal cal') {k : Nat} : ∀ (c : Code) (a : CAct) (H : Heap) (r : X × CAct × Heap), execF P cal k c a H = some r → exec P cal' k c a H = some r := by
  intro c
  induction c with
  | skip => intro a H r h; exact h
  | region id ops draw => intro a H r h; exact regF_sound hc h
  | seq x y ihx ihy =>
    intro a H r h
    have h : (match execF P cal k x a H with
      | some (x, a', H') => (match x with | .normal => execF P cal k y a' H' | x => some (x, a', H'))
      | none => none) = some r := h
    simp only [exec]
    split at h
    · rename_i z a' H' he
      rw [ihx _ _ _ he]
      split at h
      · exact ihy _ _ _ h
      · rename_i hx
        split
        · rename_i e
          simp at e
          exact absurd e.1 (by intro e'; exact hx e')
        · exact h
    · cases h
  | cond c x y ihx ihy =>
    intro a H r h
    have h : (match evF a.t c with
      | .bool true => execF P cal k x a H
      | .bool false => execF P cal k y a H
      | _ => none) = some r := h
    simp only [exec]
    rw [evF_eq] at h
    split at h
    · rename_i e; rw [e]; exact ihx _ _ _ h
    · rename_i e; rw [e]; exact ihy _ _ _ h
    · cases h
  | block id b ih =>
    intro a H r h
    have h : (match execF P cal k b a H with
      | some (x, a', H') =>
        (match x with
        | .exit i => (match Nat.beq i id with | true => some (.normal, a', H') | false => some (.exit i, a', H'))
        | x => some (x, a', H'))
      | none => none) = some r := h
    simp only [exec]
    split at h
    · rename_i z a' H' he
      rw [ih _ _ _ he]
      split at h
      · rename_i i
        simp only []
        rw [beq_dec] at h
        by_cases hi : i = id
        · rw [if_pos hi]; simpa [hi] using h
        · rw [if_neg hi]; simpa [hi] using h
      · rename_i hx
        split
        · rename_i e
          simp at e
          exact absurd e.1 (by intro e'; exact hx _ e')
        · exact h
    · cases h
  | loop b ih =>
    intro a H r h
    have h : iterF (execF P cal k b) k a H = some r := h
    simp only [exec]
    exact iterF_sound ih _ _ _ _ h
  | rangeFunc f ps x y => intro a H r h; cases h
  | exit id => intro a H r h; exact h
  | scope b ih =>
    intro a H r h
    have h : (match execF P cal k b a H with
      | some (x, a', H') => (match x with | .goto _ => none | x => some (x, a', H'))
      | none => none) = some r := h
    simp only [exec]
    split at h
    · rename_i z a' H' he
      rw [ih _ _ _ he]
      split at h
      · cases h
      · rename_i hx
        split
        · rename_i e
          simp at e
          exact absurd e.1 (by intro e'; exact hx _ e')
        · exact h
    · cases h
  | label l => intro a H r h; exact h
  | goto l => intro a H r h; exact h
  | ret => intro a H r h; exact h
  | refuse w => intro a H r h; cases h

theorem initF_eq : ∀ (l : List Value) (i : Nat) (t : Tr Value), initF l i t = (l.zipIdx i).foldl (fun t (v, i) => t.set i v) t := by
  intro l
  induction l with
  | nil => intro i t; rfl
  | cons v l ih =>
    intro i t
    show initF l (i + 1) (setF v t i) = _
    rw [ih, setF_eq]
    rfl

theorem resQ_eq {a : CAct} {H : Heap} : ∀ l : List ResultVar, resQ P a H l = l.mapM (resultC P a H) := by
  intro l
  induction l with
  | nil => rfl
  | cons x l ih =>
    rw [List.mapM_cons]
    show (match resultC P a H x with
      | some v => (match resQ P a H l with | some vs => some (v :: vs) | none => none)
      | none => none) = _
    rw [ih]
    cases resultC P a H x with
    | none => rfl
    | some v => cases l.mapM (resultC P a H) <;> rfl

theorem leaveF_sound {bad : List Nat} {n : Nat} {fn : Func} {a : CAct} {u : UM} {H : Heap} {r : End × Heap} (h : leaveF P bad n fn a u H = some r) :
    leave P bad (call P bad n) n fn a a.defers u H = some r := by
  unfold leaveF at h
  split at h
  · rename_i hd
    rw [hd]
    simp only [leave, resultsC]
    rw [resQ_eq] at h
    split at h
    · rename_i v hv; rw [hv]; exact h
    · rename_i vs hne hv
      rw [hv]
      simp only [Option.map]
      exact h
    · cases h
  · rename_i hd
    rw [hd]
    exact h
  · exact h

theorem callF_sound (P : Program) (bad : List Nat) : ∀ n, Sub (callF P bad n) (call P bad n) := by
  intro n
  induction n with
  | zero => intro f args H r h; cases h
  | succ n ih =>
    intro f args H r h
    have h : (match bodyF P bad f with
      | none => none
      | some (fn, c) =>
        match execF P (callF P bad n) n c { t := initF args.toList (nat_lit 0) .nil, defers := [] } H with
        | some (x, a, H') =>
          (match x with
          | .normal => leaveF P bad n fn a .ret H'
          | .ret => leaveF P bad n fn a .ret H'
          | .pan v => leaveF P bad n fn a (.pan v false) H'
          | _ => none)
        | none => none) = some r := h
    unfold bodyF at h
    simp only [call]
    by_cases hb : bad.contains f = true
    · rw [if_pos hb] at h; cases h
    · rw [if_neg hb] at h ⊢
      split at h
      · cases h
      · rename_i fn c hbody
        cases hf : P.funcs[f]? with
        | none => rw [hf] at hbody; cases hbody
        | some fn' =>
          rw [hf] at hbody
          simp only [] at hbody ⊢
          cases hc : fn'.body with
          | none => rw [hc] at hbody; cases hbody
          | some c' =>
            rw [hc] at hbody
            simp only [Option.some.injEq, Prod.mk.injEq] at hbody ⊢
            obtain ⟨rfl, rfl⟩ := hbody
            split at h
            · rename_i x a H' he
              have he := execF_sound ih _ _ _ _ he
              rw [initF_eq] at he
              have he : exec P (call P bad n) n c' (initAct args) H = some (x, a, H') := he
              rw [he]
              split at h
              · exact leaveF_sound h
              · exact leaveF_sound h
              · exact leaveF_sound h
              · cases h
            · cases h

end Go.Can
