/- Code, regions that draw their order, deferred calls, calls: what the interpreter runs to its end is a call of the model. -/
import Derived.Test.YtedibiiolneooaaDoorCb
import Derived.LoopN
import Derived.Recover
import Derived.Laws.Sem

namespace Go.Can
open Go
variable {P : Program}

/-- The package's variables stand where the program lays them. -/
def GR (P : Program) (ρ : Rho) : Prop := ∀ g, g < P.globals.size → ∃ rb, ρ g = some rb ∧ rb.blk = g ∧ rb.off = 0
theorem GR.mono {ρ ρ' : Rho} (h : GR P ρ) (he : Ext ρ ρ') : GR P ρ' := fun g hg => by obtain ⟨rb, h1, h2⟩ := h g hg; exact ⟨rb, he g rb h1, h2⟩

structure DsRel (ρ : Rho) (l l' : List Deferred) : Prop where
  len : l.length = l'.length
  at_ : ∀ (i : Nat) d d', l[i]? = some d → l'[i]? = some d' → DRel ρ d d'

theorem DRel.mono {ρ ρ' : Rho} (h : Ext ρ ρ') {d d' : Deferred} (hd : DRel ρ d d') : DRel ρ' d d' := by
  obtain ⟨⟨g, c, c', h1, h2, h3⟩, h4⟩ := hd
  exact ⟨⟨g, c, c', h1, h2, h3.mono h⟩, h4.mono h⟩
theorem DsRel.mono {ρ ρ' : Rho} (h : Ext ρ ρ') {l l' : List Deferred} (hd : DsRel ρ l l') : DsRel ρ' l l' := ⟨hd.len, fun i d d' a b => (hd.at_ i d d' a b).mono h⟩
theorem DsRel.cons {ρ : Rho} {d d' : Deferred} {l l' : List Deferred} (h : DRel ρ d d') (hl : DsRel ρ l l') : DsRel ρ (d :: l) (d' :: l') := by
  refine ⟨by simp [hl.len], fun i a a' h1 h2 => ?_⟩
  cases i with
  | zero => simp at h1 h2; subst h1 h2; exact h
  | succ i => simp at h1 h2; exact hl.at_ i a a' h1 h2
theorem DsRel.nil (ρ : Rho) : DsRel ρ [] [] := ⟨rfl, fun i d d' h => by simp at h⟩
theorem DsRel.tail {ρ : Rho} {d d' : Deferred} {l l' : List Deferred} (h : DsRel ρ (d :: l) (d' :: l')) : DsRel ρ l l' :=
  ⟨by have := h.len; simpa using this, fun i a b x y => h.at_ (i + 1) a b (by simpa using x) (by simpa using y)⟩
theorem DsRel.head {ρ : Rho} {d d' : Deferred} {l l' : List Deferred} (h : DsRel ρ (d :: l) (d' :: l')) : DRel ρ d d' := h.at_ 0 d d' rfl rfl

structure ActR (ρ : Rho) (nt : Nat) (a : CAct) (a' : Act) : Prop where
  tmps : ∀ t, VR ρ (a.get t) (a'.tmps.getD t undef)
  size : nt ≤ a'.tmps.size
  defers : DsRel ρ a.defers a'.defers

theorem ActR.mono {ρ ρ' : Rho} {nt : Nat} {a : CAct} {a' : Act} (he : Ext ρ ρ') (h : ActR ρ nt a a') : ActR ρ' nt a a' := ⟨fun t => (h.tmps t).mono he, h.size, h.defers.mono he⟩

theorem vr_undef (ρ : Rho) : VR ρ undef undef := .tuple [] [] rfl (fun i v v' h => by simp at h)

theorem ActR.put {ρ : Rho} {nt : Nat} {a : CAct} {a' : Act} (h : ActR ρ nt a a') {d : Option Tmp} (hd : ∀ t, d = some t → t < nt) {v v' : Value} (hv : VR ρ v v') : ActR ρ nt (a.put d v) (a'.put d v') := by
  cases d with
  | none => exact h
  | some d =>
    have hlt : @LT.lt Nat _ d nt := hd d rfl
    have hs := h.size
    refine ⟨fun t => ?_, by simpa [Act.put] using hs, h.defers⟩
    simp only [CAct.get, CAct.put, Act.put, Tr.get_set, Array.getD_eq_getD_getElem?, Array.getElem?_setIfInBounds]
    by_cases e : t = d
    · subst e
      rw [if_pos rfl, if_pos rfl, if_pos (by omega)]; exact hv
    · rw [if_neg e, if_neg (fun h => e h.symm)]
      have := h.tmps t
      simpa only [CAct.get, Array.getD_eq_getD_getElem?] using this

theorem ActR.eval {ρ : Rho} {nt : Nat} {a : CAct} {a' : Act} (h : ActR ρ nt a a') (hG : GR P ρ) {x : Operand} (hx : okOperand P x = true) : VR ρ (a.eval x) (a'.eval x) := by
  cases x with
  | tmp t => exact h.tmps t
  | const v => exact VR.of_flat ρ v hx
  | global g =>
    obtain ⟨rb, h1, h2, h3⟩ := hG g (by simpa [okOperand] using hx)
    have := VR.ptr 0 h1
    rw [h2, h3] at this
    exact this
  | func f => exact VR.of_flat ρ _ rfl

theorem wantedC_sound {ρ : Rho} {nt : Nat} {a : CAct} {a' : Act} {ops : Array Oper} {o : Oper} {b : Bool} (h : ActR ρ nt a a') (hw : wantedC ops a o = some b) : Region.wanted o (yielded ops a'.tmps) = b := by
  unfold wantedC at hw
  unfold Region.wanted
  cases hg : o.guard with
  | none => simp only [hg, Option.some.injEq] at hw ⊢; exact hw
  | some gw =>
    obtain ⟨j, want⟩ := gw
    simp only [hg] at hw ⊢
    unfold yielded
    cases hd : (ops[j]?).bind (·.dst) with
    | none => simp only [hd, Option.some.injEq] at hw; subst hw; rfl
    | some d =>
      simp only [hd] at hw
      have hv := h.tmps d
      simp only [Option.bind_some]
      have hgd : ∀ v, a'.tmps.getD d undef = v → v ≠ undef → a'.tmps[d]? = some v := fun v hv hne => by
        rw [Array.getD_eq_getD_getElem?] at hv
        cases hq : a'.tmps[d]? with
        | none => rw [hq] at hv; exact absurd hv.symm hne
        | some u => rw [hq] at hv; simpa using hv
      generalize a.get d = x at hw hv
      generalize hy : a'.tmps.getD d undef = y at hv
      cases x with
      | bool c =>
        obtain rfl := hv.bool_inv
        rw [hgd _ hy (fun h => by cases h)]
        simp only [Option.some.injEq] at hw
        subst hw
        cases c <;> cases want <;> rfl
      | chan r => cases hw
      | _ =>
        simp only [Option.some.injEq] at hw; subst hw
        cases hq : a'.tmps[d]? with
        | none => rfl
        | some u =>
          have : y = u := by rw [← hy, Array.getD_eq_getD_getElem?, hq]; rfl
          subst this
          cases hv <;> rfl

/-- What a call, met, must do. -/
def CalSound (P : Program) (cal : Cal) : Prop := ∀ f args H e H', cal f args H = some (e, H') → ∀ ρ w args', GR P ρ → Rel ρ H w → VRs ρ args.toList args'.toList →
  Calls P f args' w fun e' w' => ∃ ρ', Post ρ H w ρ' H' w' ∧ match e with
    | .ret v => ∃ v', e' = .returned v' ∧ VR ρ' v v'
    | .pan v => ∃ v', e' = .panicked [{ v := v', recovered := false }] ∧ VR ρ' v v'

/-- How code ends, on both sides. -/
def XRel (ρ : Rho) (x : X) (e : Exit) : Prop :=
  match x with
  | .normal => e = .normal
  | .exit i => e = .exit i
  | .goto l => e = .goto l
  | .ret => e = .ret
  | .pan v => ∃ v', e = .panic [{ v := v', recovered := false }] ∧ VR ρ v v'

def QR (ρ : Rho) (H : Heap) (w : World) (nt : Nat) (r : X × CAct × Heap) (e : Exit) (a' : Act) (w' : World) : Prop :=
  ∃ ρ', Post ρ H w ρ' r.2.2 w' ∧ ActR ρ' nt r.2.1 a' ∧ XRel ρ' r.1 e

theorem QR.trans {ρ ρ1 : Rho} {H H1 : Heap} {w w1 : World} {nt : Nat} {r : X × CAct × Heap} {e : Exit} {a' : Act} {w' : World} (h : Post ρ H w ρ1 H1 w1) (k : QR ρ1 H1 w1 nt r e a' w') : QR ρ H w nt r e a' w' := by
  obtain ⟨ρ', k1, k2, k3⟩ := k
  exact ⟨ρ', h.trans k1, k2, k3⟩

theorem Rel.post {ρ ρ' : Rho} {H H' : Heap} {w w' : World} (h : Post ρ H w ρ' H' w') : Rel ρ' H' w' := h.rel

theorem okOper_dst {nt : Nat} {o : Oper} (h : okOper P nt o = true) : (∀ t, o.dst = some t → t < nt) ∧ ∀ x ∈ o.op.operands, okOperand P x = true := by
  simp only [okOper, Bool.and_eq_true] at h
  refine ⟨fun t ht => by have := h.1; rw [ht] at this; simpa using this, fun x hx => Array.all_eq_true_iff_forall_mem.1 h.2 x hx⟩

/-- One operation. -/
theorem execOne_sound (hP : okProg P = true) {cal : Cal} (hcal : CalSound P cal) {ρ : Rho} {nt : Nat} {o : Oper} {a : CAct} {a' : Act} {H H1 : Heap} {w : World} {r : Except Value CAct} (hG : GR P ρ) (hR : Rel ρ H w)
    (hA : ActR ρ nt a a') (ho : okOper P nt o = true) (h : execOne P cal o a H = some (r, H1)) (next : Act → World → Prop) (Q : Exit → Act → World → Prop)
    (hok : ∀ a1, r = .ok a1 → ∀ ρ1 a1' w1, Post ρ H w ρ1 H1 w1 → ActR ρ1 nt a1 a1' → next a1' w1)
    (herr : ∀ v, r = .error v → ∀ ρ1 v' w1, Post ρ H w ρ1 H1 w1 → VR ρ1 v v' → Q (.panic [{ v := v', recovered := false }]) a' w1) :
    o.wp P a' w next Q := by
  obtain ⟨hdst, hops⟩ := okOper_dst ho
  have hev : ∀ x ∈ o.op.operands, VR ρ (a.eval x) (a'.eval x) := fun x hx => hA.eval hG (hops x hx)
  unfold Oper.wp
  unfold execOne at h
  split at h
  · rename_i v H2 hc
    injection h with h; injection h with h1 h2; subst h1 h2
    obtain ⟨v', w', ρ', e1, e2, e3⟩ := cop_sound hP hR hev hc
    rw [e1]
    exact hok _ rfl ρ' _ w' e2 ((hA.mono e2.ext).put hdst e3)
  · rename_i H2 hc
    injection h with h; injection h with h1 h2; subst h1 h2
    obtain ⟨w', ρ', e1, e2⟩ := cop_sound hP hR hev hc
    rw [e1]
    exact hok _ rfl ρ' _ w' e2 ((hA.mono e2.ext).put hdst (vr_undef ρ'))
  · rename_i v H2 hc
    injection h with h; injection h with h1 h2; subst h1 h2
    obtain ⟨v', w', ρ', e1, e2, e3⟩ := cop_sound hP hR hev hc
    rw [e1]
    exact herr _ rfl ρ' v' w' e2 e3
  · rename_i d H2 hc
    injection h with h; injection h with h1 h2; subst h1 h2
    obtain ⟨d', w', ρ', e1, e2, e3⟩ := cop_sound hP hR hev hc
    rw [e1]
    refine hok _ rfl ρ' _ w' e2 (ActR.put (a := { a with defers := d :: a.defers }) (a' := { a' with defers := d' :: a'.defers }) ?_ hdst (vr_undef ρ'))
    have := hA.mono e2.ext
    exact ⟨this.tmps, this.size, this.defers.cons e3⟩
  · rename_i f args H2 hc
    obtain ⟨args', w', ρ', e1, e2, e3⟩ := cop_sound hP hR hev hc
    rw [e1]
    show Calls P f args' w' _
    split at h
    · rename_i v H3 hcl
      injection h with h; injection h with h1 h2; subst h1 h2
      refine (hcal f args H2 _ _ hcl ρ' w' args' (hG.mono e2.ext) e2.rel e3).mono fun e w2 h => ?_
      obtain ⟨ρ2, p1, v', rfl, p3⟩ := h
      exact hok _ rfl ρ2 _ w2 (e2.trans p1) ((hA.mono (e2.trans p1).ext).put hdst p3)
    · rename_i v H3 hcl
      injection h with h; injection h with h1 h2; subst h1 h2
      refine (hcal f args H2 _ _ hcl ρ' w' args' (hG.mono e2.ext) e2.rel e3).mono fun e w2 h => ?_
      obtain ⟨ρ2, p1, v', rfl, p3⟩ := h
      exact herr _ rfl ρ2 v' w2 (e2.trans p1) p3
    · cases h
  · cases h

theorem execOps_sound (hP : okProg P = true) {cal : Cal} (hcal : CalSound P cal) {nt : Nat} {ops : Array Oper} (hops : ops.all (okOper P nt) = true) : ∀ (is : List Nat) (a : CAct) (H : Heap) (ρ : Rho) (w : World) (a' : Act) (r : X × CAct × Heap),
    GR P ρ → Rel ρ H w → ActR ρ nt a a' → execOps P cal ops is a H = some r → wpOps P ops (fun e a' w' => QR ρ H w nt r e a' w') is a' w := by
  intro is
  induction is with
  | nil =>
    intro a H ρ w a' r hG hR hA h
    simp only [execOps, Option.some.injEq] at h; subst h
    exact ⟨ρ, Post.refl hR, hA, rfl⟩
  | cons i is ih =>
    intro a H ρ w a' r hG hR hA h
    have lift : ∀ {Q Q' : Exit → Act → World → Prop}, (∀ e a w, Q e a w → Q' e a w) → ∀ {is a w}, wpOps P ops Q is a w → wpOps P ops Q' is a w := by
      intro Q Q' hq is
      induction is with
      | nil => intro a w h; exact hq _ _ _ h
      | cons j is ih2 =>
        intro a w h
        simp only [wpOps] at h ⊢
        cases ho : ops[j]? with
        | none => simp only [ho] at h ⊢; exact ih2 h
        | some o =>
          simp only [ho] at h ⊢
          split at h
          · rename_i hw
            rw [if_pos hw]
            rcases h with h | ⟨h1, a0, w0, h2⟩
            · left
              unfold Oper.wp Oper.upon at h ⊢
              split at h
              · exact ih2 h
              · exact ih2 h
              · exact ih2 h
              · refine h.mono fun e w' he => ?_
                cases e with
                | returned v => exact ih2 he
                | panicked c => exact hq _ _ _ he
                | outgrown => obtain ⟨a0, w0, h2⟩ := he; exact ⟨a0, w0, hq _ _ _ h2⟩
              · exact h.mono fun v w' he => ih2 he
              · exact hq _ _ _ h
              · exact h
            · right; exact ⟨h1, a0, w0, hq _ _ _ h2⟩
          · rename_i hw
            rw [if_neg hw]; exact ih2 h
    simp only [execOps] at h
    simp only [wpOps]
    cases ho : ops[i]? with
    | none => simp only [ho] at h ⊢; exact ih a H ρ w a' r hG hR hA h
    | some o =>
      have hoo : okOper P nt o = true := Array.all_eq_true_iff_forall_mem.1 hops o (Array.mem_of_getElem? ho)
      simp only [ho] at h ⊢
      split at h
      · rename_i hw
        rw [if_pos (wantedC_sound hA hw)]
        left
        split at h
        · rename_i a1 H1 he
          refine execOne_sound hP hcal hG hR hA hoo he _ _ (fun a2 e2 ρ1 a1' w1 p1 p2 => ?_) (fun v e2 => by cases e2)
          injection e2 with e2; subst e2
          exact lift (fun e a w q => q.trans p1) (ih a1 H1 ρ1 w1 a1' r (hG.mono p1.ext) p1.rel p2 h)
        · rename_i v H1 he
          injection h with h; subst h
          refine execOne_sound hP hcal hG hR hA hoo he _ _ (fun a2 e2 => by cases e2) (fun v2 e2 ρ1 v' w1 p1 p2 => ?_)
          injection e2 with e2; subst e2
          exact ⟨ρ1, p1, hA.mono p1.ext, v', rfl, p2⟩
        · cases h
      · rename_i hw
        rw [if_neg (by rw [wantedC_sound hA hw]; exact Bool.false_ne_true)]
        exact ih _ H ρ w _ r hG hR (hA.put (okOper_dst hoo).1 (vr_undef ρ)) h
      · cases h

end Go.Can

namespace Go.Can
open Go
variable {P : Program}

def DrawSound (P : Program) : Prop := ∀ cal, CalSound P cal → ∀ nt (ops : Array Oper) (id : Nat), ops.all (okOper P nt) = true → (drawText P ops && drawMode P ops) = true → ∀ a H ρ w a' r, GR P ρ → Rel ρ H w → ActR ρ nt a a' → execDraw P cal ops a H = some r →
  (Code.region id ops true).wp P (fun e a' w' => QR ρ H w nt r e a' w') a' w

theorem step_scope' {b : Frame} {a : Act} {k : List Item} {cs : List Frame} {w : World} {c : Code} :
    step P (lone (b.at a (.code (.scope c) :: k)) cs w) = .next (lone (b.at a (.code c :: .inScope c :: k)) cs w) :=
  step_lone_go (by simp [stepG, stepG.exec, Frame.at])
theorem step_inScope' {b : Frame} {a : Act} {k : List Item} {cs : List Frame} {w : World} {c : Code} :
    step P (lone (b.at a (.inScope c :: k)) cs w) = .next (lone (b.at a k) cs w) :=
  step_lone_go (by simp [stepG, stepG.exec, Frame.at])

theorem wp_scope_plain {c : Code} {Q : Exit → Act → World → Prop} {a : Act} {w : World} (h : c.wp P (fun e a w => Q e a w ∧ ∀ l, e ≠ .goto l) a w) : (Code.scope c).wp P Q a w := by
  intro b k cs
  obtain ⟨e, a₁, w₁, ⟨hq, hg⟩, harr⟩ := h b (.inScope c :: k) cs
  cases e with
  | normal => exact ⟨.normal, a₁, w₁, hq, .head step_scope' (Steps.trans harr (.one step_inScope'))⟩
  | exit id => exact ⟨.exit id, a₁, w₁, hq, fun k' hk => .head step_scope' (harr k' (by simpa [exitTo] using hk))⟩
  | goto l => exact absurd rfl (hg l)
  | ret => exact ⟨_, a₁, w₁, hq, .of_steps (.one step_scope') harr⟩
  | panic ch => exact ⟨_, a₁, w₁, hq, .of_steps (.one step_scope') harr⟩
  | outgrown => exact ⟨_, a₁, w₁, hq, .of_steps (b := b) (k := k) (cs := cs) (e := .outgrown) (.one step_scope') harr⟩

theorem QR.comp {ρ : Rho} {H H1 : Heap} {w : World} {nt : Nat} {a1 : CAct} {x1 : X} {e : Exit} {a1' : Act} {w1 : World} (h : QR ρ H w nt (x1, a1, H1) e a1' w1) :
    ∃ ρ1, Post ρ H w ρ1 H1 w1 ∧ ActR ρ1 nt a1 a1' ∧ XRel ρ1 x1 e := h

theorem exec_sound (hP : okProg P = true) (hD : DrawSound P) {cal : Cal} (hcal : CalSound P cal) {nt : Nat} (k : Nat) : ∀ (c : Code), okCode P nt c = true → drawsOk P c = true → ∀ (a : CAct) (H : Heap) (ρ : Rho) (w : World) (a' : Act) (r : X × CAct × Heap),
    GR P ρ → Rel ρ H w → ActR ρ nt a a' → exec P cal k c a H = some r → c.wp P (fun e a' w' => QR ρ H w nt r e a' w') a' w := by
  intro c
  induction c with
  | skip =>
    intro _ _ a H ρ w a' r hG hR hA h
    simp only [exec, Option.some.injEq] at h; subst h
    exact wp_skip ⟨ρ, Post.refl hR, hA, rfl⟩
  | label l =>
    intro _ _ a H ρ w a' r hG hR hA h
    simp only [exec, Option.some.injEq] at h; subst h
    exact wp_label ⟨ρ, Post.refl hR, hA, rfl⟩
  | region id ops draw =>
    intro hok hdr a H ρ w a' r hG hR hA h
    cases draw with
    | false => exact wp_region (execOps_sound hP hcal hok _ a H ρ w a' r hG hR hA h)
    | true => exact hD cal hcal nt ops id hok hdr a H ρ w a' r hG hR hA h
  | seq x y ihx ihy =>
    intro hok hdr a H ρ w a' r hG hR hA h
    simp only [okCode, Bool.and_eq_true] at hok
    simp only [drawsOk, Bool.and_eq_true] at hdr
    simp only [exec] at h
    refine wp_seq ?_
    split at h
    · rename_i a1 H1 he
      refine wp_mono (ihx hok.1 hdr.1 a H ρ w a' _ hG hR hA he) fun e a2 w2 q => ?_
      obtain ⟨ρ1, q1, q2, q3⟩ := q
      simp only [XRel] at q3
      subst q3
      exact wp_mono (ihy hok.2 hdr.2 a1 H1 ρ1 w2 a2 r (hG.mono q1.ext) q1.rel q2 h) fun e a w q => q.trans q1
    · rename_i hne
      refine wp_mono (ihx hok.1 hdr.1 a H ρ w a' _ hG hR hA h) fun e a2 w2 q => ?_
      cases e with
      | normal =>
        obtain ⟨ρ1, q1, q2, q3⟩ := q
        obtain ⟨x1, a1, H1⟩ := r
        exfalso
        cases x1 with
        | normal => exact hne a1 H1 h
        | pan v => obtain ⟨v', q3, _⟩ := q3; cases q3
        | _ => simp only [XRel] at q3; cases q3
      | _ => exact q
  | cond c x y ihx ihy =>
    intro hok hdr a H ρ w a' r hG hR hA h
    simp only [okCode, Bool.and_eq_true] at hok
    simp only [drawsOk, Bool.and_eq_true] at hdr
    have hc := hA.eval hG hok.1.1
    simp only [exec] at h
    split at h
    · rename_i heq
      rw [heq] at hc
      exact wp_cond_true hc.bool_inv (ihx hok.1.2 hdr.1 a H ρ w a' r hG hR hA h)
    · rename_i heq
      rw [heq] at hc
      exact wp_cond_false hc.bool_inv (ihy hok.2 hdr.2 a H ρ w a' r hG hR hA h)
    · cases h
  | block id b ih =>
    intro hok hdr a H ρ w a' r hG hR hA h
    simp only [okCode] at hok
    simp only [drawsOk] at hdr
    simp only [exec] at h
    refine wp_block ?_
    split at h
    · rename_i i a1 H1 he
      refine wp_mono (ih hok hdr a H ρ w a' _ hG hR hA he) fun e a2 w2 q => ?_
      obtain ⟨ρ1, q1, q2, q3⟩ := q
      simp only [XRel] at q3
      subst q3
      show (if i = id then _ else _)
      split at h
      · rename_i e; injection h with h; subst h; rw [if_pos e]; exact ⟨ρ1, q1, q2, rfl⟩
      · rename_i e; injection h with h; subst h; rw [if_neg e]; exact ⟨ρ1, q1, q2, rfl⟩
    · rename_i hne
      refine wp_mono (ih hok hdr a H ρ w a' _ hG hR hA h) fun e a2 w2 q => ?_
      cases e with
      | exit i =>
        obtain ⟨ρ1, q1, q2, q3⟩ := q
        obtain ⟨x1, a1, H1⟩ := r
        exfalso
        cases x1 with
        | exit j => simp only [XRel] at q3; injection q3 with q3; exact hne j a1 H1 h
        | pan v => obtain ⟨v', q3, _⟩ := q3; cases q3
        | _ => simp only [XRel] at q3; cases q3
      | _ => exact q
  | loop b ih =>
    intro hok hdr a H ρ w a' r hG hR hA h
    simp only [okCode] at hok
    simp only [drawsOk] at hdr
    simp only [exec] at h
    have key : ∀ (j : Nat) (a : CAct) (H1 : Heap) (ρ1 : Rho) (w1 : World) (a1' : Act), GR P ρ1 → Rel ρ1 H1 w1 → ActR ρ1 nt a a1' → iter (exec P cal k b) j a H1 = some r → Code.rounds P b (fun e a' w' => QR ρ1 H1 w1 nt r e a' w') j a1' w1 := by
      intro j
      induction j with
      | zero => intro a H1 ρ1 w1 a1' _ _ _ h; cases h
      | succ j ihj =>
        intro a H1 ρ1 w1 a1' hG1 hR1 hA1 h
        rw [rounds_succ]
        simp only [iter] at h
        have mono : ∀ {Q Q' : Exit → Act → World → Prop}, (∀ e a w, Q e a w → Q' e a w) → ∀ n {a w}, Code.rounds P b Q n a w → Code.rounds P b Q' n a w := by
          intro Q Q' hq n
          induction n with
          | zero => intro a w h; exact h
          | succ n ihn =>
            intro a w h
            rw [rounds_succ] at h ⊢
            refine wp_mono h fun e a w q => ?_
            cases e with
            | normal => exact ihn q
            | _ => exact hq _ _ _ q
        split at h
        · rename_i a2 H2 he
          refine wp_mono (ih hok hdr a H1 ρ1 w1 a1' _ hG1 hR1 hA1 he) fun e a3 w3 q => ?_
          obtain ⟨ρ2, q1, q2, q3⟩ := q
          simp only [XRel] at q3
          subst q3
          exact mono (fun e a w q => q.trans q1) j (ihj a2 H2 ρ2 w3 a3 (hG1.mono q1.ext) q1.rel q2 h)
        · rename_i hne
          refine wp_mono (ih hok hdr a H1 ρ1 w1 a1' _ hG1 hR1 hA1 h) fun e a3 w3 q => ?_
          cases e with
          | normal =>
            obtain ⟨ρ2, q1, q2, q3⟩ := q
            obtain ⟨x1, a2, H2⟩ := r
            exfalso
            cases x1 with
            | normal => exact hne a2 H2 h
            | pan v => obtain ⟨v', q3, _⟩ := q3; cases q3
            | _ => simp only [XRel] at q3; cases q3
          | _ => exact q
    exact wp_loop_rounds k (key k a H ρ w a' hG hR hA h)
  | exit id =>
    intro _ _ a H ρ w a' r hG hR hA h
    simp only [exec, Option.some.injEq] at h; subst h
    exact wp_exit ⟨ρ, Post.refl hR, hA, rfl⟩
  | scope b ih =>
    intro hok hdr a H ρ w a' r hG hR hA h
    simp only [okCode] at hok
    simp only [drawsOk] at hdr
    simp only [exec] at h
    refine wp_scope_plain ?_
    split at h
    · cases h
    · rename_i hne
      refine wp_mono (ih hok hdr a H ρ w a' _ hG hR hA h) fun e a2 w2 q => ⟨q, fun l e2 => ?_⟩
      subst e2
      obtain ⟨ρ1, q1, q2, q3⟩ := q
      obtain ⟨x1, a1, H1⟩ := r
      cases x1 with
      | goto j => exact hne j a1 H1 h
      | pan v => obtain ⟨v', q3, _⟩ := q3; cases q3
      | _ => simp only [XRel] at q3; cases q3
  | goto l =>
    intro _ _ a H ρ w a' r hG hR hA h
    simp only [exec, Option.some.injEq] at h; subst h
    exact wp_goto ⟨ρ, Post.refl hR, hA, rfl⟩
  | ret =>
    intro _ _ a H ρ w a' r hG hR hA h
    simp only [exec, Option.some.injEq] at h; subst h
    exact wp_ret ⟨ρ, Post.refl hR, hA, rfl⟩
  | rangeFunc f ps x y _ _ => intro _ _ a H ρ w a' r hG hR hA h; cases h
  | refuse s => intro _ _ a H ρ w a' r hG hR hA h; cases h

end Go.Can

namespace Go.Can
open Go
variable {P : Program}

/-- The heap has grown by new things alone. -/
structure Hx (H H' : Heap) : Prop where
  t : ∀ c o, H.t.get c = some o → H'.t.get c = some o
  fam : ∀ f x, H.fam.get f = some x → H'.fam.get f = some x

theorem Hx.refl (H : Heap) : Hx H H := ⟨fun _ _ h => h, fun _ _ h => h⟩
theorem Hx.trans {H H' H'' : Heap} (h : Hx H H') (k : Hx H' H'') : Hx H H'' := ⟨fun c o a => k.t c o (h.t c o a), fun c o a => k.fam c o (h.fam c o a)⟩

theorem Hx.read {H H' : Heap} (h : Hx H H') {c : Nat} {b : Blk} (hr : H.read c = some b) : H'.read c = some b := by
  obtain ⟨h1, h2⟩ := read_some hr
  have h3 := h.t c _ h1
  have h4 : H'.live b = true := by
    unfold Heap.live at h2 ⊢
    cases hro : b.ro with
    | true => simp
    | false =>
      simp only [hro, Bool.false_or] at h2 ⊢
      split at h2
      · rename_i top fl hf; rw [h.fam _ _ hf]; exact h2
      · cases h2
  simp only [Heap.read, Heap.blk, h3, h4, if_true]

def Res.on : Res → Heap → Res
  | .val v _, H => .val v H
  | .skip _, H => .skip H
  | .pan v _, H => .pan v H
  | .enter f a _, H => .enter f a H
  | .defer d _, H => .defer d H

theorem genC_on {ev : Operand → Value} {o : Oper} {H : Heap} {r : Res} (h : genC P ev o H = some r) (H' : Heap) : genC P ev o H' = some (r.on H') ∧ r.on H = r := by
  unfold genC at h ⊢
  split at h
  · rename_i hc
    rw [if_pos hc]
    split at h
    · rename_i v hp
      split at h
      · rename_i hf; rw [if_pos hf]; injection h with h; subst h; exact ⟨rfl, rfl⟩
      · cases h
    · rename_i v hp
      split at h
      · rename_i hf; rw [if_pos hf]; injection h with h; subst h; exact ⟨rfl, rfl⟩
      · cases h
    · cases h
  · cases h

theorem nfC_on {ev : Operand → Value} {o : Oper} {H : Heap} {r : Res} (h : nfC P ev o H = some r) (H' : Heap) : nfC P ev o H' = some (r.on H') ∧ r.on H = r := by
  unfold nfC at h ⊢
  split at h
  · rename_i v hp; injection h with h; subst h; exact ⟨rfl, rfl⟩
  · cases h

/-- What asks nothing of the heap. -/
theorem cop_pure {ev : Operand → Value} {o : Oper} {H : Heap} {r : Res} (hc : cls P o = .pure) (h : cop P ev o H = some r) (H' : Heap) : cop P ev o H' = some (r.on H') ∧ r.on H = r := by
  unfold cls at hc
  split at hc <;> rename_i ho
  all_goals first | cases hc | skip
  case h_25 => split at hc <;> cases hc
  case h_26 b args at' =>
    unfold cop at h ⊢
    simp only [ho, callC] at h ⊢
    cases b <;> first | (cases hc; done) | skip
    all_goals simp only [builtinC] at h ⊢
    all_goals repeat' (first | (exact genC_on h H') | (injection h with h; subst h; refine ⟨?_, rfl⟩; simp [Res.on, *]; done) | (cases h; done) | (refine ⟨?_, (genC_on h H').2⟩; have := (genC_on h H').1; simp only [*]; done) | (split at h))
  all_goals unfold cop at h ⊢; simp only [ho] at h ⊢
  all_goals repeat' (first | (injection h with h; subst h; refine ⟨?_, rfl⟩; simp [Res.on, *]; done) | (exact genC_on h H') | (exact nfC_on h H') | (cases h; done) | (simp only [Option.map_eq_some_iff] at h; obtain ⟨z, h1, rfl⟩ := h; refine ⟨?_, rfl⟩; simp [Res.on, *]; done) | (refine ⟨?_, (genC_on h H').2⟩; have := (genC_on h H').1; simp only [*, if_true]; done) | (refine ⟨?_, (nfC_on h H').2⟩; have := (nfC_on h H').1; simp only [*, if_true]; done) | (split at h))

theorem loadC_on {H H' : Heap} (hx : Hx H H') {t : TypeId} {x v : Value} (h : loadC P t x H = some v) : loadC P t x H' = some v := by
  unfold loadC at h ⊢
  split at h
  · split at h
    · rename_i hb ha hs; simp only [hx.read hb, ha, hs]; exact h
    · rename_i hb ha; simp only [hx.read hb, ha]; exact h
    · cases h
  · cases h

theorem lookC_on {H H' : Heap} (hx : Hx H H') {t : TypeId} {m k v : Value} {ok : Bool} (h : lookC P t m k ok H = some v) : lookC P t m k ok H' = some v := by
  unfold lookC at h ⊢
  split at h
  · rename_i kt et r hu
    try simp only [hu]
    cases ho : H.t.get r with
    | none => simp only [ho] at h; cases h
    | some o => simp only [ho, hx.t r o ho] at h ⊢; exact h
  · cases h

theorem sliceC_on {H H' : Heap} (hx : Hx H H') {t : TypeId} {x v : Value} {lo hi mx : Option Value} (h : sliceC P t x lo hi mx H = some v) : sliceC P t x lo hi mx H' = some v := by
  unfold sliceC at h ⊢
  split at h
  · rename_i hu; (try simp only [hu]); exact h
  · rename_i hu
    try simp only [hu]
    split at h
    · rename_i h1 h2 h3; simp only [h1, h2, hx.read h3]; exact h
    · cases h
  · cases h

theorem convC_on {H H' : Heap} (hx : Hx H H') {ev : Operand → Value} {o : Oper} {src dst : TypeId} {x : Value} {r : Res} (hc : ∀ e, P.underlying src = some .string → P.underlying dst ≠ some (.slice e))
    (h : convC P ev o src dst x H = some r) : convC P ev o src dst x H' = some (r.on H') ∧ r.on H = r := by
  unfold convC at h ⊢
  split at h
  · rename_i h1 h2; exact absurd h2 (hc _ h1)
  · rename_i h1 h2
    try simp only [h1, h2]
    split at h
    · rename_i h3 h4
      simp only [h3, hx.read h4]
      split at h
      · rename_i hcd
        rw [if_pos hcd]
        split at h
        · injection h with h; subst h; exact ⟨rfl, rfl⟩
        · cases h
      · cases h
    · cases h
  · rename_i h1 h2
    try simp only [h1, h2]
    split at h
    · rename_i h3 h4
      simp only [hx.read h3, h4]
      split at h
      · rename_i hcd
        rw [if_pos hcd]
        injection h with h; subst h; exact ⟨rfl, rfl⟩
      · cases h
    · cases h
  · rename_i h1 h2
    try simp only [h1, h2]
    split at h
    · rename_i h3 h4
      simp only [hx.read h3, h4]
      split at h
      · rename_i hcd
        rw [if_pos hcd]
        injection h with h; subst h; exact ⟨rfl, rfl⟩
      · cases h
    · cases h
  · refine ⟨?_, (genC_on h H').2⟩; have := (genC_on h H').1; simp only [*]

theorem cop_read {ev : Operand → Value} {o : Oper} {H H' : Heap} {r : Res} (hx : Hx H H') (hc : cls P o = .read) (h : cop P ev o H = some r) : cop P ev o H' = some (r.on H') ∧ r.on H = r := by
  unfold cls at hc
  split at hc <;> rename_i ho
  all_goals first | cases hc | skip
  case h_25 =>
    unfold cop at h ⊢
    simp only [ho] at h ⊢
    refine convC_on hx (fun e h1 h2 => ?_) h
    rw [h1, h2] at hc; cases hc
  case h_26 b args at' =>
    unfold cop at h ⊢
    simp only [ho, callC] at h ⊢
    cases b <;> first | (cases hc; done) | skip
    all_goals simp only [builtinC] at h ⊢
    · split at h
      · rename_i h1 h2
        try simp only [h1, h2]
        split at h
        · rename_i h3
          simp only [hx.read h3]
          split at h
          · rename_i hcd; rw [if_pos hcd]; injection h with h; subst h; exact ⟨rfl, rfl⟩
          · cases h
        · cases h
      · refine ⟨?_, (genC_on h H').2⟩; have := (genC_on h H').1; simp only [*]
    · split at h
      · rename_i h1 h2
        try simp only [h1, h2]
        split at h
        · rename_i hcd; rw [if_pos hcd]; injection h with h; subst h; exact ⟨rfl, rfl⟩
        · cases h
      · rename_i h1 h2
        try simp only [h1, h2]
        split at h
        · rename_i h3
          simp only [hx.t _ _ h3]
          split at h
          · rename_i hcd; rw [if_pos hcd]; injection h with h; subst h; exact ⟨rfl, rfl⟩
          · cases h
        · cases h
      · refine ⟨?_, (genC_on h H').2⟩; have := (genC_on h H').1; simp only [*]
  all_goals unfold cop at h ⊢; simp only [ho] at h ⊢
  · simp only [Option.map_eq_some_iff] at h
    obtain ⟨v, hv, rfl⟩ := h
    exact ⟨by rw [loadC_on hx hv]; rfl, rfl⟩
  · split at h
    · rename_i h1
      try simp only [h1]
      simp only [Option.map_eq_some_iff] at h
      obtain ⟨v, hv, rfl⟩ := h
      exact ⟨by rw [lookC_on hx hv]; rfl, rfl⟩
    · refine ⟨?_, (genC_on h H').2⟩; have := (genC_on h H').1; simp only [*]
  · split at h
    · rename_i h1; (try simp only [h1]); exact genC_on h H'
    · rename_i h1; (try simp only [h1]); exact genC_on h H'
    · simp only [Option.map_eq_some_iff] at h
      obtain ⟨v, hv, rfl⟩ := h
      refine ⟨?_, rfl⟩
      have := sliceC_on hx hv
      simp only [*, Option.map_some, Res.on]

end Go.Can

namespace Go.Can
open Go
variable {P : Program}

/-- The same row of the world's, but for whether it is fixed. -/
def RB.like (r s : RB) : Prop := r.blk = s.blk ∧ r.off = s.off ∧ r.size = s.size ∧ r.exact = s.exact

theorem VR.meet {ρ ρa ρb : Rho} (h : ∀ c ra rb, ρa c = some ra → ρb c = some rb → ∃ r, ρ c = some r ∧ r.like ra) {v v' : Value} (ha : VR ρa v v') (hb : VR ρb v v') : VR ρ v v' := by
  induction ha with
  | unk r v hc => exact .unk r v hc
  | bool b => exact .bool b
  | int k n => exact .int k n
  | float k n => exact .float k n
  | complex k n m => exact .complex k n m
  | string s => exact .string s
  | nilFunc => exact .nilFunc
  | nilIface => exact .nilIface
  | ptrNone => exact .ptrNone
  | @ptr c ra off hc =>
    obtain ⟨rb, h1, h2⟩ := hb.ptr_inv
    obtain ⟨r, h3, h4, h5, _⟩ := h _ _ _ hc h1
    have := VR.ptr off h3
    rw [h4, h5] at this; exact this
  | sliceNone n k => exact .sliceNone n k
  | @slice c ra off es n k k' a hc ha h1 h2 h3 h4 =>
    obtain ⟨rb, _, _, g1, _⟩ := hb.slice_inv
    obtain ⟨r, h5, l1, l2, l3, l4⟩ := h _ _ _ hc g1
    exact .slice off es n k k' a h5 (by rw [l1, l2]; exact ha) h1 (by rw [l2, l3]; exact h2) (by rw [l4]; exact h3) h4
  | mapNone => exact .mapNone
  | @map c ra hc =>
    obtain ⟨rb, hc', _⟩ := hb.map_inv
    obtain ⟨r, h3, h4, _⟩ := h _ _ _ hc hc'
    have := VR.map h3
    rw [h4] at this; exact this
  | chanNone => exact .chanNone
  | func fn l l' m m' hfn e1 e2 h1 h2 ih1 ih2 =>
    cases hb with
    | func _ _ _ _ _ _ _ _ g1 g2 => exact .func fn l l' m m' hfn e1 e2 (fun i v v' a b => ih1 i v v' a b (g1 i v v' a b)) (fun i v v' a b => ih2 i v v' a b (g2 i v v' a b))
  | iface t hv ih =>
    cases hb with
    | iface _ g => exact .iface t (ih g)
  | agg l l' e1 h1 ih =>
    cases hb with
    | agg _ _ _ g => exact .agg l l' e1 fun i v v' a b => ih i v v' a b (g i v v' a b)
  | tuple l l' e1 h1 ih =>
    cases hb with
    | tuple _ _ _ g => exact .tuple l l' e1 fun i v v' a b => ih i v v' a b (g i v v' a b)

theorem VR.weak {ρ ρa : Rho} (h : ∀ c ra, ρa c = some ra → ∃ r, ρ c = some r ∧ r.like ra) {v v' : Value} (ha : VR ρa v v') : VR ρ v v' := ha.meet (fun c ra _ h1 _ => h c ra h1) ha

inductive Mk where
  | ptr
  | slice (es n k : Nat)
  | map

def Mk.val : Mk → Nat → Value
  | .ptr, c => .pointer (some ⟨c, 0, none⟩)
  | .slice es n k, c => .slice (some ⟨c, 0, some es⟩) n k
  | .map, c => .map (some c)

inductive NewO where
  | cells (l : List Value) (elem : TypeId) (exact strish : Bool)
  | map
  | siter (s : ByteArray)

def NewO.to : NewO → Heap → Heap
  | .cells l e ex st, H => H.new l e ex st
  | .map, H => H.newObj (.map [])
  | .siter s, H => H.newObj (.siter s 0)

def NewO.fits (m : Mk) : NewO → Prop
  | .cells l _ ex _ => ex = true ∨ ∃ k, m = .slice 1 l.length k
  | _ => True

theorem buildSliceC_new {t : TypeId} {len : Nat} {ps : Array (Nat × Value)} {H : Heap} {x : Value × Heap} (h : buildSliceC P t len ps H = some x) :
    ∃ m ob, NewO.fits m ob ∧ x = (Mk.val m H.next, NewO.to ob H) ∧ ∀ H', buildSliceC P t len ps H' = some (Mk.val m H'.next, NewO.to ob H') := by
  unfold buildSliceC at h
  split at h
  · rename_i e he
    split at h
    · rename_i i z hi hz
      split at h
      · rename_i hc
        split at h
        · rename_i cells hf
          injection h with h
          refine ⟨.slice i.size len len, .cells cells.toList e true false, .inl rfl, h.symm, fun H' => ?_⟩
          unfold buildSliceC
          simp only [he, hi, hz]
          rw [if_pos hc, hf]; rfl
        · cases h
      · cases h
    · cases h
  · cases h

theorem makeSliceC_new {t : TypeId} {l c : Value} {H : Heap} {x : Value × Heap} (h : makeSliceC P t l c H = some x) :
    ∃ m ob, NewO.fits m ob ∧ x = (Mk.val m H.next, NewO.to ob H) ∧ ∀ H', makeSliceC P t l c H' = some (Mk.val m H'.next, NewO.to ob H') := by
  unfold makeSliceC at h
  split at h
  · rename_i e li ci he hl hc
    split at h
    · rename_i i z hi hz
      split at h
      · rename_i hcd
        injection h with h
        refine ⟨.slice i.size li.toNat ci.toNat, .cells _ e true false, .inl rfl, h.symm, fun H' => ?_⟩
        unfold makeSliceC
        simp only [he, hl, hc, hi, hz]
        rw [if_pos hcd]; rfl
      · cases h
    · cases h
  · cases h

/-- What an operation that makes a new thing makes, in whatever heap. -/
theorem cop_alloc {ev : Operand → Value} {o : Oper} {H : Heap} {r : Res} (hc : cls P o = .alloc) (h : cop P ev o H = some r) :
    ((∀ H', cop P ev o H' = some (r.on H')) ∧ r.on H = r) ∨ ∃ m ob, NewO.fits m ob ∧ r = .val (Mk.val m H.next) (NewO.to ob H) ∧ ∀ H', cop P ev o H' = some (.val (Mk.val m H'.next) (NewO.to ob H')) := by
  unfold cls at hc
  split at hc <;> rename_i ho
  all_goals first | cases hc | skip
  case h_26 b args at' =>
    cases b <;> cases hc
  all_goals unfold cop at h ⊢; simp only [ho] at h ⊢
  · simp only [Option.map_eq_some_iff] at h
    obtain ⟨z, hz, rfl⟩ := h
    exact .inr ⟨.ptr, .cells z.cells.toList _ true false, .inl rfl, rfl, fun H' => by rw [hz]; rfl⟩
  · injection h with h; subst h
    exact .inr ⟨.ptr, .cells _ _ true false, .inl rfl, rfl, fun H' => rfl⟩
  · simp only [Option.map_eq_some_iff] at h
    obtain ⟨x, hx, rfl⟩ := h
    obtain ⟨m, ob, hf, rfl, h2⟩ := buildSliceC_new hx
    exact .inr ⟨m, ob, hf, rfl, fun H' => by rw [h2 H']; rfl⟩
  · split at h
    · injection h with h; subst h
      exact .inr ⟨.map, .map, trivial, rfl, fun H' => by (try simp only [*]); rfl⟩
    · injection h with h; subst h
      exact .inr ⟨.map, .map, trivial, rfl, fun H' => by (try simp only [*]); rfl⟩
    · cases h
  · simp only [Option.map_eq_some_iff] at h
    obtain ⟨x, hx, rfl⟩ := h
    obtain ⟨m, ob, hf, rfl, h2⟩ := makeSliceC_new hx
    exact .inr ⟨m, ob, hf, rfl, fun H' => by rw [h2 H']; rfl⟩
  · split at h
    · rename_i s h1 h2
      injection h with h; subst h
      exact .inr ⟨.ptr, .siter s, trivial, rfl, fun H' => by (try simp only [*]); rfl⟩
    · cases h
  · rename_i src dst x
    unfold convC at h
    split at h
    · rename_i h1 h2
      split at h
      · rename_i h3
        injection h with h; subst h
        exact .inr ⟨.slice 1 _ _, .cells _ _ false true, .inr ⟨_, by rw [List.length_map, Array.length_toList]; rfl⟩, rfl, fun H' => by unfold convC; simp only [*]; rfl⟩
      · cases h
    · rename_i h1 h2 h3; rw [h1, h2] at hc; cases hc
    · rename_i h1 h2 h3; rw [h1, h2] at hc; cases hc
    · rename_i h1 h2 h3; rw [h1, h2] at hc; cases hc
    · refine .inl ⟨fun H' => ?_, (genC_on h H).2⟩
      have := (genC_on h H').1
      unfold convC
      simp only [*]

/-- A heap in which nothing is known. -/
def bare (n : Nat) : Heap := { next := n, t := .nil, fam := .nil }
def fixed (ρ : Rho) : Rho := fun c => (ρ c).map fun rb => { rb with ro := true }
theorem fixed_some {ρ : Rho} {c : Nat} {rb : RB} (h : ρ c = some rb) : fixed ρ c = some { rb with ro := true } := by simp [fixed, h]
theorem fixed_inv {ρ : Rho} {c : Nat} {rb : RB} (h : fixed ρ c = some rb) : ∃ r, ρ c = some r ∧ rb = { r with ro := true } := by
  unfold fixed at h
  cases hc : ρ c with
  | none => rw [hc] at h; cases h
  | some r => rw [hc] at h; injection h with h; exact ⟨r, rfl, h.symm⟩

theorem bare_rel {ρ : Rho} {H : Heap} {w : World} (hR : Rel ρ H w) {n : Nat} (hn : H.next ≤ n) : Rel (fixed ρ) (bare n) w := by
  have g : ∀ c, (bare n).t.get c = none := fun c => Tr.get_nil c
  refine ⟨⟨fun c o h => (by rw [g] at h; cases h), fun f x h => ?_, fun c b h => (by rw [g] at h; cases h), fun c d b b' h => (by rw [g] at h; cases h), fun c d b b' h => (by rw [g] at h; cases h)⟩,
    fun c rb h => ?_, fun c rb b _ h => (by rw [g] at h; cases h), fun c rb es _ h => (by rw [g] at h; cases h), fun c rb s pos _ h => (by rw [g] at h; cases h), fun c d rc rd h1 h2 _ _ => ?_⟩
  · have : (bare n).fam.get f = none := Tr.get_nil f
    rw [this] at h; cases h
  · obtain ⟨r, h1, rfl⟩ := fixed_inv h
    have := hR.lt c r h1
    exact ⟨Nat.lt_of_lt_of_le this.1 hn, this.2⟩
  · obtain ⟨r, _, rfl⟩ := fixed_inv h1
    obtain ⟨s, _, rfl⟩ := fixed_inv h2
    exact .inl ⟨rfl, rfl⟩

/-- What stands in the world for a new thing. -/
def NewO.stands (ρ : Rho) (w : World) (rb : RB) : NewO → Prop
  | .cells l e ex st => ∃ cs fr, rb.exact = ex ∧ w.heap[rb.blk]? = some (.cells cs e fr) ∧ cs.size = rb.size ∧ (ex = true → rb.off = 0 ∧ l.length = rb.size) ∧
      (∀ (i : Nat) v, l[i]? = some v → ∃ v', cs[rb.off + i]? = some v' ∧ VR ρ v v') ∧ FrzOk cs.size rb.off 0 st fr
  | .map => ∃ clock, w.heap[rb.blk]? = some (.map #[] clock)
  | .siter s => rb.off = 0 ∧ w.heap[rb.blk]? = some (.stringIter s 0)

structure Made (ρ : Rho) (w : World) (m : Mk) (ob : NewO) (v' : Value) (w1 : World) (rb : RB) : Prop where
  ro : rb.ro = false
  lo : w.heap.size ≤ rb.blk
  hi : rb.blk < w1.heap.size
  keep : ∀ k, k < w.heap.size → w1.heap[k]? = w.heap[k]?
  size : w.heap.size ≤ w1.heap.size
  os : w1.os = w.os
  tape : w1.tape = w.tape
  output : w1.output = w.output
  val : ∀ (ρ2 : Rho) c, ρ2 c = some rb → VR ρ2 (m.val c) v'
  stands : ob.stands ρ w1 rb

theorem made_of {ρ : Rho} {H : Heap} {w : World} (hR : Rel ρ H w) {n : Nat} (hn : H.next ≤ n) {m : Mk} {ob : NewO} {v' : Value} {w1 : World} {ρ1 : Rho} (hP : Post (fixed ρ) (bare n) w ρ1 (ob.to (bare n)) w1) (hv : VR ρ1 (m.val n) v') :
    ∃ rb, ρ1 n = some rb ∧ rb.ro = false ∧ w.heap.size ≤ rb.blk ∧ rb.blk < w1.heap.size ∧ (∀ k, k < w.heap.size → w1.heap[k]? = w.heap[k]?) ∧ (∀ (ρ2 : Rho) c, ρ2 c = some rb → VR ρ2 (m.val c) v') ∧
      (∀ c ra, ρ1 c = some ra → c = n ∨ ∃ r, ρ c = some r ∧ r.like ra) := by
  have hinv : ∃ rb, ρ1 n = some rb ∧ ∀ (ρ2 : Rho) c, ρ2 c = some rb → VR ρ2 (m.val c) v' := by
    cases m with
    | ptr =>
      obtain ⟨rb, h1, rfl⟩ := hv.ptr_inv
      exact ⟨rb, h1, fun ρ2 c hc => .ptr 0 hc⟩
    | slice es k cap =>
      obtain ⟨rb, k', a, h1, rfl, h2, h3, h4, h5, h6⟩ := hv.slice_inv
      exact ⟨rb, h1, fun ρ2 c hc => .slice 0 es k cap k' a hc h2 h3 h4 h5 h6⟩
    | map =>
      obtain ⟨rb, h1, rfl⟩ := hv.map_inv
      exact ⟨rb, h1, fun ρ2 c hc => .map hc⟩
  obtain ⟨rb, h1, h2⟩ := hinv
  have hnone : fixed ρ n = none := by
    cases hq : fixed ρ n with
    | none => rfl
    | some r => obtain ⟨r', h3, _⟩ := fixed_inv hq; have := (hR.lt n r' h3).1; omega
  obtain ⟨_, h3, h4⟩ := hP.new n rb h1 hnone
  refine ⟨rb, h1, h3, ?_, (hP.rel.lt n rb h1).2, fun k hk => hP.frame k hk fun c r hc _ => ?_, h2, fun c ra hc => ?_⟩
  · rcases h4 with h4 | ⟨d, rd, g1, _, g3⟩
    · exact h4
    · obtain ⟨r', _, rfl⟩ := fixed_inv g1; cases g3
  · obtain ⟨r', _, rfl⟩ := fixed_inv hc; rfl
  · by_cases e : c = n
    · exact .inl e
    · right
      cases hq : fixed ρ c with
      | some r =>
        have := hP.ext c r hq
        rw [hc] at this; injection this with this; subst this
        obtain ⟨r', g1, rfl⟩ := fixed_inv hq
        exact ⟨r', g1, rfl, rfl, rfl, rfl⟩
      | none =>
        have g1 := (hP.new c ra hc hq).1
        have g2 := (hP.rel.lt c ra hc).1
        have : (ob.to (bare n)).next = n + 1 := by cases ob <;> rfl
        rw [this] at g2
        have : (bare n).next = n := rfl
        omega

/-- A new thing made. -/
theorem alloc_sound (hP : okProg P = true) {ρ : Rho} {H : Heap} {w : World} {ev ev' : Operand → Value} {o : Oper} {m : Mk} {ob : NewO} (hR : Rel ρ H w) (hev : ∀ x ∈ o.op.operands, VR ρ (ev x) (ev' x)) (hf : ob.fits m)
    (h : ∀ H', cop P ev o H' = some (.val (m.val H'.next) (ob.to H'))) : ∃ v' w1 rb, (execOp ev' o).run P w = .ok (.value v') w1 ∧ Made ρ w m ob v' w1 rb := by
  have hev' : ∀ x ∈ o.op.operands, VR (fixed ρ) (ev x) (ev' x) := fun x hx => (hev x hx).weak fun c ra hc => ⟨_, fixed_some hc, rfl, rfl, rfl, rfl⟩
  obtain ⟨v', w1, ρ1, e1, p1, q1⟩ := cop_sound hP (bare_rel hR (Nat.le_refl _)) hev' (h (bare H.next))
  obtain ⟨v2, w2, ρ2, e2, p2, q2⟩ := cop_sound hP (bare_rel hR (Nat.le_succ _)) hev' (h (bare (H.next + 1)))
  rw [e1] at e2
  injection e2 with e2 e3; injection e2 with e2; subst e2 e3
  change VR ρ1 (m.val H.next) v' at q1
  change VR ρ2 (m.val (H.next + 1)) v' at q2
  obtain ⟨rb, a1, a2, a3, a4, a5, a6, a7⟩ := made_of hR (Nat.le_refl _) p1 q1
  obtain ⟨rb2, b1, b2, b3, b4, b5, b6, b7⟩ := made_of hR (Nat.le_succ _) p2 q2
  refine ⟨v', w1, rb, e1, a2, a3, a4, a5, p1.size, p1.os, p1.tape, p1.output, a6, ?_⟩
  have meet : ∀ c ra rb, ρ1 c = some ra → ρ2 c = some rb → ∃ r, ρ c = some r ∧ r.like ra := fun c ra rb h1 h2 => by
    rcases a7 c ra h1 with e | h
    · rcases b7 c rb h2 with e' | ⟨r, g, _⟩
      · omega
      · have := (hR.lt c r g).1; omega
    · exact h
  cases ob with
  | cells l e ex st =>
    have hg : ∀ n, ((NewO.cells l e ex st).to (bare n)).t.get n = some (.cells { cells := l, elem := e, fam := n, ver := 0, ro := false, frz := 0, strish := st, exact := ex }) := fun n => by simp [NewO.to, Heap.new, bare, Tr.get_set]
    have hl : ∀ n, ((NewO.cells l e ex st).to (bare n)).live { cells := l, elem := e, fam := n, ver := 0, ro := false, frz := 0, strish := st, exact := ex } = true := fun n => by simp [NewO.to, Heap.new, bare, Heap.live, Tr.get_set]
    have ht : ∀ n, topOf ((NewO.cells l e ex st).to (bare n)) { cells := l, elem := e, fam := n, ver := 0, ro := false, frz := 0, strish := st, exact := ex } := fun n => ⟨0, by simp [NewO.to, Heap.new, bare, Tr.get_set]⟩
    obtain ⟨cs, t, fr, r1⟩ := p1.rel.cells _ _ _ a1 (hg _)
    obtain ⟨cs2, t2, fr2, r2⟩ := p2.rel.cells _ _ _ b1 (hg _)
    have hte : t = e := r1.elem (.inl rfl)
    subst hte
    have hblk : rb2.blk = rb.blk ∧ (rb2.off = rb.off ∨ l = []) := by
      cases m with
      | ptr =>
        obtain ⟨x, x1, x2⟩ := q1.ptr_inv
        obtain ⟨y, y1, y2⟩ := q2.ptr_inv
        rw [a1] at x1; injection x1 with x1; subst x1
        have hy : ρ2 (H.next + 1) = some y := y1
        rw [b1] at hy; injection hy with hy; subst hy
        rw [x2] at y2
        injection y2 with y2; injection y2 with y2; injection y2 with z1 z2
        exact ⟨z1.symm, .inl (by omega)⟩
      | slice es k cap =>
        obtain ⟨x, k1, a, x1, x2, x3, _, _, _, x7⟩ := q1.slice_inv
        obtain ⟨y, k2, b, y1, y2, y3, _, _, _, y7⟩ := q2.slice_inv
        rw [a1] at x1; injection x1 with x1; subst x1
        have hy : ρ2 (H.next + 1) = some y := y1
        rw [b1] at hy; injection hy with hy; subst hy
        rw [x2] at y2
        injection y2 with z1 z2 z3; injection z1 with z1; subst z1 z3
        have hl0 : k1 = 0 → rb2.off = rb.off ∨ l = [] := fun h0 => by
          rcases hf with hf | ⟨k3, hf⟩
          · exact .inl (by rw [(r1.whole hf).1, (r2.whole hf).1])
          · injection hf with _ g _
            exact .inr (List.length_eq_zero_iff.1 (by omega))
        rcases x3 with rfl | ⟨g1, g2, _⟩ <;> rcases y3 with h3 | ⟨g3, g4, _⟩
        · injection h3 with h4 h5; exact ⟨h4.symm, .inl (by omega)⟩
        · exact ⟨g4.symm, hl0 g3⟩
        · subst h3; exact ⟨g2, hl0 g1⟩
        · exact ⟨g4.symm.trans g2, hl0 g1⟩
      | map =>
        rcases hf with hf | ⟨k3, hf⟩
        · obtain ⟨x, x1, x2⟩ := q1.map_inv
          obtain ⟨y, y1, y2⟩ := q2.map_inv
          rw [a1] at x1; injection x1 with x1; subst x1
          have hy : ρ2 (H.next + 1) = some y := y1
          rw [b1] at hy; injection hy with hy; subst hy
          rw [x2] at y2
          injection y2 with y2; injection y2 with y2
          exact ⟨y2.symm, .inl (by rw [(r1.whole hf).1, (r2.whole hf).1])⟩
        · cases hf
    have hcs : cs2 = cs := by
      have := r2.there
      rw [hblk.1, r1.there] at this
      injection this with this; injection this with this; exact this.symm
    subst hcs
    refine ⟨cs2, fr, r1.exact, r1.there, r1.size, r1.whole, fun i v hv => ?_, r1.frz rfl (ht _)⟩
    obtain ⟨u, c1, c2⟩ := r1.vals (hl _) i v hv
    obtain ⟨u2, d1, d2⟩ := r2.vals (hl _) i v hv
    rcases hblk.2 with ho | rfl
    · rw [ho, c1] at d1; injection d1 with d1; subst d1
      exact ⟨u, c1, c2.meet meet d2⟩
    · simp at hv
  | map =>
    obtain ⟨_, es', clock, h1, h2, _⟩ := p1.rel.map _ _ [] a1 (by simp [NewO.to, Heap.newObj, bare, Tr.get_set])
    refine ⟨clock, ?_⟩
    have : es' = #[] := by have := h2; simp at this; exact Array.eq_empty_of_size_eq_zero this.symm
    rw [h1, this]
  | siter s =>
    obtain ⟨_, h1, h2⟩ := p1.rel.siter _ _ s 0 a1 (by simp [NewO.to, Heap.newObj, bare, Tr.get_set])
    exact ⟨h1, h2⟩

end Go.Can

namespace Go.Can
open Go
variable {P : Program}

theorem Rel.grown {ρ : Rho} {H : Heap} {w w1 : World} (h : Rel ρ H w) (keep : ∀ k, k < w.heap.size → w1.heap[k]? = w.heap[k]?) (hs : w.heap.size ≤ w1.heap.size) : Rel ρ H w1 := by
  refine ⟨h.wf, fun c rb hc => ⟨(h.lt c rb hc).1, Nat.lt_of_lt_of_le (h.lt c rb hc).2 hs⟩, fun c rb b hc hb => ?_, fun c rb es hc he => ?_, fun c rb s pos hc hs => ?_, h.sep⟩
  · obtain ⟨cs, t, fr, r⟩ := h.cells c rb b hc hb
    exact ⟨cs, t, fr, r.ro, r.exact, by rw [keep _ (h.lt c rb hc).2]; exact r.there, r.size, r.elem, r.whole, r.vals, r.frz⟩
  · rw [keep _ (h.lt c rb hc).2]; exact h.map c rb es hc he
  · rw [keep _ (h.lt c rb hc).2]; exact h.siter c rb s pos hc hs

/-- The thing stands in the heap as it was made. -/
def NewO.at_ (H : Heap) (c : Nat) : NewO → Prop
  | .cells l e ex st => H.t.get c = some (.cells { cells := l, elem := e, fam := c, ver := 0, ro := false, frz := 0, strish := st, exact := ex })
  | .map => H.t.get c = some (.map [])
  | .siter s => H.t.get c = some (.siter s 0)

theorem NewO.at_to (ob : NewO) (H : Heap) : ob.at_ (ob.to H) H.next := by
  cases ob <;> simp [NewO.at_, NewO.to, Heap.new, Heap.newObj, Tr.get_set]

theorem NewO.at_hx {ob : NewO} {H H' : Heap} {c : Nat} (hx : Hx H H') (h : ob.at_ H c) : ob.at_ H' c := by
  cases ob <;> exact hx.t _ _ h

theorem NewO.next (ob : NewO) (H : Heap) : (ob.to H).next = H.next + 1 := by cases ob <;> rfl

theorem Rel.newO {ρ : Rho} {H : Heap} {w : World} (h : Rel ρ H w) (ob : NewO) : Rel ρ (ob.to H) w := by
  cases ob with
  | cells l e ex st => exact h.new l e ex st
  | map => exact h.newObj _ (fun b e => by cases e)
  | siter s => exact h.newObj _ (fun b e => by cases e)

theorem wf_rel {H : Heap} (h : HWf H) (w : World) : Rel (fun _ => none) H w :=
  ⟨h, fun c rb hc => (by cases hc), fun c rb b hc => (by cases hc), fun c rb b hc => (by cases hc), fun c rb s pos hc => (by cases hc), fun c d rc rd hc => (by cases hc)⟩

theorem HWf.newO {H : Heap} (h : HWf H) (ob : NewO) : HWf (ob.to H) := ((wf_rel h default).newO ob).wf

theorem hx_newO {H : Heap} (h : HWf H) (ob : NewO) : Hx H (ob.to H) := by
  have h1 : ∀ c o, H.t.get c = some o → c ≠ H.next := fun c o hc => by have := h.nx c o hc; omega
  have h2 : ∀ f x, H.fam.get f = some x → f ≠ H.next := fun f x hf => by have := h.fx f x hf; omega
  refine ⟨fun c o hc => ?_, fun f x hf => ?_⟩
  · cases ob <;> simp only [NewO.to, Heap.new, Heap.newObj, Tr.get_set, if_neg (h1 c o hc), hc]
  · cases ob with
    | cells => simp only [NewO.to, Heap.new, Tr.get_set, if_neg (h2 f x hf), hf]
    | _ => exact hf

theorem Post.newO {ρ0 ρ : Rho} {H0 H : Heap} {w0 w : World} (h : Post ρ0 H0 w0 ρ H w) (ob : NewO) : Post ρ0 H0 w0 ρ (ob.to H) w :=
  ⟨h.ext, h.rel.newO ob, h.new, by rw [NewO.next]; exact Nat.le_succ_of_le h.next, h.size, h.frame, h.os, h.tape, h.output⟩

theorem Post.born {ρ0 ρ : Rho} {H0 H : Heap} {w0 w w1 : World} {m : Mk} {ob : NewO} {v' : Value} {rb : RB} {c : Nat} (h : Post ρ0 H0 w0 ρ H w) (hm : Made ρ w m ob v' w1 rb) (hc : H0.next ≤ c) (hn : ρ c = none)
    (hat : ob.at_ H c) : Post ρ0 H0 w0 (ρ.add c rb) H w1 := by
  have he := Rho.add_ext rb hn
  have hg := h.rel.grown hm.keep hm.size
  have hk : ∀ d rd, ρ d = some rd → rd.blk ≠ rb.blk := fun d rd hd e => by have := (h.rel.lt d rd hd).2; have := hm.lo; omega
  refine ⟨h.ext.trans he, ?_, fun d rd h1 h2 => ?_, h.next, Nat.le_trans h.size hm.size, fun k hk h1 => ?_, hm.os.trans h.os, hm.tape.trans h.tape, hm.output.trans h.output⟩
  · have hst := hm.stands
    cases ob with
    | cells l e ex st =>
      obtain ⟨cs, fr, g1, g2, g3, g4, g5, g6⟩ := hst
      exact hg.born (cs := cs) (t := e) (fr := fr) hn hat rfl hm.hi ⟨hm.ro, g1, g2, g3, fun _ => rfl, g4, fun _ i v hv => by
        obtain ⟨u, a, b⟩ := g5 i v hv; exact ⟨u, a, b.mono he⟩, fun _ _ => g6⟩ (fun d rd hd hbk => absurd hbk (hk d rd hd))
    | map =>
      obtain ⟨clock, g⟩ := hst
      exact hg.bornObj (o := .map []) hn hat (fun b e => by cases e) hm.hi hk (fun es e => by injection e with e; exact ⟨hm.ro, e.symm, clock, g⟩) (fun s pos e => by cases e)
    | siter s =>
      obtain ⟨g1, g2⟩ := hst
      exact hg.bornObj (o := .siter s 0) hn hat (fun b e => by cases e) hm.hi hk (fun es e => by cases e) (fun s pos e => by injection e with e1 e2; subst e1 e2; exact ⟨hm.ro, g1, g2⟩)
  · by_cases e : d = c
    · subst e
      rw [Rho.add_same] at h1; injection h1 with h1; subst h1
      exact ⟨hc, hm.ro, .inl (Nat.le_trans h.size hm.lo)⟩
    · rw [Rho.add_ne ρ rb e] at h1; exact h.new d rd h1 h2
  · exact (hm.keep k (Nat.lt_of_lt_of_le hk h.size)).trans (h.frame k hk h1)

/-! ## Equal by text -/

theorem bytes_beq {s t : ByteArray} (h : (s == t) = true) : s = t := by
  cases s; cases t
  simp [BEq.beq] at h
  have : ∀ a b : Array UInt8, ByteArray.beq ⟨a⟩ ⟨b⟩ = true → a = b := fun a b h => by simpa [ByteArray.beq] using h
  rw [this _ _ h]

mutual
theorem veq_eq : ∀ v w : Value, veq v w = true → v = w
  | .bool _, w, h | .pointer _, w, h | .map _, w, h | .int _ _, w, h | .slice _ _ _, w, h | .nilFunc, w, h | .nilIface, w, h | .float _ _, w, h | .complex _ _ _, w, h | .chan _, w, h => by cases w <;> simp_all [veq]
  | .string s, w, h => by
    cases w with
    | string t => simp only [veq] at h; rw [bytes_beq h]
    | _ => simp [veq] at h
  | .iface t v, w, h => by
    cases w with
    | iface u w => simp only [veq, Bool.and_eq_true, beq_iff_eq] at h; rw [h.1, veq_eq v w h.2]
    | _ => simp [veq] at h
  | .func f ⟨l1⟩ ⟨m1⟩, w, h => by
    cases w with
    | func g l2 m2 =>
      cases l2; cases m2
      simp only [veq, veqA, Bool.and_eq_true, beq_iff_eq] at h
      rw [h.1.1, veqL_eq l1 _ h.1.2, veqL_eq m1 _ h.2]
    | _ => simp [veq] at h
  | .agg ⟨l⟩, w, h => by
    cases w with
    | agg m => cases m; simp only [veq, veqA] at h; rw [veqL_eq l _ h]
    | _ => simp [veq] at h
  | .tuple ⟨l⟩, w, h => by
    cases w with
    | tuple m => cases m; simp only [veq, veqA] at h; rw [veqL_eq l _ h]
    | _ => simp [veq] at h
theorem veqL_eq : ∀ l m : List Value, veqL l m = true → l = m
  | [], [], _ => rfl
  | v :: l, w :: m, h => by
    simp only [veqL, Bool.and_eq_true] at h
    rw [veq_eq v w h.1, veqL_eq l m h.2]
  | [], _ :: _, h => by simp [veqL] at h
  | _ :: _, [], h => by simp [veqL] at h
end

end Go.Can

namespace Go.Can
open Go
variable {P : Program}

def Res.plain (r : Res) : Prop := (∃ v H, r = .val v H) ∨ ∃ v H, r = .pan v H

theorem genC_plain {ev : Operand → Value} {o : Oper} {H : Heap} {r : Res} (h : genC P ev o H = some r) : r.plain := by
  unfold genC at h
  repeat' (first | (injection h with h; subst h; first | exact .inl ⟨_, _, rfl⟩ | exact .inr ⟨_, _, rfl⟩) | (cases h; done) | split at h)

theorem nfC_plain {ev : Operand → Value} {o : Oper} {H : Heap} {r : Res} (h : nfC P ev o H = some r) : r.plain := by
  unfold nfC at h
  repeat' (first | (injection h with h; subst h; first | exact .inl ⟨_, _, rfl⟩ | exact .inr ⟨_, _, rfl⟩) | (cases h; done) | split at h)

theorem cop_plain {ev : Operand → Value} {o : Oper} {H : Heap} {r : Res} (hc : cls P o ≠ .eff) (h : cop P ev o H = some r) : r.plain := by
  cases hq : cls P o with
  | eff => exact absurd hq hc
  | alloc =>
    rcases cop_alloc hq h with ⟨_, _⟩ | ⟨m, ob, _, rfl, _⟩
    · unfold cls at hq
      split at hq <;> rename_i ho
      all_goals first | cases hq | skip
      case h_26 b args at' => cases b <;> cases hq
      all_goals unfold cop at h; simp only [ho] at h
      all_goals repeat' (first | (injection h with h; subst h; exact .inl ⟨_, _, rfl⟩) | (cases h; done) | (simp only [Option.map_eq_some_iff] at h; obtain ⟨z, _, rfl⟩ := h; exact .inl ⟨_, _, rfl⟩) | split at h)
      unfold convC at h
      repeat' (first | (exact genC_plain h) | (injection h with h; subst h; exact .inl ⟨_, _, rfl⟩) | (cases h; done) | split at h)
    · exact .inl ⟨_, _, rfl⟩
  | pure =>
    unfold cls at hq
    split at hq <;> rename_i ho
    all_goals first | cases hq | skip
    case h_25 => split at hq <;> cases hq
    case h_26 b args at' =>
      unfold cop at h
      simp only [ho, callC] at h
      cases b <;> first | (cases hq; done) | skip
      all_goals simp only [builtinC] at h
      all_goals repeat' (first | (exact genC_plain h) | (injection h with h; subst h; exact .inl ⟨_, _, rfl⟩) | (cases h; done) | split at h)
    all_goals unfold cop at h; simp only [ho] at h
    all_goals repeat' (first | (exact genC_plain h) | (exact nfC_plain h) | (injection h with h; subst h; exact .inl ⟨_, _, rfl⟩) | (cases h; done) | (simp only [Option.map_eq_some_iff] at h; obtain ⟨z, _, rfl⟩ := h; exact .inl ⟨_, _, rfl⟩) | split at h)
  | read =>
    unfold cls at hq
    split at hq <;> rename_i ho
    all_goals first | cases hq | skip
    case h_25 =>
      unfold cop at h
      simp only [ho] at h
      unfold convC at h
      repeat' (first | (exact genC_plain h) | (injection h with h; subst h; exact .inl ⟨_, _, rfl⟩) | (cases h; done) | split at h)
    case h_26 b args at' =>
      unfold cop at h
      simp only [ho, callC] at h
      cases b <;> first | (cases hq; done) | skip
      all_goals simp only [builtinC] at h
      all_goals repeat' (first | (exact genC_plain h) | (injection h with h; subst h; exact .inl ⟨_, _, rfl⟩) | (cases h; done) | split at h)
    all_goals unfold cop at h; simp only [ho] at h
    all_goals repeat' (first | (exact genC_plain h) | (exact nfC_plain h) | (injection h with h; subst h; exact .inl ⟨_, _, rfl⟩) | (cases h; done) | (simp only [Option.map_eq_some_iff] at h; obtain ⟨z, _, rfl⟩ := h; exact .inl ⟨_, _, rfl⟩) | split at h)

theorem sameRes_val {r r' : Option Res} {v : Value} {H : Heap} (h : sameRes r r' = true) (hr : r = some (.val v H)) : ∃ H', r' = some (.val v H') := by
  subst hr
  unfold sameRes at h
  split at h
  · rename_i v1 _ w1 H1 e1
    injection e1 with e1; injection e1 with e1 e2; subst e1
    have := veq_eq _ _ h
    subst this
    exact ⟨H1, rfl⟩
  · cases h

/-! ## The interpreter's own run -/

def StepOk (P : Program) (cal : Cal) (ops : Array Oper) (j : Nat) (s s' : CAct × Heap) : Prop :=
  ∃ o, ops[j]? = some o ∧ ((wantedC ops s.1 o = some true ∧ execOne P cal o s.1 s.2 = some (.ok s'.1, s'.2)) ∨ (wantedC ops s.1 o = some false ∧ s' = (s.1.put o.dst undef, s.2)))

def EndOk (P : Program) (cal : Cal) (ops : Array Oper) (m n : Nat) (s : CAct × Heap) (x : X) (a' : CAct) (H' : Heap) : Prop :=
  (x = .normal ∧ m = n ∧ a' = s.1 ∧ H' = s.2) ∨
  ∃ v o, x = .pan v ∧ ops[m]? = some o ∧ m < n ∧ wantedC ops s.1 o = some true ∧ execOne P cal o s.1 s.2 = some (.error v, H') ∧ a' = s.1 ∧ cls P o = .eff ∧
    (∀ j, m < j → j < n → ahead (Region.before ops) m j = true) ∧ (∀ j, j < m → ahead (Region.before ops) j m = true)

theorem execTr_spec {cal : Cal} {ops : Array Oper} : ∀ (len k : Nat) (a : CAct) (H : Heap) (tr : List (CAct × Heap)) (x : X) (a' : CAct) (H' : Heap) (out : List (CAct × Heap)),
    execTr P cal ops (List.range' k len) a H tr = some (x, a', H', out) →
    ∃ l : List (CAct × Heap), out = l.reverse ++ tr ∧ l[0]? = some (a, H) ∧ (∀ i s s', l[i]? = some s → l[i + 1]? = some s' → StepOk P cal ops (k + i) s s') ∧
      ∃ m s, l.length = m + 1 ∧ l[m]? = some s ∧ EndOk P cal ops (k + m) (k + len) s x a' H' := by
  intro len
  induction len with
  | zero =>
    intro k a H tr x a' H' out h
    simp only [List.range'_zero, execTr, Option.some.injEq, Prod.mk.injEq] at h
    obtain ⟨rfl, rfl, rfl, rfl⟩ := h
    exact ⟨[(a, H)], rfl, rfl, fun i s s' _ h2 => by simp at h2, 0, (a, H), rfl, rfl, .inl ⟨rfl, rfl, rfl, rfl⟩⟩
  | succ len ih =>
    intro k a H tr x a' H' out h
    simp only [List.range'_succ, execTr] at h
    have next : ∀ a1 H1, execTr P cal ops (List.range' (k + 1) len) a1 H1 ((a, H) :: tr) = some (x, a', H', out) → StepOk P cal ops k (a, H) (a1, H1) →
        ∃ l : List (CAct × Heap), out = l.reverse ++ tr ∧ l[0]? = some (a, H) ∧ (∀ i s s', l[i]? = some s → l[i + 1]? = some s' → StepOk P cal ops (k + i) s s') ∧
          ∃ m s, l.length = m + 1 ∧ l[m]? = some s ∧ EndOk P cal ops (k + m) (k + (len + 1)) s x a' H' := by
      intro a1 H1 h1 hs
      obtain ⟨l, e1, e2, e3, m, s, e4, e5, e6⟩ := ih (k + 1) a1 H1 _ x a' H' out h1
      refine ⟨(a, H) :: l, by simp [e1], rfl, fun i s s' g1 g2 => ?_, m + 1, s, by simp [e4], by simpa using e5, ?_⟩
      · cases i with
        | zero =>
          simp only [List.getElem?_cons_zero, Option.some.injEq] at g1
          simp only [List.getElem?_cons_succ, e2, Option.some.injEq] at g2
          subst g1 g2; exact hs
        | succ i =>
          simp only [List.getElem?_cons_succ] at g1 g2
          have := e3 i s s' g1 g2
          rw [show k + (i + 1) = k + 1 + i by omega]; exact this
      · rw [show k + (m + 1) = k + 1 + m by omega, show k + (len + 1) = k + 1 + len by omega]; exact e6
    cases ho : ops[k]? with
    | none => simp only [ho] at h; cases h
    | some o =>
      simp only [ho] at h
      split at h
      · rename_i hw
        split at h
        · rename_i a1 H1 he
          exact next a1 H1 h ⟨o, ho, .inl ⟨hw, he⟩⟩
        · rename_i v H1 he
          split at h
          · rename_i hc
            injection h with h; simp only [Prod.mk.injEq] at h
            obtain ⟨rfl, rfl, rfl, rfl⟩ := h
            simp only [Bool.and_eq_true, decide_eq_true_eq, List.all_eq_true] at hc
            refine ⟨[(a, H)], rfl, rfl, fun i s s' _ h2 => by simp at h2, 0, (a, H), rfl, rfl, .inr ⟨v, o, rfl, ho, by omega, hw, he, rfl, hc.1, fun j h1 h2 => ?_, fun j h1 => ?_⟩⟩
            · exact hc.2.1 j (by rw [List.mem_range'_1]; omega)
            · exact hc.2.2 j (List.mem_range.2 h1)
          · cases h
        · cases h
      · rename_i hw
        exact next _ H h ⟨o, ho, .inr ⟨hw, rfl⟩⟩
      · cases h

end Go.Can

namespace Go.Can
open Go
variable {P : Program} {ops : Array Oper}

theorem text_at (h : drawText P ops = true) {j : Nat} {oj : Oper} (hj : ops[j]? = some oj) : drawAt P ops (Region.before ops) j oj = true := by
  unfold drawText at h
  have hlt : j < ops.size := (Array.getElem?_eq_some_iff.1 hj).1
  have := List.all_eq_true.1 h j (List.mem_range.2 hlt)
  simp only [hj, Bool.and_eq_true] at this
  exact this.1

theorem text_pair (h : drawText P ops = true) {i j : Nat} {oi oj : Oper} (hi : ops[i]? = some oi) (hj : ops[j]? = some oj) (hij : i < j) : drawPair P ops (Region.before ops) i j oi oj = true := by
  unfold drawText at h
  have hlt : j < ops.size := (Array.getElem?_eq_some_iff.1 hj).1
  have := List.all_eq_true.1 h j (List.mem_range.2 hlt)
  simp only [hj, Bool.and_eq_true] at this
  have := List.all_eq_true.1 this.2 i (List.mem_range.2 hij)
  simpa only [hi] using this

theorem fold_bit (b : Array Nat) (i : Nat) : ∀ (l : List Edge) (s : Nat), (l.foldl (fun s e => if Region.binds .any e then s ||| 2 ^ e.on ||| b.getD e.on 0 else s) s).testBit i = true →
    s.testBit i = true ∨ ∃ e ∈ l, Region.binds .any e = true ∧ (i = e.on ∨ (b.getD e.on 0).testBit i = true) := by
  intro l
  induction l with
  | nil => intro s h; exact .inl h
  | cons e l ih =>
    intro s h
    rw [List.foldl_cons] at h
    rcases ih _ h with h | ⟨e', h1, h2⟩
    · split at h
      · rename_i hb
        simp only [Nat.testBit_or, Bool.or_eq_true] at h
        rcases h with (h | h) | h
        · exact .inl h
        · rw [Nat.testBit_two_pow] at h
          exact .inr ⟨e, by simp, hb, .inl (by simpa using (of_decide_eq_true h).symm)⟩
        · exact .inr ⟨e, by simp, hb, .inr h⟩
      · exact .inl h
    · exact .inr ⟨e', by simp [h1], h2⟩

theorem ahead_edge (h : drawText P ops = true) {i j : Nat} {oj : Oper} (hj : ops[j]? = some oj) (ha : ahead (Region.before ops) i j = true) :
    ∃ e ∈ oj.after, Region.binds .any e = true ∧ e.on < j ∧ (i = e.on ∨ ahead (Region.before ops) i e.on = true) := by
  have h1 := text_at h hj
  simp only [drawAt, Bool.and_eq_true, beq_iff_eq] at h1
  unfold ahead at ha ⊢
  rw [h1.1.1.1, ← Array.foldl_toList] at ha
  rcases fold_bit _ i _ 0 ha with h2 | ⟨e, h2, h3, h4⟩
  · simp at h2
  · have h5 := Array.all_eq_true_iff_forall_mem.1 h1.1.1.2 e (Array.mem_toList_iff.1 h2)
    simp only [h3, Bool.not_true, Bool.false_or, decide_eq_true_eq] at h5
    exact ⟨e, Array.mem_toList_iff.1 h2, h3, h5, h4⟩

def Closed (ops : Array Oper) (S : Nat → Prop) : Prop := ∀ j oj, ops[j]? = some oj → S j → ∀ e ∈ oj.after, Region.binds .any e = true → S e.on
def Ready (ops : Array Oper) (S : Nat → Prop) (j : Nat) : Prop := ∀ oj, ops[j]? = some oj → ∀ e ∈ oj.after, Region.binds .any e = true → S e.on

theorem ops_lt {i j : Nat} {oj : Oper} (hj : ops[j]? = some oj) (h : i < j) : ∃ oi, ops[i]? = some oi :=
  ⟨_, Array.getElem?_eq_getElem (Nat.lt_trans h (Array.getElem?_eq_some_iff.1 hj).1)⟩

theorem ahead_lt (h : drawText P ops = true) (i : Nat) : ∀ j oj, ops[j]? = some oj → ahead (Region.before ops) i j = true → i < j := by
  intro j
  induction j using Nat.strongRecOn with
  | ind j ih =>
    intro oj hj ha
    obtain ⟨e, _, _, h3, h4⟩ := ahead_edge h hj ha
    rcases h4 with rfl | h4
    · exact h3
    · obtain ⟨oe, he⟩ := ops_lt hj h3
      exact Nat.lt_trans (ih e.on h3 oe he h4) h3

theorem closed_ahead (h : drawText P ops = true) {S : Nat → Prop} (hS : Closed ops S) (i : Nat) : ∀ j oj, ops[j]? = some oj → S j → ahead (Region.before ops) i j = true → S i := by
  intro j
  induction j using Nat.strongRecOn with
  | ind j ih =>
    intro oj hj hs ha
    obtain ⟨e, h1, h2, h3, h4⟩ := ahead_edge h hj ha
    have h5 := hS j oj hj hs e h1 h2
    rcases h4 with rfl | h4
    · exact h5
    · obtain ⟨oe, he⟩ := ops_lt hj h3
      exact ih e.on h3 oe he h5 h4

theorem ready_ahead (h : drawText P ops = true) {S : Nat → Prop} (hS : Closed ops S) {i j : Nat} {oj : Oper} (hj : ops[j]? = some oj) (hr : Ready ops S j) (ha : ahead (Region.before ops) i j = true) : S i := by
  obtain ⟨e, h1, h2, h3, h4⟩ := ahead_edge h hj ha
  have h5 := hr oj hj e h1 h2
  rcases h4 with rfl | h4
  · exact h5
  · obtain ⟨oe, he⟩ := ops_lt hj h3
    exact closed_ahead h hS i e.on oe he h5 h4

/-- Two operations of which neither is bound to come first. -/
theorem pair_free (h : drawText P ops = true) {i j : Nat} {oi oj : Oper} (hi : ops[i]? = some oi) (hj : ops[j]? = some oj) (hij : i < j) (hn : ahead (Region.before ops) i j ≠ true) :
    (∀ d, oi.dst = some d → d ∉ temps ops oj) ∧ (∀ d, oj.dst = some d → d ∉ temps ops oi) ∧ ¬ (cls P oi = .eff ∧ cls P oj = .eff) ∧ ¬ (cls P oi = .alloc ∧ cls P oj = .eff) ∧ ¬ (cls P oi = .eff ∧ cls P oj = .alloc) := by
  have h0 := text_pair h hi hj hij
  have hn' : ahead (Region.before ops) i j = false := by simpa using hn
  unfold drawPair at h0
  rw [hn', Bool.false_or] at h0
  simp only [Bool.and_eq_true] at h0
  obtain ⟨⟨⟨⟨h1, h2⟩, h3⟩, h4⟩, h5⟩ := h0
  refine ⟨fun d hd => ?_, fun d hd => ?_, fun ⟨a, b⟩ => ?_, fun ⟨a, b⟩ => ?_, fun ⟨a, b⟩ => ?_⟩
  · rw [hd] at h1; simpa using h1
  · rw [hd] at h2; simpa using h2
  · rw [a, b] at h3; simp at h3
  · rw [a, b] at h4; simp at h4
  · rw [a, b] at h5; simp at h5

theorem cop_defer {ev : Operand → Value} {o : Oper} {H H2 : Heap} {d : Deferred} (h : cop P ev o H = some (.defer d H2)) : ∃ c, o.op = .defer c := by
  have hn : ∀ {r : Res}, r.plain → r = .defer d H2 → False := fun h1 h2 => by
    subst h2
    rcases h1 with ⟨_, _, e⟩ | ⟨_, _, e⟩ <;> cases e
  unfold cop at h
  split at h
  all_goals first
    | (exact ⟨_, by assumption⟩)
    | skip
  all_goals exfalso
  all_goals repeat' (first
    | (cases h; done)
    | (exact hn (genC_plain h) rfl)
    | (exact hn (nfC_plain h) rfl)
    | (simp only [Option.map_eq_some_iff] at h; obtain ⟨z, _, e⟩ := h; cases e; done)
    | (unfold callC at h)
    | (unfold builtinC at h)
    | (unfold convC at h)
    | (dsimp only at h)
    | split at h)

/-- One operation, of which the operands alone are known. -/
theorem execOne_sound' (hP : okProg P = true) {cal : Cal} (hcal : CalSound P cal) {ρ : Rho} {o : Oper} {a : CAct} {a' : Act} {H H1 : Heap} {w : World} {r : Except Value CAct} (hG : GR P ρ) (hR : Rel ρ H w)
    (hev : ∀ x ∈ o.op.operands, VR ρ (a.eval x) (a'.eval x)) (hnd : ∀ c, o.op ≠ .defer c) (h : execOne P cal o a H = some (r, H1)) (next : Act → World → Prop) (Q : Exit → Act → World → Prop)
    (hok : ∀ a1, r = .ok a1 → ∀ ρ1 v v' w1, a1 = a.put o.dst v → Post ρ H w ρ1 H1 w1 → VR ρ1 v v' → next (a'.put o.dst v') w1)
    (herr : ∀ v, r = .error v → ∀ ρ1 v' w1, Post ρ H w ρ1 H1 w1 → VR ρ1 v v' → Q (.panic [{ v := v', recovered := false }]) a' w1) :
    o.wp P a' w next Q := by
  unfold Oper.wp
  unfold execOne at h
  split at h
  · rename_i v H2 hc
    injection h with h; injection h with h1 h2; subst h1 h2
    obtain ⟨v', w', ρ', e1, e2, e3⟩ := cop_sound hP hR hev hc
    rw [e1]
    exact hok _ rfl ρ' v v' w' rfl e2 e3
  · rename_i H2 hc
    injection h with h; injection h with h1 h2; subst h1 h2
    obtain ⟨w', ρ', e1, e2⟩ := cop_sound hP hR hev hc
    rw [e1]
    exact hok _ rfl ρ' undef undef w' rfl e2 (vr_undef ρ')
  · rename_i v H2 hc
    injection h with h; injection h with h1 h2; subst h1 h2
    obtain ⟨v', w', ρ', e1, e2, e3⟩ := cop_sound hP hR hev hc
    rw [e1]
    exact herr _ rfl ρ' v' w' e2 e3
  · rename_i d H2 hc
    obtain ⟨c, hc⟩ := cop_defer hc
    exact absurd hc (hnd c)
  · rename_i f args H2 hc
    obtain ⟨args', w', ρ', e1, e2, e3⟩ := cop_sound hP hR hev hc
    rw [e1]
    show Calls P f args' w' _
    split at h
    · rename_i v H3 hcl
      injection h with h; injection h with h1 h2; subst h1 h2
      refine (hcal f args H2 _ _ hcl ρ' w' args' (hG.mono e2.ext) e2.rel e3).mono fun e w2 h => ?_
      obtain ⟨ρ2, p1, v', rfl, p3⟩ := h
      exact hok _ rfl ρ2 v v' w2 rfl (e2.trans p1) p3
    · rename_i v H3 hcl
      injection h with h; injection h with h1 h2; subst h1 h2
      refine (hcal f args H2 _ _ hcl ρ' w' args' (hG.mono e2.ext) e2.rel e3).mono fun e w2 h => ?_
      obtain ⟨ρ2, p1, v', rfl, p3⟩ := h
      exact herr _ rfl ρ2 v' w2 (e2.trans p1) p3
    · cases h
  · cases h

end Go.Can

namespace Go.Can
open Go
variable {P : Program} {ops : Array Oper} {cal : Cal}

structure Canon (P : Program) (cal : Cal) (ops : Array Oper) (T : Nat → CAct × Heap) (m : Nat) (x : X) (aE : CAct) (HE : Heap) : Prop where
  text : drawText P ops = true
  le : m ≤ ops.size
  step : ∀ i, i < m → StepOk P cal ops i (T i) (T (i + 1))
  fin : EndOk P cal ops m ops.size (T m) x aE HE
  flo : ∀ i k oi ok, ops[i]? = some oi → ops[k]? = some ok → cls P oi = .read → cls P ok = .eff → ahead (Region.before ops) i k ≠ true → ahead (Region.before ops) k i ≠ true → i ≤ m → k < m →
    wantedC ops (T i).1 oi = some true →
    sameRes (cop P (T i).1.eval oi (T i).2) (cop P (T i).1.eval oi (T k).2) = true ∧ sameRes (cop P (T i).1.eval oi (T i).2) (cop P (T i).1.eval oi (T (k + 1)).2) = true

theorem canon_of (ht : drawText P ops = true) {a : CAct} {H : Heap} {x : X} {aE : CAct} {HE : Heap} (h : execDraw P cal ops a H = some (x, aE, HE)) : ∃ T m, T 0 = (a, H) ∧ Canon P cal ops T m x aE HE := by
  unfold execDraw at h
  split at h
  · rename_i x1 a1 H1 tr he
    split at h
    · rename_i hf
      injection h with h; simp only [Prod.mk.injEq] at h
      obtain ⟨rfl, rfl, rfl⟩ := h
      rw [List.range_eq_range'] at he
      obtain ⟨l, e1, e2, e3, m, s, e4, e5, e6⟩ := execTr_spec _ 0 a H [] _ _ _ tr he
      simp only [List.append_nil] at e1
      simp only [Nat.zero_add] at e3 e6
      subst e1
      rw [List.reverse_reverse] at hf
      have hT : ∀ i, i ≤ m → l[i]? = some (l.getD i s) := fun i hi => by
        rw [List.getD_eq_getElem?_getD, List.getElem?_eq_getElem (by omega)]; rfl
      have hm : l.getD m s = s := by rw [List.getD_eq_getElem?_getD, e5]; rfl
      have hle : m ≤ ops.size := by
        rcases e6 with ⟨_, h, _⟩ | ⟨_, _, _, _, h, _⟩ <;> omega
      refine ⟨fun i => l.getD i s, m, by show l.getD 0 s = (a, H); rw [List.getD_eq_getElem?_getD, e2]; rfl, ⟨ht, hle, fun i hi => e3 i _ _ (hT i (by omega)) (hT (i + 1) (by omega)), by show EndOk P cal ops m ops.size (l.getD m s) _ _ _; rw [hm]; exact e6, ?_⟩⟩
      intro i k oi ok h1 h2 h3 h4 h5 h6 h7 h8 h9
      have hmem : (i, k) ∈ floats P ops := by
        unfold floats
        simp only [List.mem_flatMap, List.mem_range]
        refine ⟨i, (Array.getElem?_eq_some_iff.1 h1).1, ?_⟩
        simp only [h1, h3, if_true, List.mem_filterMap, List.mem_range]
        refine ⟨k, (Array.getElem?_eq_some_iff.1 h2).1, ?_⟩
        have h5' : ahead (Region.before ops) i k = false := by simpa using h5
        have h6' : ahead (Region.before ops) k i = false := by simpa using h6
        simp [h2, h4, h5', h6']
      have := List.all_eq_true.1 hf _ hmem
      unfold floatOk at this
      simp only [h1, hT i h7, hT k (by omega), hT (k + 1) (by omega)] at this
      rw [if_pos h9] at this
      simpa only [Bool.and_eq_true] using this
    · cases h
  · cases h

theorem put_get (a : CAct) (d : Option Tmp) (v : Value) (t : Tmp) : (a.put d v).get t = if d = some t then v else a.get t := by
  cases d with
  | none => simp [CAct.put]
  | some d =>
    simp only [CAct.put, CAct.get, Tr.get_set, Option.some.injEq]
    by_cases e : t = d
    · subst e; simp
    · rw [if_neg e, if_neg (fun h => e h.symm)]

theorem execOne_put {o : Oper} {a a1 : CAct} {H H1 : Heap} (hnd : ∀ c, o.op ≠ .defer c) (h : execOne P cal o a H = some (.ok a1, H1)) : ∃ v, a1 = a.put o.dst v := by
  unfold execOne at h
  split at h
  · injection h with h; injection h with h1 h2; injection h1 with h1; exact ⟨_, h1.symm⟩
  · injection h with h; injection h with h1 h2; injection h1 with h1; exact ⟨_, h1.symm⟩
  · injection h with h; injection h with h1 h2; cases h1
  · rename_i hc; obtain ⟨c, hc⟩ := cop_defer hc; exact absurd hc (hnd c)
  · split at h
    · injection h with h; injection h with h1 h2; injection h1 with h1; exact ⟨_, h1.symm⟩
    · injection h with h; injection h with h1 h2; cases h1
    · cases h
  · cases h

variable {T : Nat → CAct × Heap} {m : Nat} {x : X} {aE : CAct} {HE : Heap}

theorem Canon.nodefer (C : Canon P cal ops T m x aE HE) {i : Nat} {o : Oper} (ho : ops[i]? = some o) : ∀ c, o.op ≠ .defer c := by
  intro c hc
  have := text_at C.text ho
  simp [drawAt, hc] at this

theorem Canon.noselect (C : Canon P cal ops T m x aE HE) {i : Nat} {o : Oper} (ho : ops[i]? = some o) : ∀ c b, o.op ≠ .select c b := by
  intro c b hc
  have := text_at C.text ho
  simp [drawAt, hc] at this

theorem Canon.put (C : Canon P cal ops T m x aE HE) {i : Nat} (hi : i < m) {o : Oper} (ho : ops[i]? = some o) : ∃ v, (T (i + 1)).1 = (T i).1.put o.dst v := by
  obtain ⟨o', h1, h2⟩ := C.step i hi
  rw [ho] at h1; injection h1 with h1; subst h1
  rcases h2 with ⟨_, h2⟩ | ⟨_, h2⟩
  · exact execOne_put (C.nodefer ho) h2
  · exact ⟨undef, by rw [h2]⟩

theorem Canon.const (C : Canon P cal ops T m x aE HE) {t : Tmp} {j : Nat} : ∀ k, j ≤ k → k ≤ m → (∀ i o, j ≤ i → i < k → ops[i]? = some o → o.dst ≠ some t) → (T k).1.get t = (T j).1.get t := by
  intro k
  induction k with
  | zero => intro h1 _ _; obtain rfl : j = 0 := by omega
            rfl
  | succ k ih =>
    intro h1 h2 h3
    rcases Nat.lt_or_ge j (k + 1) with h | h
    · obtain ⟨o, ho⟩ : ∃ o, ops[k]? = some o := ⟨_, Array.getElem?_eq_getElem (by have := C.le; omega)⟩
      obtain ⟨v, hv⟩ := C.put (show k < m by omega) ho
      rw [hv, put_get, if_neg (h3 k o (by omega) (by omega) ho)]
      exact ih (by omega) (by omega) (fun i o a b => h3 i o a (by omega))
    · obtain rfl : j = k + 1 := by omega
      rfl

theorem Canon.defers (C : Canon P cal ops T m x aE HE) : ∀ k, k ≤ m → (T k).1.defers = (T 0).1.defers := by
  intro k
  induction k with
  | zero => intro _; rfl
  | succ k ih =>
    intro h
    obtain ⟨o, ho⟩ : ∃ o, ops[k]? = some o := ⟨_, Array.getElem?_eq_getElem (by have := C.le; omega)⟩
    obtain ⟨v, hv⟩ := C.put (show k < m by omega) ho
    rw [hv, ← ih (by omega)]
    cases o.dst <;> rfl

theorem Canon.plain (C : Canon P cal ops T m x aE HE) {i : Nat} (hi : i < m) {o : Oper} (ho : ops[i]? = some o) (hc : cls P o ≠ .eff) (hw : wantedC ops (T i).1 o = some true) :
    ∃ v, cop P (T i).1.eval o (T i).2 = some (.val v (T (i + 1)).2) ∧ (T (i + 1)).1 = (T i).1.put o.dst v := by
  obtain ⟨o', h1, h2⟩ := C.step i hi
  rw [ho] at h1; injection h1 with h1; subst h1
  rcases h2 with ⟨_, h2⟩ | ⟨h2, _⟩
  · unfold execOne at h2
    cases hq : cop P (T i).1.eval o (T i).2 with
    | none => rw [hq] at h2; cases h2
    | some r =>
      rw [hq] at h2
      rcases cop_plain hc hq with ⟨v, H, rfl⟩ | ⟨v, H, rfl⟩
      · simp only [Option.some.injEq, Prod.mk.injEq, Except.ok.injEq] at h2
        exact ⟨v, by rw [h2.2], h2.1.symm⟩
      · simp only [Option.some.injEq, Prod.mk.injEq, reduceCtorEq, false_and] at h2
  · rw [hw] at h2; cases h2

theorem Canon.unwanted (C : Canon P cal ops T m x aE HE) {i : Nat} (hi : i < m) {o : Oper} (ho : ops[i]? = some o) (hw : wantedC ops (T i).1 o = some false) : T (i + 1) = ((T i).1.put o.dst undef, (T i).2) := by
  obtain ⟨o', h1, h2⟩ := C.step i hi
  rw [ho] at h1; injection h1 with h1; subst h1
  rcases h2 with ⟨h2, _⟩ | ⟨_, h2⟩
  · rw [hw] at h2; cases h2
  · exact h2

theorem Canon.wanted (C : Canon P cal ops T m x aE HE) {i : Nat} (hi : i < m) {o : Oper} (ho : ops[i]? = some o) : wantedC ops (T i).1 o = some true ∨ wantedC ops (T i).1 o = some false := by
  obtain ⟨o', h1, h2⟩ := C.step i hi
  rw [ho] at h1; injection h1 with h1; subst h1
  exact h2.imp (·.1) (·.1)

theorem Canon.heap (C : Canon P cal ops T m x aE HE) {i : Nat} (hi : i < m) {o : Oper} (ho : ops[i]? = some o) (hc : cls P o ≠ .eff) :
    (T (i + 1)).2 = (T i).2 ∨ (cls P o = .alloc ∧ ∃ ob : NewO, (T (i + 1)).2 = ob.to (T i).2) := by
  rcases C.wanted hi ho with hw | hw
  · obtain ⟨v, h1, _⟩ := C.plain hi ho hc hw
    cases hq : cls P o with
    | eff => exact absurd hq hc
    | pure => have := (cop_pure hq h1 (T i).2).2; simp only [Res.on, Res.val.injEq, true_and] at this; exact .inl this.symm
    | read => have := (cop_read (Hx.refl _) hq h1).2; simp only [Res.on, Res.val.injEq, true_and] at this; exact .inl this.symm
    | alloc =>
      rcases cop_alloc hq h1 with ⟨_, h2⟩ | ⟨mk, ob, _, h2, _⟩
      · simp only [Res.on, Res.val.injEq, true_and] at h2; exact .inl h2.symm
      · simp only [Res.val.injEq] at h2; exact .inr ⟨rfl, ob, h2.2⟩
  · exact .inl (by rw [C.unwanted hi ho hw])

theorem Canon.seg (C : Canon P cal ops T m x aE HE) {b : Nat} (hwf : HWf (T b).2) : ∀ j, b ≤ j → j ≤ m → (∀ i o, b ≤ i → i < j → ops[i]? = some o → cls P o ≠ .eff) →
    HWf (T j).2 ∧ ∀ i, b ≤ i → i ≤ j → Hx (T i).2 (T j).2 ∧ (T i).2.next ≤ (T j).2.next := by
  intro j
  induction j with
  | zero => intro h1 _ _; obtain rfl : b = 0 := by omega
            exact ⟨hwf, fun i _ hi => by obtain rfl : i = 0 := by omega
                                         exact ⟨Hx.refl _, Nat.le_refl _⟩⟩
  | succ j ih =>
    intro h1 h2 h3
    rcases Nat.lt_or_ge b (j + 1) with h | h
    · obtain ⟨g1, g2⟩ := ih (by omega) (by omega) (fun i o a b => h3 i o a (by omega))
      obtain ⟨o, ho⟩ : ∃ o, ops[j]? = some o := ⟨_, Array.getElem?_eq_getElem (by have := C.le; omega)⟩
      have hstep : HWf (T (j + 1)).2 ∧ Hx (T j).2 (T (j + 1)).2 ∧ (T j).2.next ≤ (T (j + 1)).2.next := by
        rcases C.heap (show j < m by omega) ho (h3 j o (by omega) (by omega) ho) with e | ⟨_, ob, e⟩
        · rw [e]; exact ⟨g1, Hx.refl _, Nat.le_refl _⟩
        · rw [e]; exact ⟨g1.newO ob, hx_newO g1 ob, by rw [NewO.next]; exact Nat.le_succ _⟩
      refine ⟨hstep.1, fun i hi1 hi2 => ?_⟩
      rcases Nat.lt_or_ge i (j + 1) with h | h
      · obtain ⟨k1, k2⟩ := g2 i hi1 (by omega)
        exact ⟨k1.trans hstep.2.1, Nat.le_trans k2 hstep.2.2⟩
      · obtain rfl : i = j + 1 := by omega
        exact ⟨Hx.refl _, Nat.le_refl _⟩
    · obtain rfl : b = j + 1 := by omega
      exact ⟨hwf, fun i _ hi => by obtain rfl : i = j + 1 := by omega
                                   exact ⟨Hx.refl _, Nat.le_refl _⟩⟩

theorem Canon.advance (C : Canon P cal ops T m x aE HE) {ρ0 ρ : Rho} {H0 : Heap} {w0 w : World} {i : Nat} (hp : Post ρ0 H0 w0 ρ (T i).2 w) : ∀ j, i ≤ j → j ≤ m → (∀ k o, i ≤ k → k < j → ops[k]? = some o → cls P o ≠ .eff) →
    Post ρ0 H0 w0 ρ (T j).2 w := by
  intro j
  induction j with
  | zero => intro h1 _ _; obtain rfl : i = 0 := by omega
            exact hp
  | succ j ih =>
    intro h1 h2 h3
    rcases Nat.lt_or_ge i (j + 1) with h | h
    · have g := ih (by omega) (by omega) (fun k o a b => h3 k o a (by omega))
      obtain ⟨o, ho⟩ : ∃ o, ops[j]? = some o := ⟨_, Array.getElem?_eq_getElem (by have := C.le; omega)⟩
      rcases C.heap (show j < m by omega) ho (h3 j o (by omega) (by omega) ho) with e | ⟨_, ob, e⟩
      · rw [e]; exact g
      · rw [e]; exact g.newO ob
    · obtain rfl : i = j + 1 := by omega
      exact hp

end Go.Can

namespace Go.Can
open Go
variable {P : Program} {ops : Array Oper} {cal : Cal} {T : Nat → CAct × Heap} {m : Nat} {x : X} {aE : CAct} {HE : Heap}

structure Inv (P : Program) (ops : Array Oper) (T : Nat → CAct × Heap) (m nt : Nat) (ρ0 : Rho) (H0 : Heap) (w0 : World) (S : Nat → Prop) (a' : Act) (w' : World) (h b : Nat) (ρ : Rho) : Prop where
  closed : Closed ops S
  hm : h ≤ m
  bh : b ≤ h
  before_ : ∀ i o, i < h → ops[i]? = some o → cls P o = .eff → S i
  stop : h = ops.size ∨ ∃ o, ops[h]? = some o ∧ cls P o = .eff
  behind : ∀ i o, h ≤ i → ops[i]? = some o → cls P o = .eff → ¬ S i
  seg : ∀ i o, b ≤ i → i < h → ops[i]? = some o → cls P o ≠ .eff
  wf : HWf (T b).2
  base : b = 0 ∨ (0 < b ∧ ∃ o, ops[b - 1]? = some o ∧ cls P o = .eff)
  lo : H0.next ≤ (T b).2.next
  post : Post ρ0 H0 w0 ρ (T h).2 w'
  tmps : ∀ t k, k ≤ m → (∀ i o, ops[i]? = some o → o.dst = some t → (S i ↔ i < k)) → VR ρ ((T k).1.get t) (a'.tmps.getD t undef)
  size : nt ≤ a'.tmps.size
  defers : DsRel ρ0 (T 0).1.defers a'.defers
  unborn : ∀ i o, i < h → ops[i]? = some o → cls P o = .alloc → ¬ S i → (T i).2.next < (T (i + 1)).2.next → ρ (T i).2.next = none

theorem wantedC_sound' {ρ : Rho} {a : CAct} {a' : Act} {o : Oper} {b : Bool} (h : ∀ g want d, o.guard = some (g, want) → (ops[g]?).bind (·.dst) = some d → VR ρ (a.get d) (a'.tmps.getD d undef))
    (hw : wantedC ops a o = some b) : Region.wanted o (yielded ops a'.tmps) = b := by
  unfold wantedC at hw
  unfold Region.wanted
  cases hg : o.guard with
  | none => simp only [hg, Option.some.injEq] at hw ⊢; exact hw
  | some gw =>
    obtain ⟨j, want⟩ := gw
    simp only [hg] at hw ⊢
    unfold yielded
    cases hd : (ops[j]?).bind (·.dst) with
    | none => simp only [hd, Option.some.injEq] at hw; subst hw; rfl
    | some d =>
      simp only [hd] at hw
      have hv := h j want d hg hd
      simp only [Option.bind_some]
      have hgd : ∀ v, a'.tmps.getD d undef = v → v ≠ undef → a'.tmps[d]? = some v := fun v hv hne => by
        rw [Array.getD_eq_getD_getElem?] at hv
        cases hq : a'.tmps[d]? with
        | none => rw [hq] at hv; exact absurd hv.symm hne
        | some u => rw [hq] at hv; simpa using hv
      generalize a.get d = x at hw hv
      generalize hy : a'.tmps.getD d undef = y at hv
      cases x with
      | bool c =>
        obtain rfl := hv.bool_inv
        rw [hgd _ hy (fun h => by cases h)]
        simp only [Option.some.injEq] at hw
        subst hw
        cases c <;> cases want <;> rfl
      | chan r => cases hw
      | _ =>
        simp only [Option.some.injEq] at hw; subst hw
        cases hq : a'.tmps[d]? with
        | none => rfl
        | some u =>
          have : y = u := by rw [← hy, Array.getD_eq_getD_getElem?, hq]; rfl
          subst this
          cases hv <;> rfl

theorem Canon.atEnd (C : Canon P cal ops T m x aE HE) : m = ops.size ∨ ∃ o, ops[m]? = some o ∧ cls P o = .eff := by
  rcases C.fin with ⟨_, h, _⟩ | ⟨_, o, _, h, _, _, _, _, h2, _⟩
  · exact .inl h
  · exact .inr ⟨o, h, h2⟩

theorem Canon.nextStop (C : Canon P cal ops T m x aE HE) : ∀ d k, k + d = m → ∃ h, k ≤ h ∧ h ≤ m ∧ (∀ i o, k ≤ i → i < h → ops[i]? = some o → cls P o ≠ .eff) ∧ (h = ops.size ∨ ∃ o, ops[h]? = some o ∧ cls P o = .eff) := by
  intro d
  induction d with
  | zero => intro k hk; exact ⟨m, by omega, Nat.le_refl _, fun i o a b => by omega, C.atEnd⟩
  | succ d ih =>
    intro k hk
    obtain ⟨o, ho⟩ : ∃ o, ops[k]? = some o := ⟨_, Array.getElem?_eq_getElem (by have := C.le; omega)⟩
    by_cases hc : cls P o = .eff
    · exact ⟨k, Nat.le_refl _, by omega, fun i o a b => by omega, .inr ⟨o, ho, hc⟩⟩
    · obtain ⟨h, h1, h2, h3, h4⟩ := ih (k + 1) (by omega)
      refine ⟨h, by omega, h2, fun i o' a b e => ?_, h4⟩
      rcases Nat.lt_or_ge k i with h | h
      · exact h3 i o' h b e
      · obtain rfl : i = k := by omega
        rw [ho] at e; injection e with e; subst e; exact hc

theorem evalR {ρ : Rho} {a : CAct} {a' : Act} (hG : GR P ρ) {y : Operand} (hy : okOperand P y = true) (ht : ∀ t, y = .tmp t → VR ρ (a.get t) (a'.tmps.getD t undef)) : VR ρ (a.eval y) (a'.eval y) := by
  cases y with
  | tmp t => exact ht t rfl
  | const v => exact VR.of_flat ρ v hy
  | global g =>
    obtain ⟨rb, h1, h2, h3⟩ := hG g (by simpa [okOperand] using hy)
    have := VR.ptr 0 h1
    rw [h2, h3] at this
    exact this
  | func f => exact VR.of_flat ρ _ rfl

theorem put_size (a' : Act) (d : Option Tmp) (v : Value) : (a'.put d v).tmps.size = a'.tmps.size := by cases d <;> simp [Act.put]
theorem put_defers (a' : Act) (d : Option Tmp) (v : Value) : (a'.put d v).defers = a'.defers := by cases d <;> rfl
theorem put_getD (a' : Act) (d : Option Tmp) (v : Value) (t : Tmp) (ht : ∀ t, d = some t → t < a'.tmps.size) : (a'.put d v).tmps.getD t undef = if d = some t then v else a'.tmps.getD t undef := by
  cases d with
  | none => simp [Act.put]
  | some d =>
    have hlt : @LT.lt Nat _ d a'.tmps.size := ht d rfl
    simp only [Act.put, Array.getD_eq_getD_getElem?, Array.getElem?_setIfInBounds, Option.some.injEq]
    by_cases e : d = t
    · subst e; rw [if_pos rfl, if_pos rfl, if_pos hlt]; rfl
    · rw [if_neg e, if_neg e]

theorem inv_step (hP : okProg P = true) (hcal : CalSound P cal) (C : Canon P cal ops T m x aE HE) {nt : Nat} (hops : ops.all (okOper P nt) = true) {ρ0 : Rho} {H0 : Heap} {w0 : World} (hG : GR P ρ0)
    {S : Nat → Prop} {a' : Act} {w' : World} {h b : Nat} {ρ : Rho} (I : Inv P ops T m nt ρ0 H0 w0 S a' w' h b ρ) {j : Nat} {o : Oper} (ho : ops[j]? = some o) (hS : ¬ S j) (hr : Ready ops S j)
    (K : Act → World → Prop) (hK : ∀ a2 w2 h2 b2 ρ2, Inv P ops T m nt ρ0 H0 w0 (fun i => S i ∨ i = j) a2 w2 h2 b2 ρ2 → K a2 w2) :
    wpOp P ops (fun e a w => QR ρ0 H0 w0 nt (x, aE, HE) e a w) j K a' w' := by
  have hGρ := hG.mono I.post.ext
  have hlt : j < ops.size := (Array.getElem?_eq_some_iff.1 ho).1
  obtain ⟨hdst, hopd⟩ := okOper_dst (Array.all_eq_true_iff_forall_mem.1 hops o (Array.mem_of_getElem? ho))
  have ah : ∀ i, ahead (Region.before ops) i j = true → S i := fun i ha => ready_ahead C.text I.closed ho hr ha
  have later : ∀ i oi, ops[i]? = some oi → ahead (Region.before ops) j i = true → ¬ S i := fun i oi hi ha hs => hS (closed_ahead C.text I.closed j i oi hi hs ha)
  have jm : j ≤ m := by
    rcases C.fin with ⟨_, h1, _⟩ | ⟨_, om, _, h1, h2, _, _, _, h3, h4, _⟩
    · omega
    · rcases Nat.lt_or_ge m j with h5 | h5
      · exact absurd (ah m (h4 j h5 hlt)) (I.behind m om I.hm h1 h3)
      · exact h5
  have cut : ∀ t ∈ temps ops o, ∀ i oi, ops[i]? = some oi → oi.dst = some t → (S i ↔ i < j) := by
    intro t ht i oi hi hd
    rcases Nat.lt_trichotomy i j with h1 | h1 | h1
    · refine ⟨fun _ => h1, fun _ => ?_⟩
      by_cases ha : ahead (Region.before ops) i j = true
      · exact ah i ha
      · exact absurd ht ((pair_free C.text hi ho h1 ha).1 t hd)
    · subst h1; exact ⟨fun h => absurd h hS, fun h => absurd h (Nat.lt_irrefl _)⟩
    · refine ⟨fun hs => ?_, fun h => by omega⟩
      by_cases ha : ahead (Region.before ops) j i = true
      · exact absurd hs (later i oi hi ha)
      · exact absurd ht ((pair_free C.text ho hi h1 ha).2.1 t hd)
  have hev : ∀ y ∈ o.op.operands, VR ρ ((T j).1.eval y) (a'.eval y) := fun y hy => evalR hGρ (hopd y hy) fun t ht => by
    subst ht
    refine I.tmps t j jm (cut t ?_)
    simp only [temps, List.mem_append, List.mem_filterMap]
    exact .inl (.inr ⟨.tmp t, by simpa using hy, rfl⟩)
  have hwn : ∀ c, wantedC ops (T j).1 o = some c → Region.wanted o (yielded ops a'.tmps) = c := fun c hc => wantedC_sound' (fun g want d hg hd => by
    refine I.tmps d j jm (cut d ?_)
    simp only [temps, List.mem_append]
    right; rw [hg]; simp [hd]) hc
  have closed' : Closed ops (fun i => S i ∨ i = j) := by
    intro i oi hi hs e he hb
    rcases hs with hs | rfl
    · exact .inl (I.closed i oi hi hs e he hb)
    · exact .inl (hr oi hi e he hb)
  have put : ∀ (v v' : Value) (ρ2 : Rho), Ext ρ ρ2 → j < m → (T (j + 1)).1 = (T j).1.put o.dst v → VR ρ2 v v' →
      ∀ t k, k ≤ m → (∀ i oi, ops[i]? = some oi → oi.dst = some t → ((S i ∨ i = j) ↔ i < k)) → VR ρ2 ((T k).1.get t) ((a'.put o.dst v').tmps.getD t undef) := by
    intro v v' ρ2 he hjm hput hv t k hk hc
    rw [put_getD a' o.dst v' t (fun t ht => Nat.lt_of_lt_of_le (hdst t ht) I.size)]
    by_cases hd : o.dst = some t
    · rw [if_pos hd]
      have hjk : j < k := (hc j o ho hd).1 (.inr rfl)
      rw [C.const (j := j + 1) k hjk hk fun i oi h1 h2 hi hdi => ?_, hput, put_get, if_pos hd]
      · exact hv
      · rcases (hc i oi hi hdi).2 h2 with hs | rfl
        · by_cases ha : ahead (Region.before ops) j i = true
          · exact later i oi hi ha hs
          · refine (pair_free C.text ho hi (by omega) ha).1 t hd ?_
            simp [temps, hdi]
        · omega
    · rw [if_neg hd]
      refine (I.tmps t k hk fun i oi hi hdi => ?_).mono he
      rw [← hc i oi hi hdi]
      exact ⟨.inl, fun h => h.elim id fun e => by subst e; rw [ho] at hi; injection hi with hi; subst hi; exact absurd hdi hd⟩
  have allocb : ∀ i oi, i < h → ops[i]? = some oi → cls P oi = .alloc → ¬ S i → b ≤ i := by
    intro i oi hi hoi hc hs
    rcases Nat.lt_or_ge i b with h1 | h1
    · rcases I.base with h2 | ⟨h2, oe, h3, h4⟩
      · omega
      · have hse : S (b - 1) := I.before_ (b - 1) oe (by have := I.bh; omega) h3 h4
        have hne : i ≠ b - 1 := fun e => by subst e; rw [hoi] at h3; injection h3 with h3; subst h3; rw [hc] at h4; cases h4
        exfalso
        by_cases ha : ahead (Region.before ops) i (b - 1) = true
        · exact hs (closed_ahead C.text I.closed i (b - 1) oe h3 hse ha)
        · exact (pair_free C.text hoi h3 (by omega) ha).2.2.2.1 ⟨hc, h4⟩
    · exact h1
  have sg := C.seg I.wf
  by_cases hjh : j = h
  · -- the first effect that is still to come
    subst hjh
    have heff : cls P o = .eff := by
      rcases I.stop with h1 | ⟨o', h1, h2⟩
      · omega
      · rw [ho] at h1; injection h1 with h1; subst h1; exact h2
    by_cases hjm : j = m
    · subst hjm
      rcases C.fin with ⟨_, h1, _⟩ | ⟨v, om, rfl, h1, h2, h3, h4, rfl, h5, h6, h7⟩
      · omega
      · rw [ho] at h1; injection h1 with h1; subst h1
        unfold wpOp
        simp only [ho]
        rw [if_pos (hwn true h3)]
        refine .inl (execOne_sound' hP hcal hGρ I.post.rel hev (C.nodefer ho) h4 _ _ (fun a1 e => by cases e) fun v1 e ρ1 v' w1 p1 p2 => ?_)
        injection e with e; subst e
        refine ⟨ρ1, I.post.trans p1, ⟨fun t => (I.tmps t j jm fun i oi hi hd => ?_).mono p1.ext, I.size, ?_⟩, v', rfl, p2⟩
        · rcases Nat.lt_trichotomy i j with g | g | g
          · exact ⟨fun _ => g, fun _ => ah i (h7 i g)⟩
          · subst g; exact ⟨fun h => absurd h hS, fun h => absurd h (Nat.lt_irrefl _)⟩
          · exact ⟨fun hs => absurd hs (later i oi hi (h6 i g (Array.getElem?_eq_some_iff.1 hi).1)), fun h => by omega⟩
        · rw [C.defers j (Nat.le_refl _)]; exact I.defers.mono (I.post.ext.trans p1.ext)
    · have hlm : j < m := by omega
      obtain ⟨h', g1, g2, g3, g4⟩ := C.nextStop (m - (j + 1)) (j + 1) (by omega)
      have fin : ∀ (v v' : Value) (ρ2 : Rho) (w2 : World), Post ρ0 H0 w0 ρ2 (T (j + 1)).2 w2 → Ext ρ ρ2 → (T (j + 1)).1 = (T j).1.put o.dst v → VR ρ2 v v' →
          Inv P ops T m nt ρ0 H0 w0 (fun i => S i ∨ i = j) (a'.put o.dst v') w2 h' (j + 1) ρ2 := by
        intro v v' ρ2 w2 hp he hput hv
        have sg2 := C.seg (b := j + 1) hp.rel.wf
        refine ⟨closed', g2, g1, fun i oi h1 h2 h3 => ?_, g4, fun i oi h1 h2 h3 hs => ?_, g3, hp.rel.wf, .inr ⟨Nat.succ_pos _, o, by simpa using ho, heff⟩, hp.next, C.advance hp h' g1 g2 g3,
          put v v' ρ2 he hlm hput hv, by rw [put_size]; exact I.size, by rw [put_defers]; exact I.defers, fun i oi h1 h2 h3 h4 h5 => ?_⟩
        · rcases Nat.lt_trichotomy i j with g | g | g
          · exact .inl (I.before_ i oi g h2 h3)
          · exact .inr g
          · exact absurd h3 (g3 i oi g h1 h2)
        · rcases hs with hs | rfl
          · exact I.behind i oi (by omega) h2 h3 hs
          · omega
        · rcases Nat.lt_trichotomy i j with g | g | g
          · exfalso
            by_cases ha : ahead (Region.before ops) i j = true
            · exact h4 (.inl (ah i ha))
            · exact (pair_free C.text h2 ho g ha).2.2.2.1 ⟨h3, heff⟩
          · exact absurd (.inr g) h4
          · cases hq : ρ2 (T i).2.next with
            | none => rfl
            | some rb =>
              have := (hp.rel.lt _ _ hq).1
              have := ((sg2 i g (by omega) (fun k ok a b => g3 k ok a (by omega))).2 (j + 1) (Nat.le_refl _) g).2
              omega
      unfold wpOp
      simp only [ho]
      obtain ⟨o', h1, h2⟩ := C.step j hlm
      rw [ho] at h1; injection h1 with h1; subst h1
      rcases h2 with ⟨hw, h2⟩ | ⟨hw, h2⟩
      · rw [if_pos (hwn true hw)]
        refine .inl (execOne_sound' hP hcal hGρ I.post.rel hev (C.nodefer ho) h2 _ _ (fun a1 e ρ1 v v' w1 e2 p1 p2 => ?_) fun v1 e => by cases e)
        injection e with e; subst e
        exact hK _ _ _ _ _ (fin v v' ρ1 w1 (I.post.trans p1) p1.ext e2 p2)
      · rw [if_neg (by rw [hwn false hw]; exact Bool.false_ne_true)]
        exact hK _ _ _ _ _ (fin undef undef ρ w' (by rw [h2]; exact I.post) (Ext.refl _) (by rw [h2]) (vr_undef ρ))
  · -- no effect
    have hne : cls P o ≠ .eff := fun hc => by
      rcases Nat.lt_or_ge j h with h1 | h1
      · exact hS (I.before_ j o h1 ho hc)
      · rcases I.stop with h2 | ⟨oh, h2, h3⟩
        · omega
        · by_cases ha : ahead (Region.before ops) h j = true
          · exact I.behind h oh (Nat.le_refl _) h2 h3 (ah h ha)
          · exact (pair_free C.text h2 ho (by omega) ha).2.2.1 ⟨h3, hc⟩
    have hlm : j < m := by
      rcases Nat.lt_or_ge j m with h1 | h1
      · exact h1
      · obtain rfl : j = m := by omega
        rcases C.atEnd with h2 | ⟨om, h2, h3⟩
        · omega
        · rw [ho] at h2; injection h2 with h2; subst h2; exact absurd h3 hne
    have fin : ∀ (v v' : Value) (ρ2 : Rho) (w2 : World), Post ρ0 H0 w0 ρ2 (T h).2 w2 → Ext ρ ρ2 → (T (j + 1)).1 = (T j).1.put o.dst v → VR ρ2 v v' →
        (∀ i oi, i < h → ops[i]? = some oi → cls P oi = .alloc → ¬ (S i ∨ i = j) → (T i).2.next < (T (i + 1)).2.next → ρ2 (T i).2.next = none) →
        Inv P ops T m nt ρ0 H0 w0 (fun i => S i ∨ i = j) (a'.put o.dst v') w2 h b ρ2 := by
      intro v v' ρ2 w2 hp he hput hv hu
      refine ⟨closed', I.hm, I.bh, fun i oi h1 h2 h3 => .inl (I.before_ i oi h1 h2 h3), I.stop, fun i oi h1 h2 h3 hs => ?_, I.seg, I.wf, I.base, I.lo, hp,
        put v v' ρ2 he hlm hput hv, by rw [put_size]; exact I.size, by rw [put_defers]; exact I.defers, hu⟩
      rcases hs with hs | rfl
      · exact I.behind i oi h1 h2 h3 hs
      · rw [ho] at h2; injection h2 with h2; subst h2; exact hne h3
    unfold wpOp
    simp only [ho]
    rcases C.wanted hlm ho with hw | hw
    · rw [if_pos (hwn true hw)]
      left
      obtain ⟨v, hcop, hput⟩ := C.plain hlm ho hne hw
      have same : cop P (T j).1.eval o (T h).2 = some (.val v (T h).2) → o.wp P a' w' K (fun e a w => QR ρ0 H0 w0 nt (x, aE, HE) e a w) := by
        intro hres
        obtain ⟨v1, w1, ρ1, e1, p1, q1⟩ := cop_sound hP I.post.rel hev hres
        unfold Oper.wp
        rw [e1]
        refine hK _ _ _ _ _ (fin v v1 ρ1 w1 (I.post.trans p1) p1.ext hput q1 fun i oi h1 h2 h3 h4 h5 => ?_)
        have hs : ¬ S i := fun hs => h4 (.inl hs)
        have hn := I.unborn i oi h1 h2 h3 hs h5
        cases hq : ρ1 (T i).2.next with
        | none => rfl
        | some rb =>
          have g1 := (p1.new _ rb hq hn).1
          have hb := allocb i oi h1 h2 h3 hs
          have g2 := ((sg h I.bh I.hm I.seg).2 (i + 1) (by omega) (by omega)).2
          omega
      cases hq : cls P o with
      | eff => exact absurd hq hne
      | pure => exact same (cop_pure hq hcop (T h).2).1
      | read =>
        have hcop' : cop P (T j).1.eval o (T j).2 = some (.val v (T j).2) := by
          have := (cop_read (Hx.refl _) hq hcop)
          have h2 := this.2; simp only [Res.on, Res.val.injEq, true_and] at h2
          rw [hcop, h2]
        rcases Nat.lt_or_ge j h with h1 | h1
        · rcases Nat.lt_or_ge j b with h2 | h2
          · rcases I.base with h3 | ⟨h3, oe, h4, h5⟩
            · omega
            · have hse : S (b - 1) := I.before_ (b - 1) oe (by have := I.bh; omega) h4 h5
              have hne' : j ≠ b - 1 := fun e => by subst e; rw [ho] at h4; injection h4 with h4; subst h4; exact hne h5
              have f := C.flo j (b - 1) o oe ho h4 hq h5 (fun ha => hS (closed_ahead C.text I.closed j (b - 1) oe h4 hse ha)) (fun ha => by have := ahead_lt C.text (b - 1) j o ho ha; omega) jm
                (by have := I.bh; have := I.hm; omega) hw
              obtain ⟨Hq, hq2⟩ := sameRes_val f.2 hcop
              rw [show b - 1 + 1 = b by omega] at hq2
              exact same (cop_read ((sg h I.bh I.hm I.seg).2 b (Nat.le_refl _) I.bh).1 hq hq2).1
          · exact same (cop_read ((sg h I.bh I.hm I.seg).2 j h2 (by omega)).1 hq hcop).1
        · rcases I.stop with h2 | ⟨oh, h2, h3⟩
          · omega
          · have f := C.flo j h o oh ho h2 hq h3 (fun ha => by have := ahead_lt C.text j h oh h2 ha; omega) (fun ha => I.behind h oh (Nat.le_refl _) h2 h3 (ah h ha)) jm (by omega) hw
            obtain ⟨Hq, hq2⟩ := sameRes_val f.1 hcop
            exact same (cop_read (Hx.refl _) hq hq2).1
      | alloc =>
        have h1 : j < h := by
          rcases Nat.lt_or_ge j h with h1 | h1
          · exact h1
          · rcases I.stop with h2 | ⟨oh, h2, h3⟩
            · omega
            · exfalso
              by_cases ha : ahead (Region.before ops) h j = true
              · exact I.behind h oh (Nat.le_refl _) h2 h3 (ah h ha)
              · exact (pair_free C.text h2 ho (by omega) ha).2.2.2.2 ⟨h3, hq⟩
        have hb := allocb j o h1 ho hq hS
        rcases cop_alloc hq hcop with ⟨h2, _⟩ | ⟨mk, ob, hf, h2, h3⟩
        · exact same (h2 _)
        · simp only [Res.val.injEq] at h2
          obtain ⟨rfl, h4⟩ := h2
          obtain ⟨v1, w1, rb, e1, hm⟩ := alloc_sound hP I.post.rel hev hf h3
          have hgrow : (T j).2.next < (T (j + 1)).2.next := by rw [h4, NewO.next]; exact Nat.lt_succ_self _
          have hn := I.unborn j o h1 ho hq hS hgrow
          have hat : ob.at_ (T h).2 (T j).2.next := NewO.at_hx ((sg h I.bh I.hm I.seg).2 (j + 1) (by omega) (by omega)).1 (by rw [h4]; exact ob.at_to _)
          have hlo : H0.next ≤ (T j).2.next := Nat.le_trans I.lo ((sg j hb jm (fun k ok a b => I.seg k ok a (by omega))).2 b (Nat.le_refl _) hb).2
          unfold Oper.wp
          rw [e1]
          refine hK _ _ _ _ _ (fin _ v1 (ρ.add (T j).2.next rb) w1 (I.post.born hm hlo hn hat) (Rho.add_ext rb hn) hput (hm.val _ _ (Rho.add_same _ _ _)) fun i oi k1 k2 k3 k4 k5 => ?_)
          have hs : ¬ S i := fun hs => k4 (.inl hs)
          have hbi := allocb i oi k1 k2 k3 hs
          have hij : i ≠ j := fun e => k4 (.inr e)
          rw [Rho.add_ne ρ rb (show (T i).2.next ≠ (T j).2.next from ?_)]
          · exact I.unborn i oi k1 k2 k3 hs k5
          · rcases Nat.lt_or_ge i j with g | g
            · have := ((sg j hb jm (fun k ok a b => I.seg k ok a (by omega))).2 (i + 1) (by omega) (by omega)).2
              omega
            · have := ((sg i hbi (by have := I.hm; omega) (fun k ok a b => I.seg k ok a (by omega))).2 (j + 1) (by omega) (by omega)).2
              omega
    · rw [if_neg (by rw [hwn false hw]; exact Bool.false_ne_true)]
      have h2 := C.unwanted hlm ho hw
      exact hK _ _ _ _ _ (fin undef undef ρ w' I.post (Ext.refl _) (by rw [h2]) (vr_undef ρ) fun i oi k1 k2 k3 k4 k5 => I.unborn i oi k1 k2 k3 (fun hs => k4 (.inl hs)) k5)

end Go.Can

namespace Go.Can
open Go
variable {P : Program} {ops : Array Oper} {cal : Cal} {T : Nat → CAct × Heap} {m : Nat} {x : X} {aE : CAct} {HE : Heap}

theorem binds_any {md : Region.Mode} {e : Edge} (h : Region.binds .any e = true) : Region.binds md e = true := by
  unfold Region.binds at h ⊢
  split at h <;> simp_all

theorem mem_ready {md : Region.Mode} {listed : Array Bool} {i : Nat} : i ∈ Region.ready md ops listed ↔ i < ops.size ∧ listed.getD i true = false ∧ ∃ o, ops[i]? = some o ∧ ∀ e ∈ o.after, Region.binds md e = true → listed.getD e.on false = true := by
  unfold Region.ready
  simp only [List.mem_filter, List.mem_range, Bool.and_eq_true, Bool.not_eq_true']
  refine ⟨fun ⟨h1, h2, h3⟩ => ⟨h1, h2, ops[i], Array.getElem?_eq_getElem h1, fun e he hb => ?_⟩, fun ⟨h1, h2, o, h3, h4⟩ => ⟨h1, h2, ?_⟩⟩
  · rw [Array.getElem?_eq_getElem h1] at h3
    simp only [Option.map_some, Option.getD_some] at h3
    have := Array.all_eq_true_iff_forall_mem.1 h3 e he
    simpa [hb] using this
  · rw [h3]
    simp only [Option.map_some, Option.getD_some]
    refine Array.all_eq_true_iff_forall_mem.2 fun e he => ?_
    cases hb : Region.binds md e with
    | false => rfl
    | true => simp [h4 e he hb]

def Lst (listed : Array Bool) : Nat → Prop := fun i => listed[i]? = some true

theorem all_listed {l : List Bool} (h : l.countP (fun b => !b) = 0) : ∀ i, i < l.length → l[i]? = some true := by
  intro i hi
  have := List.countP_eq_zero.1 h l[i] (List.getElem_mem hi)
  rw [List.getElem?_eq_getElem hi]
  simpa using this

/-- Where not all is listed something is ready. -/
theorem some_ready {md : Region.Mode} {rk : Nat → Nat} (hrk : ∀ i o, ops[i]? = some o → ∀ e ∈ o.after, Region.binds md e = true → e.on < ops.size ∧ rk e.on < rk i) {listed : Array Bool} (hs : listed.size = ops.size) :
    ∀ n i, rk i ≤ n → i < ops.size → ¬ Lst listed i → Region.ready md ops listed ≠ [] := by
  intro n
  induction n with
  | zero =>
    intro i hi hlt hl hn
    have : i ∈ Region.ready md ops listed := by
      refine mem_ready.2 ⟨hlt, ?_, ops[i], Array.getElem?_eq_getElem hlt, fun e he hb => ?_⟩
      · have hlt' : i < listed.size := by omega
        unfold Lst at hl
        rw [Array.getElem?_eq_getElem hlt'] at hl
        simp only [Option.some.injEq, Bool.not_eq_true] at hl
        rw [Array.getD_eq_getD_getElem?, Array.getElem?_eq_getElem hlt', hl]; rfl
      · have := (hrk i _ (Array.getElem?_eq_getElem hlt) e he hb).2; omega
    rw [hn] at this; cases this
  | succ n ih =>
    intro i hi hlt hl hn
    by_cases hx : ∃ e ∈ (ops[i]).after, Region.binds md e = true ∧ ¬ Lst listed e.on
    · obtain ⟨e, he, hb, hle⟩ := hx
      obtain ⟨h1, h2⟩ := hrk i _ (Array.getElem?_eq_getElem hlt) e he hb
      exact ih e.on (by omega) h1 hle hn
    · have : i ∈ Region.ready md ops listed := by
        refine mem_ready.2 ⟨hlt, ?_, ops[i], Array.getElem?_eq_getElem hlt, fun e he hb => ?_⟩
        · have hlt' : i < listed.size := by omega
          unfold Lst at hl
          rw [Array.getElem?_eq_getElem hlt'] at hl
          simp only [Option.some.injEq, Bool.not_eq_true] at hl
          rw [Array.getD_eq_getD_getElem?, Array.getElem?_eq_getElem hlt', hl]; rfl
        · have h1 : Lst listed e.on := Classical.byContradiction fun h => hx ⟨e, he, hb, h⟩
          unfold Lst at h1
          rw [Array.getD_eq_getD_getElem?, h1]; rfl
      rw [hn] at this; cases this

theorem Inv.congr {nt : Nat} {ρ0 : Rho} {H0 : Heap} {w0 : World} {S S' : Nat → Prop} {a' : Act} {w' : World} {h b : Nat} {ρ : Rho} (I : Inv P ops T m nt ρ0 H0 w0 S a' w' h b ρ) (hS : S = S') : Inv P ops T m nt ρ0 H0 w0 S' a' w' h b ρ := hS ▸ I

theorem draw_any (hP : okProg P = true) (hcal : CalSound P cal) (C : Canon P cal ops T m x aE HE) {nt : Nat} (hops : ops.all (okOper P nt) = true) {ρ0 : Rho} {H0 : Heap} {w0 : World} (hG : GR P ρ0) {md : Region.Mode} {rk : Nat → Nat}
    (hrk : ∀ i o, ops[i]? = some o → ∀ e ∈ o.after, Region.binds md e = true → e.on < ops.size ∧ rk e.on < rk i) : ∀ (fuel : Nat) (listed : Array Bool) (a' : Act) (w' : World) (h b : Nat) (ρ : Rho), listed.size = ops.size →
    listed.toList.countP (fun b => !b) = fuel → Inv P ops T m nt ρ0 H0 w0 (Lst listed) a' w' h b ρ → wpAny P md ops (fun e a w => QR ρ0 H0 w0 nt (x, aE, HE) e a w) fuel listed a' w' := by
  intro fuel
  induction fuel with
  | zero =>
    intro listed a' w' h b ρ hs hc I
    have hall : ∀ i, i < ops.size → Lst listed i := fun i hi => by
      have := all_listed hc i (by simpa [hs] using hi)
      simpa [Lst] using this
    have hn : Region.ready md ops listed = [] := by
      rw [List.eq_nil_iff_forall_not_mem]
      intro i hi
      obtain ⟨h1, h2, _⟩ := mem_ready.1 hi
      have := hall i h1
      unfold Lst at this
      rw [Array.getD_eq_getD_getElem?, this] at h2; cases h2
    refine ⟨hn, ?_⟩
    have hh : h = ops.size := by
      rcases I.stop with h1 | ⟨o, h1, h2⟩
      · exact h1
      · exact absurd (hall h (Array.getElem?_eq_some_iff.1 h1).1) (I.behind h o (Nat.le_refl _) h1 h2)
    have hm : m = ops.size := by have := I.hm; have := C.le; omega
    rcases C.fin with ⟨rfl, _, rfl, rfl⟩ | ⟨_, _, _, _, h1, _⟩
    · refine ⟨ρ, ?_, ⟨fun t => I.tmps t m (Nat.le_refl _) fun i oi hi hd => ?_, I.size, ?_⟩, rfl⟩
      · have := I.post
        rw [hh, ← hm] at this; exact this
      · have hlt := (Array.getElem?_eq_some_iff.1 hi).1
        exact ⟨fun _ => by omega, fun _ => hall i hlt⟩
      · rw [C.defers m (Nat.le_refl _)]; exact I.defers.mono I.post.ext
    · omega
  | succ fuel ih =>
    intro listed a' w' h b ρ hs hc I
    refine ⟨fun hn => ?_, fun j hj => ?_⟩
    · exfalso
      have : ∃ i, i < ops.size ∧ ¬ Lst listed i := by
        refine Classical.byContradiction fun hx => ?_
        have : listed.toList.countP (fun b => !b) = 0 := by
          refine List.countP_eq_zero.2 fun v hv => ?_
          obtain ⟨i, hi, rfl⟩ := List.mem_iff_getElem.1 hv
          have hl : Lst listed i := Classical.byContradiction fun h => hx ⟨i, by simpa [hs] using hi, h⟩
          unfold Lst at hl
          have hlt : i < listed.size := by simpa using hi
          rw [Array.getElem?_eq_getElem hlt] at hl
          simp only [Option.some.injEq] at hl
          simp [hl]
        omega
      obtain ⟨i, hi, hl⟩ := this
      exact some_ready hrk hs _ i (Nat.le_refl _) hi hl hn
    · obtain ⟨h1, h2, o, h3, h4⟩ := mem_ready.1 hj
      have hlt : j < listed.size := by omega
      have hjf : listed[j]? = some false := by
        rw [Array.getD_eq_getD_getElem?, Array.getElem?_eq_getElem hlt] at h2
        rw [Array.getElem?_eq_getElem hlt]; simpa using h2
      have hset : Lst (listed.setIfInBounds j true) = fun i => Lst listed i ∨ i = j := by
        funext i
        unfold Lst
        rw [Array.getElem?_setIfInBounds]
        by_cases e : j = i
        · subst e; simp [hlt]
        · rw [if_neg e]; simp [Ne.symm e]
      refine inv_step hP hcal C hops hG I h3 (fun hl => by unfold Lst at hl; rw [hjf] at hl; cases hl) (fun oj hoj e he hb => ?_) _ fun a2 w2 hh b2 ρ2 I2 => ?_
      · rw [h3] at hoj; injection hoj with hoj; subst hoj
        have := h4 e he (binds_any hb)
        unfold Lst
        rw [Array.getD_eq_getD_getElem?] at this
        cases hq : listed[e.on]? with
        | none => rw [hq] at this; cases this
        | some v => rw [hq] at this; simpa using this
      · refine ih _ a2 w2 hh b2 ρ2 (by simpa using hs) ?_ (I2.congr hset.symm)
        rw [Array.toList_setIfInBounds, List.countP_set (by simpa using hlt)]
        have : listed.toList[j]'(by simpa using hlt) = false := by
          rw [Array.getElem?_eq_getElem hlt] at hjf
          simpa using hjf
        simp [this, hc]

theorem lin_lt (md : Region.Mode) (ops : Array Oper) : ∀ (fuel t : Nat) (listed : Array Bool) (acc : List Nat), (∀ i ∈ acc, i < ops.size) → ∀ i ∈ Region.linearise.go md ops fuel t listed acc, i < ops.size := by
  intro fuel
  induction fuel with
  | zero => intro t listed acc h i hi; simp only [Region.linearise.go, List.mem_reverse] at hi; exact h i hi
  | succ fuel ih =>
    intro t listed acc h i hi
    simp only [Region.linearise.go] at hi
    split at hi
    · rename_i k hk
      refine ih _ _ _ (fun j hj => ?_) i hi
      rcases List.mem_cons.1 hj with rfl | hj
      · have := List.mem_of_getElem? hk
        rw [List.mem_filter, List.mem_range] at this
        exact this.1
      · exact h j hj
    · simp only [List.mem_reverse] at hi; exact h i hi

theorem rank_ok {md : Region.Mode} (h : rankOk md ops = true) : ∀ i o, ops[i]? = some o → ∀ e ∈ o.after, Region.binds md e = true → e.on < ops.size ∧ (Region.linearise md ops 0).idxOf e.on < (Region.linearise md ops 0).idxOf i := by
  intro i o ho e he hb
  unfold rankOk at h
  have hlt := (Array.getElem?_eq_some_iff.1 ho).1
  have h1 := List.all_eq_true.1 h i (List.mem_range.2 hlt)
  simp only [ho, Bool.and_eq_true] at h1
  have h2 := Array.all_eq_true_iff_forall_mem.1 h1.2 e he
  simp only [hb, Bool.not_true, Bool.false_or, Bool.and_eq_true, decide_eq_true_eq] at h2
  exact ⟨lin_lt md ops _ _ _ [] (fun i hi => by cases hi) e.on (List.contains_iff_mem.1 h2.1), h2.2⟩

theorem drawSound (hP : okProg P = true) : DrawSound P := by
  intro cal hcal nt ops id hops hdr a H ρ w a' r hG hR hA h
  simp only [Bool.and_eq_true] at hdr
  have hmd := hdr.2
  obtain ⟨x, aE, HE⟩ := r
  obtain ⟨T, m, hT, C⟩ := canon_of hdr.1 h
  refine wp_region_draw fun t => ?_
  obtain ⟨h0, g1, g2, g3, g4⟩ := C.nextStop m 0 (by omega)
  have hR1 : Rel ρ (T 0).2 { w with drawn := w.drawn + 1 } := by rw [hT]; exact hR.of_heap rfl
  have hp : Post ρ H w ρ (T 0).2 { w with drawn := w.drawn + 1 } := by rw [hT]; exact Post.drew hR _
  have I : Inv P ops T m nt ρ H w (Lst (Array.replicate ops.size false)) a' { w with drawn := w.drawn + 1 } h0 0 ρ := by
    have hno : ∀ i, ¬ Lst (Array.replicate ops.size false) i := fun i hi => by
      unfold Lst at hi
      rw [Array.getElem?_replicate] at hi
      split at hi <;> cases hi
    refine ⟨fun j oj _ hs => absurd hs (hno j), g2, Nat.zero_le _, fun i o h1 h2 h3 => absurd h3 (g3 i o (Nat.zero_le _) h1 h2), g4, fun i o _ _ _ => hno i, fun i o _ h1 h2 => g3 i o (Nat.zero_le _) h1 h2, hR1.wf, .inl rfl,
      by rw [hT]; exact Nat.le_refl _, C.advance hp h0 (Nat.zero_le _) g2 g3, fun t k hk hc => ?_, hA.size, by rw [hT]; exact hA.defers, fun i o h1 h2 h3 h4 h5 => ?_⟩
    · rw [C.const (j := 0) k (Nat.zero_le _) hk fun i o _ h1 h2 hd => absurd ((hc i o h2 hd).2 h1) (hno i), hT]
      exact hA.tmps t
    · cases hq : ρ (T i).2.next with
      | none => rfl
      | some rb =>
        have h6 := (hR1.lt _ _ hq).1
        have := ((C.seg (b := 0) hR1.wf i (Nat.zero_le _) (by omega) (fun k ok _ b => g3 k ok (Nat.zero_le _) (by omega))).2 0 (Nat.le_refl _) (Nat.zero_le _)).2
        omega
  have go : ∀ md t, rankOk md ops = true → wpOps P ops (fun e a' w' => QR ρ H w nt (x, aE, HE) e a' w') (Region.linearise md ops t) a' { w with drawn := w.drawn + 1 } := fun md t hr =>
    wpAny_sound ops.size t _ a' _ (draw_any (rk := fun i => (Region.linearise md ops 0).idxOf i) hP hcal C hops hG (rank_ok hr) _ _ _ _ _ _ _ (by simp) (by rw [Array.toList_replicate, List.countP_replicate]; rfl) I)
  unfold Region.schedule
  unfold drawMode at hmd
  split
  · rename_i hc
    rw [if_pos hc] at hmd
    exact go .any t hmd
  · rename_i hc
    rw [if_neg hc] at hmd
    simp only [Bool.and_eq_true] at hmd
    split
    · exact go .text _ hmd.1
    · exact go .gc _ hmd.2

end Go.Can

namespace Go.Can
open Go
variable {P : Program}

theorem foldl_set (l : List Value) : ∀ (k : Nat) (t : Tr Value) (i : Nat), ((l.zipIdx k).foldl (fun t (v, i) => t.set i v) t).get i = if k ≤ i ∧ i < k + l.length then l[i - k]? else t.get i := by
  induction l with
  | nil => intro k t i; simp; omega
  | cons v l ih =>
    intro k t i
    simp only [List.zipIdx_cons, List.foldl_cons]
    rw [ih (k + 1), Tr.get_set]
    by_cases h1 : k + 1 ≤ i ∧ i < k + 1 + l.length
    · rw [if_pos h1, if_pos (by simp only [List.length_cons]; omega), show i - k = (i - (k + 1)) + 1 by omega, List.getElem?_cons_succ]
    · rw [if_neg h1]
      by_cases h2 : i = k
      · subst h2; rw [if_pos rfl, if_pos (by simp), Nat.sub_self]; rfl
      · rw [if_neg h2, if_neg (by simp only [List.length_cons]; omega)]

theorem initAct_get (args : Array Value) (i : Nat) : (initAct args).get i = args.toList[i]?.getD undef := by
  unfold initAct CAct.get
  rw [foldl_set]
  by_cases h : i < args.toList.length
  · rw [if_pos (by omega)]; rfl
  · rw [if_neg (by omega), Tr.get_nil, List.getElem?_eq_none (by omega)]

theorem initAct_rel {ρ : Rho} {args args' : Array Value} (h : VRs ρ args.toList args'.toList) (nt : Nat) : ActR ρ nt (initAct args) { tmps := args' ++ Array.replicate (nt - args'.size) undef, defers := [] } := by
  refine ⟨fun t => ?_, by simp; omega, DsRel.nil ρ⟩
  rw [initAct_get, Array.getD_eq_getD_getElem?, Array.getElem?_append]
  have hl := h.len
  have hl' : args.size = args'.size := by simpa using hl
  by_cases ht : t < args'.size
  · rw [if_pos ht, Array.getElem?_eq_getElem ht, List.getElem?_eq_getElem (l := args.toList) (i := t) (by rw [Array.length_toList, hl']; exact ht)]
    exact h.at_ t _ _ (List.getElem?_eq_getElem _) (by simp [ht])
  · rw [if_neg ht, List.getElem?_eq_none (l := args.toList) (i := t) (by rw [Array.length_toList, hl']; exact Nat.le_of_not_lt ht), Array.getElem?_replicate]
    split <;> exact vr_undef ρ

theorem run_mapM_list {α β : Type} (f : α → Sem β) (w : World) (g : α → β) : ∀ (l : List α), (∀ x ∈ l, (f x).run P w = .ok (g x) w) → (l.mapM f).run P w = .ok (l.map g) w := by
  intro l
  induction l with
  | nil => intro _; rfl
  | cons x l ih =>
    intro h
    rw [List.mapM_cons]
    simp only [Sem.run_bind, h x (by simp), Result.andThen_ok, ih (fun y hy => h y (by simp [hy])), Sem.run_pure, List.map_cons]

def resF (a' : Act) : ResultVar → Sem Value
  | .tmp t => pure (a'.tmps.getD t undef)
  | .cell x t => do loadVar t (← asAddr (a'.tmps.getD x undef))

theorem resultC_sound {ρ : Rho} {H : Heap} {w : World} {nt : Nat} {a : CAct} {a' : Act} (hR : Rel ρ H w) (hA : ActR ρ nt a a') {rv : ResultVar} {v : Value} (h : resultC P a H rv = some v) :
    ∃ v', (resF a' rv).run P w = .ok v' w ∧ VR ρ v v' := by
  cases rv with
  | tmp t =>
    simp only [resultC, Option.some.injEq] at h; subst h
    exact ⟨_, rfl, hA.tmps t⟩
  | cell y t =>
    simp only [resultC] at h
    obtain ⟨v', h1, h2⟩ := loadC_sound hR (hA.tmps y) h
    refine ⟨v', ?_, h2⟩
    have hx := hA.tmps y
    show (do loadVar t (← asAddr (a'.tmps.getD y undef)) : Sem Value).run P w = _
    generalize a.get y = u at hx h
    generalize a'.tmps.getD y undef = u' at hx h1 ⊢
    unfold loadC at h
    split at h
    · obtain ⟨rb, _, rfl⟩ := hx.ptr_inv
      exact h1
    · cases h

theorem resultsC_sound {ρ : Rho} {H : Heap} {w : World} {nt : Nat} {fn : Func} {a : CAct} {a' : Act} {v : Value} (hR : Rel ρ H w) (hA : ActR ρ nt a a') (h : resultsC P fn a H = some v) :
    ∃ v', (results fn a'.tmps).run P w = .ok v' w ∧ VR ρ v v' := by
  unfold resultsC at h
  simp only [Option.map_eq_some_iff] at h
  obtain ⟨vs, h1, h2⟩ := h
  have key : ∀ (l : List ResultVar) (vs : List Value), l.mapM (resultC P a H) = some vs → ∃ vs', (l.mapM (resF a')).run P w = .ok vs' w ∧ VRs ρ vs vs' := by
    intro l
    induction l with
    | nil => intro vs h; simp only [List.mapM_nil, Option.pure_def, Option.some.injEq] at h; subst h; exact ⟨[], rfl, VRs.nil ρ⟩
    | cons rv l ih =>
      intro vs h
      rw [List.mapM_cons] at h
      cases hq : resultC P a H rv with
      | none => rw [hq] at h; cases h
      | some u =>
        rw [hq] at h
        cases hq2 : l.mapM (resultC P a H) with
        | none => rw [hq2] at h; cases h
        | some us =>
          rw [hq2] at h
          simp only [Option.bind_eq_bind, Option.bind_some, Option.pure_def, Option.some.injEq] at h
          subst h
          obtain ⟨u', e1, e2⟩ := resultC_sound hR hA hq
          obtain ⟨us', e3, e4⟩ := ih us hq2
          refine ⟨u' :: us', ?_, e4.cons e2⟩
          rw [List.mapM_cons]
          simp only [Sem.run_bind, e1, Result.andThen_ok, e3, Sem.run_pure]
  obtain ⟨vs', e1, e2⟩ := key _ _ h1
  have hrun : (results fn a'.tmps).run P w = .ok (if h : vs'.toArray.size = 1 then vs'.toArray[0] else .tuple vs'.toArray) w := by
    unfold results
    rw [Array.mapM_eq_mapM_toList]
    simp only [Sem.run_bind, map_eq_pure_bind]
    have : ∀ f : ResultVar → Sem Value, f = resF a' → (fn.results.toList.mapM f).run P w = .ok vs' w := fun f hf => by rw [hf]; exact e1
    rw [this _ (by funext rv; cases rv <;> rfl)]
    rfl
  refine ⟨_, hrun, ?_⟩
  have hl := e2.len
  match vs, vs', e2, h2 with
  | [u], [u'], e2, h2 => subst h2; exact e2.head
  | [], [], e2, h2 => subst h2; exact .tuple [] [] rfl e2.at_
  | u :: u1 :: us, u' :: u1' :: us', e2, h2 =>
    subst h2
    rw [dif_neg (by simp)]
    exact .tuple _ _ e2.len e2.at_
  | [], _ :: _, e2, _ => have := e2.len; simp at this
  | _ :: _, [], e2, _ => have := e2.len; simp at this
  | [_], _ :: _ :: _, e2, _ => have := e2.len; simp at this
  | _ :: _ :: _, [_], e2, _ => have := e2.len; simp at this

end Go.Can

namespace Go.Can
open Go
variable {P : Program}

def URel (ρ : Rho) (u : UM) (um : FrameMode) : Prop :=
  match u with
  | .ret => um = .returning
  | .pan v r => ∃ v', um = .panicking [{ v := v', recovered := r }] ∧ VR ρ v v'

def EndR (ρ : Rho) (e : End) (e' : Ending) : Prop :=
  match e with
  | .ret v => ∃ v', e' = .returned v' ∧ VR ρ v v'
  | .pan v => ∃ v', e' = .panicked [{ v := v', recovered := false }] ∧ VR ρ v v'

theorem URel.mono {ρ ρ' : Rho} (h : Ext ρ ρ') {u : UM} {um : FrameMode} (hu : URel ρ u um) : URel ρ' u um := by
  cases u with
  | ret => exact hu
  | pan v r => obtain ⟨v', h1, h2⟩ := hu; exact ⟨v', h1, h2.mono h⟩

theorem okFunc_of (hP : okProg P = true) {f : FuncId} {fn : Func} (hf : P.funcs[f]? = some fn) : fn.name ≠ "runtime.NumGoroutine" ∧ ∀ c, fn.body = some c → okCode P fn.ntmps c = true := by
  have := Array.all_eq_true_iff_forall_mem.1 hP fn (Array.mem_of_getElem? hf)
  simp only [okFunc, Bool.and_eq_true, bne_iff_ne, ne_eq] at this
  exact ⟨this.1, fun c hc => by have := this.2; rw [hc] at this; exact this⟩

def SSound (P : Program) (bad : List Nat) (cal : Cal) (k : Nat) : Prop := ∀ f args u H e u' H', callS P bad cal k f args u H = some (e, u', H') → ∀ ρ w args' um, GR P ρ → Rel ρ H w → VRs ρ args.toList args'.toList → URel ρ u um →
  CallsD P f args' um w fun e' um' w' => ∃ ρ', Post ρ H w ρ' H' w' ∧ URel ρ' u' um' ∧ EndR ρ' e e'

theorem leave_sound (hP : okProg P = true) {bad : List Nat} {cal : Cal} {k : Nat} (hS : SSound P bad cal k) {fn : Func} {a : CAct} {a' : Act} {nt : Nat} : ∀ (ds : List Deferred) (u : UM) (H : Heap) (ρ : Rho) (w : World) (ds' : List Deferred) (um : FrameMode) (e : End) (H' : Heap),
    leave P bad cal k fn a ds u H = some (e, H') → GR P ρ → Rel ρ H w → ActR ρ nt a a' → DsRel ρ ds ds' → URel ρ u um → Leaves P fn a'.tmps (fun e' w' => ∃ ρ', Post ρ H w ρ' H' w' ∧ EndR ρ' e e') ds' um w := by
  intro ds
  induction ds with
  | nil =>
    intro u H ρ w ds' um e H' h hG hR hA hD hU
    have hn : ds' = [] := by have := hD.len; exact List.length_eq_zero_iff.1 this.symm
    subst hn
    cases u with
    | ret =>
      simp only [leave, Option.map_eq_some_iff, Prod.mk.injEq] at h
      obtain ⟨v, h1, rfl, rfl⟩ := h
      obtain ⟨v', e1, e2⟩ := resultsC_sound hR hA h1
      cases hU
      exact ⟨v', e1, ρ, Post.refl hR, v', rfl, e2⟩
    | pan v r =>
      obtain ⟨v', rfl, h2⟩ := hU
      cases r with
      | true => simp [leave] at h
      | false =>
        simp only [leave, Option.some.injEq, Prod.mk.injEq] at h
        obtain ⟨rfl, rfl⟩ := h
        exact ⟨ρ, Post.refl hR, v', rfl, h2⟩
  | cons d ds ih =>
    intro u H ρ w ds' um e H' h hG hR hA hD hU
    cases ds' with
    | nil => have := hD.len; simp at this
    | cons d' ds' =>
      obtain ⟨⟨g, c, c', t1, t2, t3⟩, t4⟩ := hD.head
      obtain ⟨tgt', dargs'⟩ := d'
      simp only at t2 t4
      subst t2
      simp only [leave, t1] at h
      have hum : um ≠ .run := by
        cases u with
        | ret => cases hU; intro h; cases h
        | pan v r => obtain ⟨v', rfl, _⟩ := hU; intro h; cases h
      have hargs : VRs ρ (d.args ++ c).toList (dargs' ++ c').toList := by
        rw [Array.toList_append, Array.toList_append]; exact t4.append t3
      have lift : ∀ {ρ1 H1 w1} {ds u w2}, Post ρ H w ρ1 H1 w1 → Leaves P fn a'.tmps (fun e' w' => ∃ ρ', Post ρ1 H1 w1 ρ' H' w' ∧ EndR ρ' e e') ds u w2 → Leaves P fn a'.tmps (fun e' w' => ∃ ρ', Post ρ H w ρ' H' w' ∧ EndR ρ' e e') ds u w2 := by
        intro ρ1 H1 w1 ds u w2 hp
        induction ds generalizing u w2 with
        | nil =>
          intro h
          cases u with
          | run => exact h
          | returning => obtain ⟨v, h1, ρ', h2, h3⟩ := h; exact ⟨v, h1, ρ', hp.trans h2, h3⟩
          | panicking ch => obtain ⟨ρ', h2, h3⟩ := h; exact ⟨ρ', hp.trans h2, h3⟩
        | cons x xs ihx =>
          intro h
          obtain ⟨h1, fv, cap, f, args, h2, h3, h4⟩ := h
          refine ⟨h1, fv, cap, f, args, h2, h3, h4.mono fun e' u' w' he => ?_⟩
          cases e' with
          | returned v => exact ihx he
          | panicked ch => exact ihx he
          | outgrown => obtain ⟨ρ', h2, h3⟩ := he; exact ⟨ρ', hp.trans h2, h3⟩
      have hfn : ∃ gn, P.funcs[g]? = some gn ∧ gn.body.isSome = true := by
        cases hc : callS P bad cal k g (d.args ++ c) u H with
        | none => rw [hc] at h; cases h
        | some r =>
          unfold callS at hc
          split at hc
          · cases hc
          cases hq : P.funcs[g]? with
          | none => rw [hq] at hc; cases hc
          | some gn =>
            rw [hq] at hc
            cases hb : gn.body with
            | none => simp only [hb] at hc; cases hc
            | some cd => exact ⟨gn, rfl, by simp [hb]⟩
      obtain ⟨gn, hg1, hg2⟩ := hfn
      refine leaves_cons hum (run_callFunc_body hg1 (okFunc_of hP hg1).1 hg2 w) ?_
      have hs := hS g (d.args ++ c) u H
      split at h
      · rename_i v1 v2 H1 hc
        refine (hs _ _ _ hc ρ w _ um hG hR hargs hU).mono fun e' um' w' q => ?_
        obtain ⟨ρ1, p1, ⟨v', rfl, _⟩, ⟨v1', rfl, _⟩⟩ := q
        exact lift p1 (ih .ret H1 ρ1 w' ds' .returning e H' h (hG.mono p1.ext) p1.rel (hA.mono p1.ext) (hD.tail.mono p1.ext) rfl)
      · rename_i v1 u1 H1 hne hc
        refine (hs _ _ _ hc ρ w _ um hG hR hargs hU).mono fun e' um' w' q => ?_
        obtain ⟨ρ1, p1, p2, ⟨v1', rfl, _⟩⟩ := q
        have hset : settle um' = um' := by
          cases u1 with
          | ret => cases p2; rfl
          | pan v r =>
            obtain ⟨v', rfl, _⟩ := p2
            cases r with
            | false => rfl
            | true => exact (hne _ rfl).elim
        show Leaves _ _ _ _ _ (settle um') _
        rw [hset]
        exact lift p1 (ih u1 H1 ρ1 w' ds' um' e H' h (hG.mono p1.ext) p1.rel (hA.mono p1.ext) (hD.tail.mono p1.ext) p2)
      · rename_i v1 H1 hc
        refine (hs _ _ _ hc ρ w _ um hG hR hargs hU).mono fun e' um' w' q => ?_
        obtain ⟨ρ1, p1, p2, ⟨v1', rfl, p3⟩⟩ := q
        cases p2
        exact lift p1 (ih (.pan v1 false) H1 ρ1 w' ds' (.panicking [{ v := v1', recovered := false }]) e H' h (hG.mono p1.ext) p1.rel (hA.mono p1.ext) (hD.tail.mono p1.ext) ⟨v1', rfl, p3⟩)
      · cases h

theorem wpS_mono {c : Code} {Q Q' : Exit → Act → List Frame → World → Prop} {a : Act} {cs : List Frame} {w : World} (h : c.wpS P Q a cs w) (hq : ∀ e a cs w, Q e a cs w → Q' e a cs w) : c.wpS P Q' a cs w :=
  fun b k hb hr => let ⟨e, a', cs', w', q, r⟩ := h b k hb hr; ⟨e, a', cs', w', hq _ _ _ _ q, r⟩

def QS (c0 : Frame) (cs : List Frame) (ρ : Rho) (H : Heap) (w : World) (nt : Nat) (r : X × CAct × Heap × UM) (e : Exit) (a' : Act) (cs' : List Frame) (w' : World) : Prop :=
  ∃ ρ' um', Post ρ H w ρ' r.2.2.1 w' ∧ ActR ρ' nt r.2.1 a' ∧ XRel ρ' r.1 e ∧ cs' = { c0 with mode := um' } :: cs ∧ URel ρ' r.2.2.2 um'

theorem QS.trans {c0 : Frame} {cs : List Frame} {ρ ρ1 : Rho} {H H1 : Heap} {w w1 : World} {nt : Nat} {r : X × CAct × Heap × UM} {e : Exit} {a' : Act} {cs' : List Frame} {w' : World} {um : FrameMode} (h : Post ρ H w ρ1 H1 w1)
    (k : QS { c0 with mode := um } cs ρ1 H1 w1 nt r e a' cs' w') : QS c0 cs ρ H w nt r e a' cs' w' := by
  obtain ⟨ρ', um', k1, k2, k3, k4, k5⟩ := k
  exact ⟨ρ', um', h.trans k1, k2, k3, k4, k5⟩

theorem wpOpsS_mono {ops : Array Oper} {Q Q' : Exit → Act → List Frame → World → Prop} (hq : ∀ e a cs w, Q e a cs w → Q' e a cs w) : ∀ (is : List Nat) (a : Act) (cs : List Frame) (w : World), wpOpsS P ops Q is a cs w → wpOpsS P ops Q' is a cs w := by
  intro is
  induction is with
  | nil => intro a cs w h; exact hq _ _ _ _ h
  | cons j is ih =>
    intro a cs w h
    simp only [wpOpsS] at h ⊢
    cases ho : ops[j]? with
    | none => simp only [ho] at h ⊢; exact ih _ _ _ h
    | some o =>
      simp only [ho] at h ⊢
      split at h
      · rename_i hw
        rw [if_pos hw]
        generalize (execOp a.eval o).run P w = run at h ⊢
        split at h
        · rename_i w'
          split at h
          · exact ih _ _ _ h
          · exact ih _ _ _ h
        · rename_i hne
          unfold Oper.upon at h
          split at h
          · exact ih _ _ _ h
          · exact ih _ _ _ h
          · exact ih _ _ _ h
          · refine Calls.mono h fun e w' he => ?_
            cases e with
            | returned v => exact ih _ _ _ he
            | panicked c => exact hq _ _ _ _ he
            | outgrown => obtain ⟨a0, w0, h2⟩ := he; exact ⟨a0, w0, hq _ _ _ _ h2⟩
          · exact Rows.mono h fun v w' he => ih _ _ _ he
          · exact hq _ _ _ _ h
          · exact h.elim
      · rename_i hw
        rw [if_neg hw]; exact ih _ _ _ h

theorem execOpsS_sound (hP : okProg P = true) {cal : Cal} (hcal : CalSound P cal) {nt : Nat} {ops : Array Oper} (hops : ops.all (okOper P nt) = true) (cs : List Frame) : ∀ (is : List Nat) (a : CAct) (H : Heap) (u : UM) (c0 : Frame) (ρ : Rho) (w : World) (a' : Act) (r : X × CAct × Heap × UM),
    GR P ρ → Rel ρ H w → ActR ρ nt a a' → URel ρ u c0.mode → execOpsS P cal ops is a H u = some r → wpOpsS P ops (QS c0 cs ρ H w nt r) is a' (c0 :: cs) w := by
  intro is
  induction is with
  | nil =>
    intro a H u c0 ρ w a' r hG hR hA hU h
    simp only [execOpsS, Option.some.injEq] at h; subst h
    exact ⟨ρ, c0.mode, Post.refl hR, hA, rfl, rfl, hU⟩
  | cons i is ih =>
    intro a H u c0 ρ w a' r hG hR hA hU h
    simp only [execOpsS] at h
    simp only [wpOpsS]
    cases ho : ops[i]? with
    | none => simp only [ho] at h ⊢; exact ih a H u c0 ρ w a' r hG hR hA hU h
    | some o =>
      have hoo : okOper P nt o = true := Array.all_eq_true_iff_forall_mem.1 hops o (Array.mem_of_getElem? ho)
      simp only [ho] at h ⊢
      split at h
      · rename_i hw
        rw [if_pos (wantedC_sound hA hw)]
        split at h
        · rename_i hrec
          have hrun : (execOp a'.eval o).run P w = .ok .recover w := by
            unfold isRecover at hrec
            split at hrec
            · rename_i ar at' ho2
              simp [execOp, ho2, resolve, invoke, builtin]
            · cases hrec
          rw [hrun]
          split at h
          · rename_i v
            obtain ⟨v', hm, hv⟩ := hU
            have hrd : recoverD (c0 :: cs) = some (v', { c0 with mode := .panicking [{ v := v', recovered := true }] } :: cs) := by
              simp only [recoverD, hm]
            simp only [hrd]
            have := ih _ H (.pan v true) { c0 with mode := .panicking [{ v := v', recovered := true }] } ρ w (a'.put o.dst v') r hG hR (hA.put (okOper_dst hoo).1 hv) ⟨v', rfl, hv⟩ h
            exact wpOpsS_mono (fun e a cs w q => q.trans (Post.refl hR)) _ _ _ _ this
          · rename_i u1 hu1
            have hrd : recoverD (c0 :: cs) = none := by
              cases u with
              | ret => simp only [URel] at hU; simp only [recoverD, hU]
              | pan v rc =>
                obtain ⟨v', hm, _⟩ := hU
                cases rc with
                | false => exact (hu1 v rfl).elim
                | true => simp only [recoverD, hm]
            simp only [hrd]
            exact ih _ H u c0 ρ w _ r hG hR (hA.put (okOper_dst hoo).1 .nilIface) hU h
        · have fall : ∀ {next : Act → World → Prop} {Q : Exit → Act → World → Prop}, o.wp P a' w next Q → ∀ (f : World → Prop), (match (execOp a'.eval o).run P w with
              | .ok .recover w' => f w'
              | r => o.upon P a' next Q r) := by
            intro next Q hwp f
            unfold Oper.wp at hwp
            generalize (execOp a'.eval o).run P w = run at hwp ⊢
            split
            · exact hwp.elim
            · exact hwp
          split at h
          · rename_i a1 H1 he
            refine fall (next := fun a' w' => wpOpsS P ops (QS c0 cs ρ H w nt r) is a' (c0 :: cs) w') (Q := fun e a' w' => QS c0 cs ρ H w nt r e a' (c0 :: cs) w') (execOne_sound hP hcal hG hR hA hoo he _ _ (fun a2 e2 ρ1 a1' w1 p1 p2 => ?_) (fun v e2 => by cases e2)) _
            injection e2 with e2; subst e2
            exact wpOpsS_mono (fun e a cs w q => QS.trans (um := c0.mode) p1 q) _ _ _ _ (ih a1 H1 u c0 ρ1 w1 a1' r (hG.mono p1.ext) p1.rel p2 (hU.mono p1.ext) h)
          · rename_i v H1 he
            injection h with h; subst h
            refine fall (next := fun a' w' => wpOpsS P ops (QS c0 cs ρ H w nt (.pan v, a, H1, u)) is a' (c0 :: cs) w') (Q := fun e a' w' => QS c0 cs ρ H w nt (.pan v, a, H1, u) e a' (c0 :: cs) w') (execOne_sound hP hcal hG hR hA hoo he _ _ (fun a2 e2 => by cases e2) (fun v2 e2 ρ1 v' w1 p1 p2 => ?_)) _
            injection e2 with e2; subst e2
            exact ⟨ρ1, c0.mode, p1, hA.mono p1.ext, ⟨v', rfl, p2⟩, rfl, hU.mono p1.ext⟩
          · cases h
      · rename_i hw
        rw [if_neg (by rw [wantedC_sound hA hw]; exact Bool.false_ne_true)]
        exact ih _ H u c0 ρ w _ r hG hR (hA.put (okOper_dst hoo).1 (vr_undef ρ)) hU h
      · cases h

end Go.Can

namespace Go.Can
open Go
variable {P : Program}

theorem execS_plain {cal : Cal} {k : Nat} {c : Code} {a : CAct} {H : Heap} {u : UM} {r : X × CAct × Heap × UM} (h : (if hasRecover c then none else (exec P cal k c a H).map fun (x, a', H') => (x, a', H', u)) = some r) :
    ∃ s, exec P cal k c a H = some s ∧ r = (s.1, s.2.1, s.2.2, u) := by
  split at h
  · cases h
  · simp only [Option.map_eq_some_iff] at h
    obtain ⟨s, h1, rfl⟩ := h
    exact ⟨s, h1, rfl⟩

theorem execS_sound (hP : okProg P = true) {cal : Cal} (hcal : CalSound P cal) {nt : Nat} (k : Nat) (cs : List Frame) : ∀ (c : Code), okCode P nt c = true → drawsOk P c = true → ∀ (a : CAct) (H : Heap) (u : UM) (c0 : Frame) (ρ : Rho) (w : World) (a' : Act) (r : X × CAct × Heap × UM),
    GR P ρ → Rel ρ H w → ActR ρ nt a a' → URel ρ u c0.mode → execS P cal k c a H u = some r → c.wpS P (QS c0 cs ρ H w nt r) a' (c0 :: cs) w := by
  have plain : ∀ (c : Code), okCode P nt c = true → drawsOk P c = true → ∀ (a : CAct) (H : Heap) (u : UM) (c0 : Frame) (ρ : Rho) (w : World) (a' : Act) (r : X × CAct × Heap × UM),
      GR P ρ → Rel ρ H w → ActR ρ nt a a' → URel ρ u c0.mode → (if hasRecover c then none else (exec P cal k c a H).map fun (x, a', H') => (x, a', H', u)) = some r → c.wpS P (QS c0 cs ρ H w nt r) a' (c0 :: cs) w := by
    intro c hok hdr a H u c0 ρ w a' r hG hR hA hU h
    obtain ⟨s, h1, rfl⟩ := execS_plain h
    refine wpS_of_wp (wp_mono (exec_sound hP (drawSound hP) hcal k c hok hdr a H ρ w a' s hG hR hA h1) fun e a2 w2 q => ?_)
    obtain ⟨ρ1, q1, q2, q3⟩ := q
    exact ⟨ρ1, c0.mode, q1, q2, q3, rfl, hU.mono q1.ext⟩
  intro c
  induction c with
  | seq x y ihx ihy =>
    intro hok hdr a H u c0 ρ w a' r hG hR hA hU h
    simp only [okCode, Bool.and_eq_true] at hok
    simp only [drawsOk, Bool.and_eq_true] at hdr
    simp only [execS] at h
    refine wpS_seq ?_
    split at h
    · rename_i a1 H1 u1 he
      refine wpS_mono (ihx hok.1 hdr.1 a H u c0 ρ w a' _ hG hR hA hU he) fun e a2 cs2 w2 q => ?_
      obtain ⟨ρ1, um1, q1, q2, q3, rfl, q5⟩ := q
      simp only [XRel] at q3
      subst q3
      exact wpS_mono (ihy hok.2 hdr.2 a1 H1 u1 { c0 with mode := um1 } ρ1 w2 a2 r (hG.mono q1.ext) q1.rel q2 q5 h) fun e a cs w q => q.trans q1
    · rename_i hne
      refine wpS_mono (ihx hok.1 hdr.1 a H u c0 ρ w a' _ hG hR hA hU h) fun e a2 cs2 w2 q => ?_
      cases e with
      | normal =>
        obtain ⟨ρ1, um1, q1, q2, q3, _⟩ := q
        obtain ⟨x1, a1, H1, u1⟩ := r
        exfalso
        cases x1 with
        | normal => exact hne a1 H1 u1 h
        | pan v => obtain ⟨v', q3, _⟩ := q3; cases q3
        | _ => simp only [XRel] at q3; cases q3
      | _ => exact q
  | cond c x y ihx ihy =>
    intro hok hdr a H u c0 ρ w a' r hG hR hA hU h
    simp only [okCode, Bool.and_eq_true] at hok
    simp only [drawsOk, Bool.and_eq_true] at hdr
    have hc := hA.eval hG hok.1.1
    simp only [execS] at h
    split at h
    · rename_i heq
      rw [heq] at hc
      exact wpS_cond (t := true) hc.bool_inv (ihx hok.1.2 hdr.1 a H u c0 ρ w a' r hG hR hA hU h)
    · rename_i heq
      rw [heq] at hc
      exact wpS_cond (t := false) hc.bool_inv (ihy hok.2 hdr.2 a H u c0 ρ w a' r hG hR hA hU h)
    · cases h
  | region id ops draw =>
    cases draw with
    | false =>
      intro hok hdr a H u c0 ρ w a' r hG hR hA hU h
      exact wpS_region (execOpsS_sound hP hcal hok cs _ a H u c0 ρ w a' r hG hR hA hU h)
    | true => exact plain _
  | skip => exact plain _
  | label l => exact plain _
  | block id b _ => exact plain _
  | loop b _ => exact plain _
  | exit id => exact plain _
  | scope b _ => exact plain _
  | goto l => exact plain _
  | ret => exact plain _
  | rangeFunc f ps x y _ _ => exact plain _
  | refuse s => exact plain _

theorem draws_of {bad : List Nat} (hB : drawsProg P bad = true) {f : FuncId} {fn : Func} {c : Code} (hb : bad.contains f ≠ true) (hf : P.funcs[f]? = some fn) (hc : fn.body = some c) : drawsOk P c = true := by
  have hb' : bad.contains f = false := by simpa using hb
  have := List.all_eq_true.1 hB f (List.mem_range.2 (Array.getElem?_eq_some_iff.1 hf).1)
  simpa only [hb', Bool.false_or, hf, drawsFunc, hc] using this

theorem callS_sound (hP : okProg P = true) {bad : List Nat} (hB : drawsProg P bad = true) {cal : Cal} (hcal : CalSound P cal) (k : Nat) : SSound P bad cal k := by
  intro f args u H e u' H' h ρ w args' um hG hR hargs hU
  unfold callS at h
  split at h
  · cases h
  rename_i hbad
  split at h
  · cases h
  · rename_i fn hf
    split at h
    · cases h
    · rename_i c hb
      have hok := (okFunc_of hP hf).2 c hb
      have hdr := draws_of hB hbad hf hb
      have hA := initAct_rel hargs fn.ntmps
      have hnil : ∀ {ρ' : Rho} {nt : Nat} {a : CAct} {a' : Act}, ActR ρ' nt a a' → a.defers.isEmpty = true → a'.defers = [] := fun hA he => by
        have := hA.defers.len
        rw [List.isEmpty_iff.1 he] at this
        exact List.length_eq_zero_iff.1 this.symm
      split at h
      · split at h
        · rename_i x a H1 u1 he
          split at h
          · rename_i hd
            refine callsD_of_wpS hf hb fun c0 cs hm => ?_
            refine wpS_mono (execS_sound hP hcal k cs c hok hdr _ H u c0 ρ w _ _ hG hR hA (by rw [hm]; exact hU) he) fun e' a2 cs2 w2 q => ?_
            obtain ⟨ρ1, um1, q1, q2, q3, rfl, q5⟩ := q
            have hd' := hnil q2 hd
            have fin : ∀ {v : Value}, (resultsC P fn a H1).map (fun v => (End.ret v, u1, H1)) = some (e, u', H') → (e' = .normal ∨ e' = .ret) → bodyPostS P fn c0 cs (fun e' um' w' => ∃ ρ', Post ρ H w ρ' H' w' ∧ URel ρ' u' um' ∧ EndR ρ' e e') e' a2 ({ c0 with mode := um1 } :: cs) w2 := by
              intro _ h he'
              simp only [Option.map_eq_some_iff, Prod.mk.injEq] at h
              obtain ⟨v, h1, rfl, rfl, rfl⟩ := h
              obtain ⟨v', e1, e2⟩ := resultsC_sound q1.rel q2 h1
              rcases he' with rfl | rfl <;> exact ⟨hd', um1, rfl, v', e1, ρ1, q1, q5, v', rfl, e2⟩
            split at h
            · simp only [XRel] at q3; exact fin (v := undef) h (.inl q3)
            · simp only [XRel] at q3; exact fin (v := undef) h (.inr q3)
            · rename_i v
              injection h with h; simp only [Prod.mk.injEq] at h
              obtain ⟨rfl, rfl, rfl⟩ := h
              obtain ⟨v', rfl, q6⟩ := q3
              exact ⟨hd', um1, rfl, ρ1, q1, q5, v', rfl, q6⟩
            · cases h
          · cases h
        · cases h
      · split at h
        · rename_i x a H1 he
          split at h
          · rename_i hd
            refine (callsD_of_wp (u := um) (R := fun e' w' => ∃ ρ', Post ρ H w ρ' H' w' ∧ URel ρ' u' um ∧ EndR ρ' e e') hf hb (wp_mono (exec_sound hP (drawSound hP) hcal k c hok hdr _ H ρ w _ _ hG hR hA he) fun e' a2 w2 q => ?_)).mono fun e' um' w' q => ?_
            · obtain ⟨ρ1, q1, q2, q3⟩ := q
              have hd' := hnil q2 hd
              have fin : ∀ {v : Value}, (resultsC P fn a H1).map (fun v => (End.ret v, u, H1)) = some (e, u', H') → (e' = .normal ∨ e' = .ret) → bodyPost P fn (fun e' w' => ∃ ρ', Post ρ H w ρ' H' w' ∧ URel ρ' u' um ∧ EndR ρ' e e') e' a2 w2 := by
                intro _ h he'
                simp only [Option.map_eq_some_iff, Prod.mk.injEq] at h
                obtain ⟨v, h1, rfl, rfl, rfl⟩ := h
                obtain ⟨v', e1, e2⟩ := resultsC_sound q1.rel q2 h1
                rcases he' with rfl | rfl <;> exact ⟨hd', v', e1, ρ1, q1, hU.mono q1.ext, v', rfl, e2⟩
              split at h
              · simp only [XRel] at q3; exact fin (v := undef) h (.inl q3)
              · simp only [XRel] at q3; exact fin (v := undef) h (.inr q3)
              · rename_i v
                injection h with h; simp only [Prod.mk.injEq] at h
                obtain ⟨rfl, rfl, rfl⟩ := h
                obtain ⟨v', rfl, q6⟩ := q3
                exact ⟨hd', ρ1, q1, hU.mono q1.ext, v', rfl, q6⟩
              · cases h
            · obtain ⟨rfl, q⟩ := q; exact q
          · cases h
        · cases h

theorem leaves_post {fn : Func} {tmps : Array Value} {ρ ρ1 : Rho} {H H1 H' : Heap} {w w1 : World} {e : End} (hp : Post ρ H w ρ1 H1 w1) : ∀ {ds u w2}, Leaves P fn tmps (fun e' w' => ∃ ρ', Post ρ1 H1 w1 ρ' H' w' ∧ EndR ρ' e e') ds u w2 →
    Leaves P fn tmps (fun e' w' => ∃ ρ', Post ρ H w ρ' H' w' ∧ EndR ρ' e e') ds u w2 := by
  intro ds
  induction ds with
  | nil =>
    intro u w2 h
    cases u with
    | run => exact h
    | returning => obtain ⟨v, h1, ρ', h2, h3⟩ := h; exact ⟨v, h1, ρ', hp.trans h2, h3⟩
    | panicking ch => obtain ⟨ρ', h2, h3⟩ := h; exact ⟨ρ', hp.trans h2, h3⟩
  | cons x xs ihx =>
    intro u w2 h
    obtain ⟨h1, fv, cap, f, args, h2, h3, h4⟩ := h
    refine ⟨h1, fv, cap, f, args, h2, h3, h4.mono fun e' u' w' he => ?_⟩
    cases e' with
    | returned v => exact ihx he
    | panicked ch => exact ihx he
    | outgrown => obtain ⟨ρ', h2, h3⟩ := he; exact ⟨ρ', hp.trans h2, h3⟩

/-- Every call that the interpreter runs to its end is one of the model's. -/
theorem call_sound (hP : okProg P = true) {bad : List Nat} (hB : drawsProg P bad = true) : ∀ n, CalSound P (call P bad n) := by
  intro n
  induction n with
  | zero => intro f args H e H' h; cases h
  | succ n ih =>
    intro f args H e H' h ρ w args' hG hR hargs
    have fold : ∀ {R : Ending → World → Prop}, (∀ e' w', (∃ ρ', Post ρ H w ρ' H' w' ∧ EndR ρ' e e') → R e' w') → Calls P f args' w (fun e' w' => ∃ ρ', Post ρ H w ρ' H' w' ∧ EndR ρ' e e') → Calls P f args' w R := fun hr hc => hc.mono hr
    refine fold (fun e' w' q => ?_) ?_
    · obtain ⟨ρ', q1, q2⟩ := q
      refine ⟨ρ', q1, ?_⟩
      cases e <;> exact q2
    · simp only [call] at h
      split at h
      · cases h
      rename_i hbad
      split at h
      · cases h
      · rename_i fn hf
        split at h
        · cases h
        · rename_i c hb
          have hok := (okFunc_of hP hf).2 c hb
          have hdr := draws_of hB hbad hf hb
          have hA := initAct_rel hargs fn.ntmps
          refine calls_of_wp_defers hf hb ?_
          have hS := callS_sound hP hB ih n
          split at h
          · rename_i a H1 he
            refine wp_mono (exec_sound hP (drawSound hP) ih n c hok hdr _ H ρ w _ _ hG hR hA he) fun e' a2 w2 q => ?_
            obtain ⟨ρ1, q1, q2, q3⟩ := q
            simp only [XRel] at q3; subst q3
            exact leaves_post q1 (leave_sound hP hS _ .ret H1 ρ1 w2 _ .returning e H' h (hG.mono q1.ext) q1.rel q2 q2.defers rfl)
          · rename_i a H1 he
            refine wp_mono (exec_sound hP (drawSound hP) ih n c hok hdr _ H ρ w _ _ hG hR hA he) fun e' a2 w2 q => ?_
            obtain ⟨ρ1, q1, q2, q3⟩ := q
            simp only [XRel] at q3; subst q3
            exact leaves_post q1 (leave_sound hP hS _ .ret H1 ρ1 w2 _ .returning e H' h (hG.mono q1.ext) q1.rel q2 q2.defers rfl)
          · rename_i v a H1 he
            refine wp_mono (exec_sound hP (drawSound hP) ih n c hok hdr _ H ρ w _ _ hG hR hA he) fun e' a2 w2 q => ?_
            obtain ⟨ρ1, q1, q2, q3⟩ := q
            obtain ⟨v', rfl, q4⟩ := q3
            exact leaves_post q1 (leave_sound hP hS _ (.pan v false) H1 ρ1 w2 _ (.panicking [{ v := v', recovered := false }]) e H' h (hG.mono q1.ext) q1.rel q2 q2.defers ⟨v', rfl, q4⟩)
          · cases h

end Go.Can
