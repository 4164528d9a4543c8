/- Every operation of the interpreter is one of the model's. -/
import Derived.Test.YtedibiiolneooaaDoorCa
import Derived.Laws.IdiomStrings
import Derived.Laws.BytesString
import Derived.Lib.UnsafeStr

namespace Go.Can
open Go
variable {P : Program}

theorem pureRun_bind {α β : Type} (s : Sem α) (f : α → Sem β) : pureRun P (s >>= f) = match pureRun P s with
    | some (.ok a) => pureRun P (f a)
    | some (.error v) => some (.error v)
    | none => none := by
  show pureRun P (s.bind f) = _
  induction s with
  | pure a => rfl
  | program k ih => exact ih P
  | mark m k ih => exact ih
  | halt x => cases x <;> rfl
  | _ => rfl

theorem pureRun_pure {α : Type} (a : α) : pureRun P (pure a : Sem α) = some (.ok a) := rfl
theorem pureRun_pure' {α : Type} (a : α) : pureRun P (Sem.pure a : Sem α) = some (.ok a) := rfl
theorem pureRun_program : pureRun P program = some (.ok P) := rfl
theorem pureRun_stuck {α : Type} (s : String) : pureRun P (stuck s : Sem α) = none := rfl
theorem pureRun_unsupported {α : Type} (u : Unsupported) : pureRun P (unsupported u : Sem α) = none := rfl
theorem pureRun_goPanic {α : Type} (v : Value) : pureRun P (goPanic v : Sem α) = some (.error v) := rfl
theorem pureRun_choose (q : Question) : pureRun P (choose q) = none := rfl
theorem pureRun_underlying (t : TypeId) : pureRun P (underlying t) = (P.underlying t).map .ok := by
  unfold underlying
  rw [pureRun_bind, pureRun_program]
  cases h : P.underlying t <;> simp [h, pureRun_pure, pureRun_stuck]
theorem pureRun_typeInfo (t : TypeId) : pureRun P (typeInfo t) = (P.info? t).map .ok := by
  unfold typeInfo
  rw [pureRun_bind, pureRun_program]
  cases h : P.info? t <;> simp [h, pureRun_pure, pureRun_stuck]
theorem pureRun_sizeOf (t : TypeId) : pureRun P (sizeOf t) = (sizeB P t).map .ok := by
  unfold sizeOf sizeB
  rw [pureRun_bind, pureRun_typeInfo]
  cases h : P.info? t <;> simp [pureRun_pure]
theorem pureRun_isAgg (t : TypeId) : pureRun P (isAgg t) = (isAggB P t).map .ok := by
  unfold isAgg isAggB
  rw [pureRun_bind, pureRun_underlying]
  cases h : P.underlying t with
  | none => simp
  | some d => cases d <;> simp [pureRun_pure]

theorem VRs.extract {ρ : Rho} {l l' : List Value} (h : VRs ρ l l') (a b : Nat) : VRs ρ ((l.drop a).take (b - a)) ((l'.drop a).take (b - a)) := (h.drop a).take _

/-- A part of a struct or an array. -/
theorem part_par {ρ : Rho} {t : TypeId} {cs cs' : Array Value} {off : Nat} {v : Value} (hc : VRs ρ cs.toList cs'.toList) (h : pureRun P (part t cs off) = some (.ok v)) :
    ∃ v', pureRun P (part t cs' off) = some (.ok v') ∧ VR ρ v v' := by
  unfold part at h ⊢
  rw [pureRun_bind, pureRun_isAgg] at h ⊢
  cases ha : isAggB P t with
  | none => simp [ha] at h
  | some b =>
    simp only [ha, Option.map_some] at h ⊢
    cases b with
    | true =>
      simp only [if_true] at h ⊢
      rw [pureRun_bind, pureRun_sizeOf] at h ⊢
      cases hn : sizeB P t with
      | none => simp [hn] at h
      | some n =>
        simp only [hn, Option.map_some, pureRun_pure, Option.some.injEq, Except.ok.injEq] at h ⊢
        subst h
        refine ⟨_, rfl, ?_⟩
        have e := hc.extract off (off + n)
        have e1 : ∀ x : Array Value, x.extract off (off + n) = ⟨(x.toList.drop off).take (off + n - off)⟩ := fun x => by
          apply Array.ext'; simp [Array.toList_extract, List.extract_eq_take_drop]
        rw [e1, e1]
        exact .agg _ _ e.len e.at_
    | false =>
      simp only [Bool.false_eq_true, if_false] at h ⊢
      cases hv : cs[off]? with
      | none => simp [hv, pureRun_stuck] at h
      | some u =>
        obtain ⟨u', h1, h2⟩ := hc.get (i := off) (by simpa using hv)
        have h1' : cs'[off]? = some u' := by simpa using h1
        simp only [hv, h1', pureRun_pure, Option.some.injEq, Except.ok.injEq] at h ⊢
        subst h
        exact ⟨_, rfl, h2⟩

theorem VR.agg_inv {ρ : Rho} {cs : Array Value} {v' : Value} (h : VR ρ (.agg cs) v') : ∃ cs', v' = .agg cs' ∧ VRs ρ cs.toList cs'.toList := by
  cases h with
  | agg l l' h1 h2 => exact ⟨⟨l'⟩, rfl, h1, h2⟩
theorem VR.tuple_inv {ρ : Rho} {cs : Array Value} {v' : Value} (h : VR ρ (.tuple cs) v') : ∃ cs', v' = .tuple cs' ∧ VRs ρ cs.toList cs'.toList := by
  cases h with
  | tuple l l' h1 h2 => exact ⟨⟨l'⟩, rfl, h1, h2⟩
theorem VR.int_inv {ρ : Rho} {k : IntKind} {n : Int} {v' : Value} (h : VR ρ (.int k n) v') : v' = .int k n := by cases h; rfl
theorem VR.bool_inv {ρ : Rho} {b : Bool} {v' : Value} (h : VR ρ (.bool b) v') : v' = .bool b := by cases h; rfl
theorem VR.string_inv {ρ : Rho} {b : ByteArray} {v' : Value} (h : VR ρ (.string b) v') : v' = .string b := by cases h; rfl

theorem field_par {ρ : Rho} {t : TypeId} {x x' v : Value} {f : Nat} (hx : VR ρ x x') (h : pureRun P (Instr.field t x f) = some (.ok v)) :
    ∃ v', pureRun P (Instr.field t x' f) = some (.ok v') ∧ VR ρ v v' := by
  unfold Instr.field at h ⊢
  rw [pureRun_bind, pureRun_underlying] at h ⊢
  cases hu : P.underlying t with
  | none => simp [hu] at h
  | some d =>
    simp only [hu, Option.map_some] at h ⊢
    cases d <;> simp only [pureRun_stuck] at h <;> try contradiction
    rename_i fields
    simp only at h ⊢
    cases hf : fields[f]? with
    | none => simp [hf, pureRun_stuck] at h
    | some fd =>
      simp only [hf] at h ⊢
      cases x <;> simp only [asAgg, pureRun_bind, pureRun_stuck, pureRun_pure] at h <;> try contradiction
      obtain ⟨cs', rfl, hcs⟩ := hx.agg_inv
      simp only [asAgg, pureRun_bind, pureRun_pure]
      exact part_par hcs h

theorem index_par {ρ : Rho} {t : TypeId} {cs : Array Value} {x' i v : Value} (hx : VR ρ (.agg cs) x') (hi : ∃ k n, i = .int k n) (h : pureRun P (Instr.index t (.agg cs) i) = some (.ok v)) :
    ∃ v', pureRun P (Instr.index t x' i) = some (.ok v') ∧ VR ρ v v' := by
  obtain ⟨k, n, rfl⟩ := hi
  obtain ⟨cs', rfl, hcs⟩ := hx.agg_inv
  unfold Instr.index at h ⊢
  simp only [asIntOf, pureRun_bind, pureRun_pure, pureRun_underlying] at h ⊢
  cases hu : P.underlying t with
  | none => simp [hu] at h
  | some d =>
    simp only [hu, Option.map_some] at h ⊢
    cases d <;> simp only [pureRun_stuck] at h <;> try contradiction
    rename_i len elem
    simp only at h ⊢
    split at h
    · rename_i hb
      rw [if_pos hb]
      rw [pureRun_bind, pureRun_sizeOf] at h ⊢
      cases hn : sizeB P elem with
      | none => simp [hn] at h
      | some n =>
        simp only [hn, Option.map_some] at h ⊢
        exact part_par hcs h
    · exfalso
      simp only [boundsPanic] at h
      split at h <;> simp [pureRun_bind, runtimePanic, pureRun_program, pureRun_goPanic, Functor.map] at h
      all_goals (first | contradiction | (revert h; simp [pureRun_bind, pureRun_choose, Sem.bind, choose, pureRun]))

theorem extract_par {ρ : Rho} {x x' v : Value} {i : Nat} (hx : VR ρ x x') (h : pureRun P (Instr.extract x i) = some (.ok v)) :
    ∃ v', pureRun P (Instr.extract x' i) = some (.ok v') ∧ VR ρ v v' := by
  cases x <;> simp only [Instr.extract, pureRun_stuck] at h <;> try contradiction
  rename_i vs
  obtain ⟨vs', rfl, hvs⟩ := hx.tuple_inv
  simp only [Instr.extract] at h ⊢
  cases hv : vs[i]? with
  | none => simp [hv, pureRun_stuck] at h
  | some u =>
    obtain ⟨u', h1, h2⟩ := hvs.get (i := i) (by simpa using hv)
    have h1' : vs'[i]? = some u' := by simpa using h1
    simp only [hv, h1', pureRun_pure, Option.some.injEq, Except.ok.injEq] at h ⊢
    subst h
    exact ⟨_, rfl, h2⟩

theorem iface_par {ρ : Rho} {t : TypeId} {x x' v : Value} (hx : VR ρ x x') (h : pureRun P (Instr.makeInterface t x) = some (.ok v)) :
    ∃ v', pureRun P (Instr.makeInterface t x') = some (.ok v') ∧ VR ρ v v' := by
  unfold Instr.makeInterface at h ⊢
  rw [pureRun_bind, pureRun_underlying] at h ⊢
  cases hu : P.underlying t with
  | none => simp [hu] at h
  | some d =>
    simp only [hu, Option.map_some] at h ⊢
    cases d <;> simp only [pureRun_stuck, pureRun_pure, Option.some.injEq, Except.ok.injEq] at h ⊢ <;> first | contradiction | (subst h; exact ⟨_, rfl, .iface t hx⟩)

theorem VRs.set {ρ : Rho} {l l' : List Value} (h : VRs ρ l l') (i : Nat) {v v' : Value} (hv : VR ρ v v') : VRs ρ (l.set i v) (l'.set i v') := by
  refine ⟨by simp [h.len], fun j a a' h1 h2 => ?_⟩
  rw [List.getElem?_set] at h1 h2
  by_cases e : i = j
  · subst e
    simp only [if_true] at h1 h2
    split at h1 <;> split at h2 <;> simp_all
  · rw [if_neg e] at h1 h2
    exact h.at_ j a a' h1 h2

theorem foldl_set_par {ρ : Rho} (off : Nat) : ∀ (l l' : List Value) (k : Nat) (cs cs' : Array Value), VRs ρ l l' → VRs ρ cs.toList cs'.toList →
    VRs ρ ((l.zipIdx k).foldl (fun (cs : Array Value) (c : Value × Nat) => cs.setIfInBounds (off + c.2) c.1) cs).toList ((l'.zipIdx k).foldl (fun (cs : Array Value) (c : Value × Nat) => cs.setIfInBounds (off + c.2) c.1) cs').toList := by
  intro l
  induction l with
  | nil =>
    intro l' k cs cs' hl hc
    cases l' with
    | nil => simpa using hc
    | cons x l' => have := hl.len; simp at this
  | cons v l ih =>
    intro l' k cs cs' hl hc
    cases l' with
    | nil => have := hl.len; simp at this
    | cons v' l' =>
      simp only [List.zipIdx_cons, List.foldl_cons]
      exact ih l' (k + 1) _ _ hl.tail (by simpa using hc.set (off + k) hl.head)

theorem fill_par {ρ : Rho} (place : Nat → Option (Nat × Nat)) : ∀ (ps ps' : List (Nat × Value)) (cs cs' out : Array Value), ps.length = ps'.length →
    (∀ (i : Nat) p p', ps[i]? = some p → ps'[i]? = some p' → p.1 = p'.1 ∧ VR ρ p.2 p'.2) → VRs ρ cs.toList cs'.toList → Instr.fill place cs ps = some out →
    ∃ out', Instr.fill place cs' ps' = some out' ∧ VRs ρ out.toList out'.toList := by
  intro ps
  induction ps with
  | nil =>
    intro ps' cs cs' out hl hp hc h
    cases ps' with
    | nil => simp only [Instr.fill, Option.some.injEq] at h ⊢; subst h; exact ⟨_, rfl, hc⟩
    | cons x l => simp at hl
  | cons p ps ih =>
    intro ps' cs cs' out hl hp hc h
    cases ps' with
    | nil => simp at hl
    | cons p' ps' =>
      obtain ⟨i, v⟩ := p
      obtain ⟨i', v'⟩ := p'
      obtain ⟨e, hv⟩ := hp 0 _ _ rfl rfl
      simp only at e hv; subst e
      have hvc := hv.cells
      have hsz : v'.cells.size = v.cells.size := by have := hvc.len; simpa using this.symm
      have hcs : cs'.size = cs.size := by have := hc.len; simpa using this.symm
      simp only [Instr.fill, hsz, hcs] at h ⊢
      cases hpl : place i with
      | none => simp [hpl] at h
      | some os =>
        obtain ⟨off, size⟩ := os
        simp only [hpl] at h ⊢
        split at h
        · cases h
        · rename_i hne
          rw [if_neg hne]
          refine ih ps' _ _ out (by simpa using hl) (fun j p p' h1 h2 => hp (j + 1) p p' (by simpa using h1) (by simpa using h2)) ?_ h
          have := foldl_set_par (ρ := ρ) off v.cells.toList v'.cells.toList 0 cs cs' hvc hc
          rw [← Array.foldl_toList, ← Array.foldl_toList, Array.toList_zipIdx, Array.toList_zipIdx]
          exact this

theorem build_par {ρ : Rho} {t : TypeId} {ps ps' : Array (Nat × Value)} {v : Value} (hl : ps.toList.length = ps'.toList.length)
    (hp : ∀ (i : Nat) p p', ps.toList[i]? = some p → ps'.toList[i]? = some p' → p.1 = p'.1 ∧ VR ρ p.2 p'.2) (_ : ∀ z, zeroB P t = some z → True) (hzf : (zeroB P t).isSome = true)
    (h : pureRun P (Instr.build t ps) = some (.ok v)) : ∃ v', pureRun P (Instr.build t ps') = some (.ok v') ∧ VR ρ v v' := by
  obtain ⟨z, hz⟩ := Option.isSome_iff_exists.1 hzf
  have hpz : pureRun P (zeroValue t) = some (.ok z) ∧ flat z = true := by
    unfold zeroB at hz
    cases hi : P.info? t with
    | none => simp [hi] at hz
    | some i =>
      simp only [hi] at hz
      cases hzz : i.zero with
      | none => simp [hzz] at hz
      | some z' =>
        simp only [hzz] at hz
        split at hz
        · injection hz with hz; subst hz
          exact ⟨by simp [zeroValue, pureRun_bind, pureRun_typeInfo, hi, hzz, pureRun_pure], by assumption⟩
        · cases hz
  have hzc : VRs ρ z.cells.toList z.cells.toList := VRs.of_flatL ρ (flatL_cells hpz.2)
  unfold Instr.build at h ⊢
  simp only [pureRun_bind, hpz.1, pureRun_underlying] at h ⊢
  cases hu : P.underlying t with
  | none => simp [hu] at h
  | some d =>
    simp only [hu, Option.map_some] at h ⊢
    cases d <;> simp only [pureRun_stuck] at h <;> try contradiction
    · -- array
      rename_i len elem
      simp only [pureRun_bind, pureRun_sizeOf] at h ⊢
      cases hn : sizeB P elem with
      | none => simp [hn] at h
      | some n =>
        simp only [hn, Option.map_some] at h ⊢
        cases hf : Instr.fill (fun i => some (i * n, n)) z.cells ps.toList with
        | none => simp [hf, pureRun_stuck] at h
        | some out =>
          obtain ⟨out', h1, h2⟩ := fill_par (ρ := ρ) _ _ _ _ _ _ hl hp hzc hf
          simp only [hf, h1, pureRun_pure, Option.some.injEq, Except.ok.injEq] at h ⊢
          subst h
          exact ⟨_, rfl, .agg _ _ h2.len h2.at_⟩
    · -- struct
      rename_i fields
      simp only [pureRun_bind, bind_pure_comp] at h ⊢
      generalize pureRun P (Array.mapM (fun (f : Field) => Prod.mk f.offset <$> sizeOf f.type) fields) = m at h ⊢
      cases m with
      | none => simp at h
      | some e =>
        cases e with
        | error u => simp at h
        | ok places =>
          simp only at h ⊢
          cases hf : Instr.fill (fun x => places[x]?) z.cells ps.toList with
          | none => simp [hf, pureRun_stuck] at h
          | some out =>
            obtain ⟨out', h1, h2⟩ := fill_par (ρ := ρ) _ _ _ _ _ _ hl hp hzc hf
            simp only [hf, h1, pureRun_pure, Option.some.injEq, Except.ok.injEq] at h ⊢
            subst h
            exact ⟨_, rfl, .agg _ _ h2.len h2.at_⟩

end Go.Can

namespace Go.Can
open Go
variable {P : Program}

theorem intC_inv {ρ : Rho} {v v' : Value} {i : Int} (hv : VR ρ v v') (h : intC v = some i) : v' = v ∧ ∃ k, v = .int k i := by
  cases v <;> simp [intC] at h
  subst h
  exact ⟨hv.int_inv, _, rfl⟩

theorem bndC_run {y y' n : Nat} {v : Value} (h : bndC y v = some n) (hy : y ≤ y') (code : BoundsCode) (w : World) :
    (Instr.sliceBound v y' code).run P w = .ok n w ∧ n ≤ y ∧ ∃ i, intC v = some i := by
  unfold bndC at h
  cases hi : intC v with
  | none => simp [hi] at h
  | some i =>
    simp only [hi] at h
    split at h
    · rename_i hc
      injection h with h; subst h
      cases v <;> simp [intC] at hi
      subst hi
      refine ⟨?_, by omega, _, rfl⟩
      simp only [Instr.sliceBound, asIntOf, Sem.run_bind, Sem.run_pure, Result.andThen_ok]
      rw [if_pos (by omega)]; rfl
    · cases h

theorem bounds_sound {len cap cap' l h m : Nat} {lo hi mx : Option Value} (hb : boundsC len cap lo hi mx = some (l, h, m)) (hcap : cap ≤ cap') (hlen : len ≤ cap) (sl : Bool) (w : World) :
    ∃ m', (Instr.sliceBounds sl len cap' lo hi mx).run P w = .ok (l, h, m') w ∧ l ≤ h ∧ h ≤ m ∧ m ≤ cap ∧ m ≤ m' ∧ m' ≤ cap' ∧ (mx = none → m = cap ∧ m' = cap') ∧ (mx ≠ none → m' = m) ∧
      (∀ v, lo = some v → ∃ i, intC v = some i) ∧ (∀ v, hi = some v → ∃ i, intC v = some i) ∧ (∀ v, mx = some v → ∃ i, intC v = some i) := by
  unfold boundsC at hb
  split at hb
  · cases hb
  · rename_i m0 hm
    split at hb
    · cases hb
    · rename_i h0 hh
      split at hb
      · cases hb
      · rename_i l0 hl
        injection hb with hb; injection hb with e1 hb; injection hb with e2 e3
        subst e1 e2 e3
        -- the third bound
        obtain ⟨m', r1, r2, r3, r4, r5, r6, r7⟩ : ∃ m', (match mx with
              | some v => Instr.sliceBound v cap' (if sl then .slice3Acap else .slice3Alen)
              | none => pure cap').run P w = .ok m' w ∧ m0 ≤ cap ∧ m0 ≤ m' ∧ m' ≤ cap' ∧ (mx = none → m0 = cap ∧ m' = cap') ∧ (mx ≠ none → m' = m0) ∧ (∀ v, mx = some v → ∃ i, intC v = some i) := by
          cases mx with
          | none => simp only [Option.some.injEq] at hm; subst hm; exact ⟨cap', rfl, Nat.le_refl _, hcap, Nat.le_refl _, fun _ => ⟨rfl, rfl⟩, fun h => absurd rfl h, fun v h => by cases h⟩
          | some v =>
            simp only at hm
            obtain ⟨a, b, c⟩ := bndC_run (P := P) hm hcap (if sl then .slice3Acap else .slice3Alen) w
            exact ⟨m0, a, b, Nat.le_refl _, by omega, fun h => (by cases h), fun _ => rfl, fun u hu => by injection hu with hu; subst hu; exact c⟩
        -- the second
        obtain ⟨q1, q2, q3⟩ : (match hi, mx with
              | some v, some _ => Instr.sliceBound v m' .slice3B
              | some v, none => Instr.sliceBound v m' (if sl then .sliceAcap else .sliceAlen)
              | none, none => pure len
              | none, some _ => stuck "Slice: max without high").run P w = .ok h0 w ∧ h0 ≤ m0 ∧ (∀ v, hi = some v → ∃ i, intC v = some i) := by
          cases hi with
          | none =>
            cases mx with
            | none =>
              simp only [Option.isNone_none, if_true, Option.some.injEq] at hh; subst hh
              exact ⟨rfl, by have := (r5 rfl).1; omega, fun v h => by cases h⟩
            | some u => simp at hh
          | some v =>
            simp only at hh
            cases mx with
            | none =>
              obtain ⟨a, b, c⟩ := bndC_run (P := P) hh r3 (if sl then .sliceAcap else .sliceAlen) w
              exact ⟨a, b, fun u hu => by injection hu with hu; subst hu; exact c⟩
            | some u =>
              obtain ⟨a, b, c⟩ := bndC_run (P := P) hh r3 .slice3B w
              exact ⟨a, b, fun u hu => by injection hu with hu; subst hu; exact c⟩
        obtain ⟨p1, p2, p3⟩ : (match lo with
              | some v => Instr.sliceBound v h0 (if mx.isSome then .slice3C else .sliceB)
              | none => pure 0).run P w = .ok l0 w ∧ l0 ≤ h0 ∧ (∀ v, lo = some v → ∃ i, intC v = some i) := by
          cases lo with
          | none => simp only [Option.some.injEq] at hl; subst hl; exact ⟨rfl, Nat.zero_le _, fun v h => by cases h⟩
          | some v =>
            simp only at hl
            obtain ⟨a, b, c⟩ := bndC_run (P := P) hl (Nat.le_refl _) (if mx.isSome then .slice3C else .sliceB) w
            exact ⟨a, b, fun u hu => by injection hu with hu; subst hu; exact c⟩
        refine ⟨m', ?_, p2, q2, r2, r3, r4, r5, r6, p3, q3, r7⟩
        clear r2 r3 r4 r5 r6 r7 q2 q3 p2 p3 hm hh hl hcap hlen
        unfold Instr.sliceBounds
        cases mx with
        | none =>
          simp only [Sem.run_pure, Result.ok.injEq, and_true] at r1
          subst r1
          cases hi with
          | none =>
            simp only [Sem.run_pure, Result.ok.injEq, and_true] at q1
            subst q1
            cases lo with
            | none => simp only [Sem.run_pure, Result.ok.injEq, and_true] at p1; subst p1; rfl
            | some v => simp only [Sem.run_bind, Sem.run_pure, Result.andThen_ok, p1]
          | some u =>
            cases lo with
            | none => simp only [Sem.run_pure, Result.ok.injEq, and_true] at p1; subst p1; simp only [Sem.run_bind, Sem.run_pure, Result.andThen_ok, q1]
            | some v => simp only [Sem.run_bind, Sem.run_pure, Result.andThen_ok, q1, p1]
        | some z =>
          cases hi with
          | none => simp at q1
          | some u =>
            cases lo with
            | none => simp only [Sem.run_pure, Result.ok.injEq, and_true] at p1; subst p1; simp only [Sem.run_bind, Sem.run_pure, Result.andThen_ok, r1, q1]
            | some v => simp only [Sem.run_bind, Sem.run_pure, Result.andThen_ok, r1, q1, p1]

theorem opt_same {ρ : Rho} {ev ev' : Operand → Value} {o : Option Operand} (he : ∀ x, o = some x → VR ρ (ev x) (ev' x)) (h : ∀ v, o.map ev = some v → ∃ i, intC v = some i) : o.map ev' = o.map ev := by
  cases o with
  | none => rfl
  | some x =>
    obtain ⟨i, hi⟩ := h _ rfl
    simp only [Option.map_some]
    rw [(intC_inv (he x rfl) hi).1]

theorem VR.slice_inv {ρ : Rho} {c off es n k : Nat} {v' : Value} (h : VR ρ (.slice (some ⟨c, off, some es⟩) n k) v') : ∃ rb k' a, ρ c = some rb ∧ v' = .slice (some a) n k' ∧
    (a = ⟨rb.blk, rb.off + off, none⟩ ∨ (k' = 0 ∧ a.block = rb.blk ∧ a.spot = none)) ∧ k ≤ k' ∧ (rb.off + off + k' * es ≤ rb.size ∨ k' = 0) ∧ (rb.exact = true → k' = k) ∧ n ≤ k' := by
  cases h with
  | slice off es n k k' a hc ha h1 h2 h3 h4 => exact ⟨_, k', a, hc, rfl, ha, h1, h2, h3, h4⟩

theorem addr_add (b o n : Nat) : (⟨b, o, none⟩ : Addr).add n = ⟨b, o + n, none⟩ := by unfold Addr.add; split <;> simp_all

/-- How far a readable row reaches in the world's block. -/
theorem Rel.reach {ρ : Rho} {H : Heap} {w : World} (hR : Rel ρ H w) {c : Nat} {rb : RB} {b : Blk} (hc : ρ c = some rb) (hb : H.read c = some b) (hpos : 0 < b.cells.length) : rb.off + b.cells.length ≤ rb.size := by
  obtain ⟨cs, t, fr, r, hv⟩ := hR.readable hc hb
  obtain ⟨v', h1, _⟩ := r.vals (read_some hb).2 (b.cells.length - 1) _ (List.getElem?_eq_getElem (by omega))
  have := (Array.getElem?_eq_some_iff.1 h1).1
  have := r.size
  omega

theorem sliceC_sound {ρ : Rho} {H : Heap} {w : World} {t : TypeId} {x x' v : Value} {lo hi mx : Option Value} (hR : Rel ρ H w) (hx : VR ρ x x')
    (h : sliceC P t x lo hi mx H = some v) : (∃ v', (Instr.sliceAt t x' lo hi mx).run P w = .ok v' w ∧ VR ρ v v') ∧
      (∀ v, lo = some v → ∃ i, intC v = some i) ∧ (∀ v, hi = some v → ∃ i, intC v = some i) ∧ (∀ v, mx = some v → ∃ i, intC v = some i) := by
  unfold sliceC at h
  split at h
  · -- a slice
    rename_i e c off es len cap hu
    obtain ⟨rb, k', a, hc, rfl, ha, hk1, hk2, hk3, hk4⟩ := hx.slice_inv
    split at h
    · rename_i size l hh m hs hb
      split at h
      · rename_i hse
        obtain ⟨rfl, hlc⟩ := hse
        injection h with h; subst h
        obtain ⟨m', r1, r2, r3, r4, r5, r6, r7, r8, r9, r10, r11⟩ := bounds_sound (P := P) hb hk1 hlc true w
        refine ⟨⟨.slice (some (if m' = l then a else a.add (l * size))) (hh - l) (m' - l), ?_, ?_⟩, r9, r10, r11⟩
        · simp only [Instr.sliceAt, Instr.slice, Sem.run_bind, run_underlying hu, Result.andThen_ok, r1, run_sizeB hs, Sem.run_pure]
          by_cases e : m' = l <;> simp [e]
        · have hmul : l * size + (m' - l) * size ≤ k' * size := by
            rw [← Nat.add_mul]; exact Nat.mul_le_mul_right _ (by omega)
          refine .slice _ _ _ _ _ _ hc ?_ (by omega) ?_ (fun he => ?_) (by omega)
          · by_cases e : m' = l
            · rw [if_pos e]
              refine .inr ⟨by omega, ?_⟩
              rcases ha with rfl | ⟨_, h1, h2⟩
              · exact ⟨rfl, rfl⟩
              · exact ⟨h1, h2⟩
            · rw [if_neg e]
              rcases ha with rfl | ⟨h1, _, _⟩
              · left; rw [addr_add, Nat.add_assoc]
              · omega
          · rcases hk2 with h1 | h1
            · left; omega
            · right; omega
          · have := hk3 he
            by_cases hm : mx = none
            · obtain ⟨q1, q2⟩ := r7 hm; omega
            · have := r8 hm; omega
      · cases h
    · cases h
  · -- an array behind a pointer
    rename_i n e c off hu
    obtain ⟨rb, hc, rfl⟩ := hx.ptr_inv
    split at h
    · rename_i size l hh m b hs hb hr
      split at h
      · rename_i hse
        obtain ⟨hs0, hle⟩ := hse
        injection h with h; subst h
        obtain ⟨m', r1, r2, r3, r4, r5, r6, r7, r8, r9, r10, r11⟩ := bounds_sound (P := P) hb (Nat.le_refl n) (Nat.le_refl n) false w
        have hmm : m' = m := by
          by_cases hm : mx = none
          · obtain ⟨q1, q2⟩ := r7 hm; omega
          · exact r8 hm
        subst hmm
        refine ⟨⟨.slice (some (if m' = l then ⟨rb.blk, rb.off + off, none⟩ else (⟨rb.blk, rb.off + off, none⟩ : Addr).add (l * size))) (hh - l) (m' - l), ?_, ?_⟩, r9, r10, r11⟩
        · simp only [Instr.sliceAt, Sem.run_bind, run_underlying hu, Result.andThen_ok, Instr.sureAddr, Sem.run_pure, r1, run_sizeB hs]
        · have hmul : l * size + (m' - l) * size ≤ n * size := by
            rw [← Nat.add_mul]; exact Nat.mul_le_mul_right _ (by omega)
          refine .slice _ _ _ _ _ _ hc ?_ (Nat.le_refl _) ?_ (fun _ => rfl) (by omega)
          · by_cases e : m' = l
            · rw [if_pos e]; exact .inr ⟨by omega, rfl, rfl⟩
            · rw [if_neg e]; left; rw [addr_add, Nat.add_assoc]
          · by_cases e : m' = l
            · right; omega
            · left
              have : 0 < n * size := Nat.mul_pos (by omega) (by omega)
              have := hR.reach hc hr (by omega)
              omega
      · cases h
    · cases h
  · cases h

end Go.Can

namespace Go.Can
open Go
variable {P : Program}

theorem flat_getD {z : Value} (hz : flat z = true) {j : Nat} (hj : j < z.cells.size) : flat (z.cells.getD j undef) = true := by
  have := flatL_cells hz
  refine flatL_at (l := z.cells.toList) (i := j) this ?_
  simp [hj]

theorem zeros_flat {z : Value} (hz : flat z = true) (n : Nat) (h0 : z.cells.size ≠ 0) : flatL ((List.range n).map fun j => z.cells.getD (j % z.cells.size) undef) = true := by
  have : ∀ l : List Nat, flatL (l.map fun j => z.cells.getD (j % z.cells.size) undef) = true := by
    intro l
    induction l with
    | nil => rfl
    | cons x l ih => simp only [List.map_cons, flatL, ih, Bool.and_true]; exact flat_getD hz (Nat.mod_lt _ (by omega))
  exact this _

theorem zeros_real (zc : Array Value) (n : Nat) (h0 : zc.size ≠ 0) : (Array.range n).map (fun j => zc[j % zc.size]!) = ((List.range n).map fun j => zc.getD (j % zc.size) undef).toArray := by
  apply Array.ext'
  simp only [Array.toList_map, Array.toList_range]
  refine List.map_congr_left fun j _ => ?_
  have : j % zc.size < zc.size := Nat.mod_lt _ (by omega)
  simp [Array.getD, this]

theorem sliceElem_inv {t e : TypeId} (h : sliceElem P t = some e) : P.underlying t = some (.slice e) := by
  unfold sliceElem at h
  cases hu : P.underlying t with
  | none => simp [hu] at h
  | some d => cases d <;> simp [hu] at h; subst h; rfl

theorem new_slice_vr {ρ : Rho} {c es len cap k' b size : Nat} {ex : Bool} (hc : ρ c = some ⟨b, 0, size, false, ex⟩) (h1 : cap ≤ k') (h2 : k' * es ≤ size) (h3 : ex = true → k' = cap) (h4 : len ≤ k') :
    VR ρ (.slice (some ⟨c, 0, some es⟩) len cap) (.slice (some ⟨b, 0, none⟩) len k') :=
  .slice 0 es len cap k' _ hc (.inl rfl) h1 (.inl (by simpa using h2)) h3 h4

theorem buildSliceC_sound {ρ : Rho} {H H' : Heap} {w : World} {t : TypeId} {len : Nat} {ps ps' : Array (Nat × Value)} {v : Value} (hR : Rel ρ H w)
    (hl : ps.toList.length = ps'.toList.length) (hp : ∀ (i : Nat) p p', ps.toList[i]? = some p → ps'.toList[i]? = some p' → p.1 = p'.1 ∧ VR ρ p.2 p'.2)
    (h : buildSliceC P t len ps H = some (v, H')) : ∃ v' w' ρ', (Instr.buildSlice t len ps').run P w = .ok v' w' ∧ Post ρ H w ρ' H' w' ∧ VR ρ' v v' := by
  unfold buildSliceC at h
  split at h
  · rename_i e he
    split at h
    · rename_i i z hi hz
      split at h
      · rename_i hc
        obtain ⟨hc1, hc2, hc3⟩ := hc
        split at h
        · rename_i cells hf
          injection h with h; injection h with h1 h2; subst h1 h2
          obtain ⟨hzr, hzf⟩ := run_zeroB hz w
          have hzv : VRs ρ ((List.range (len * i.size)).map fun j => z.cells.getD (j % z.cells.size) undef) ((List.range (len * i.size)).map fun j => z.cells.getD (j % z.cells.size) undef) :=
            VRs.of_flatL ρ (zeros_flat hzf _ (by omega))
          obtain ⟨cells', hf', hcv⟩ := fill_par (ρ := ρ) _ _ _ _ ((List.range (len * i.size)).map fun j => z.cells.getD (j % z.cells.size) undef).toArray _ hl hp hzv hf
          have hsz : cells.size = len * i.size := by
            have : ∀ (l : List (Nat × Value)) (cs out : Array Value), Instr.fill (fun j => some (j * i.size, i.size)) cs l = some out → out.size = cs.size := by
              intro l
              induction l with
              | nil => intro cs out h; simp only [Instr.fill, Option.some.injEq] at h; rw [h]
              | cons p l ih =>
                intro cs out h
                obtain ⟨a, b⟩ := p
                simp only [Instr.fill] at h
                split at h
                · cases h
                · have := ih _ _ h
                  rw [this]
                  have fs : ∀ (m : List (Value × Nat)) (c : Array Value), (m.foldl (fun (cs : Array Value) (x : Value × Nat) => cs.setIfInBounds (a * i.size + x.2) x.1) c).size = c.size := by
                    intro m
                    induction m with
                    | nil => intro c; rfl
                    | cons y m ih2 => intro c; rw [List.foldl_cons, ih2]; simp
                  rw [← Array.foldl_toList]
                  exact fs _ _
            have := this _ _ _ hf
            simpa using this
          have hsz' : cells'.size = cells.size := by have := hcv.len; simpa using this.symm
          have hP := new_sound hR cells.toList e true false cells' (0, 0) (fun j u hu => by
            obtain ⟨u', a1, a2⟩ := hcv.get hu; exact ⟨u', by simpa using a1, a2⟩) ⟨Nat.le_refl _, fun j _ h => by simp at h⟩ (fun _ => by simpa using hsz'.symm)
          refine ⟨.slice (some ⟨w.heap.size, 0, none⟩) len len, _, _, ?_, hP, ?_⟩
          · have hrange : (if len * i.size = 0 then (pure #[] : Sem (Array Value)) else do pure (← zeroValue e).cells).run P w = .ok (if len * i.size = 0 then #[] else z.cells) w := by
              split
              · rfl
              · simp only [Sem.run_bind, hzr, Result.andThen_ok, Sem.run_pure]
            have hz0 : (Array.range (len * i.size)).map (fun j => (if len * i.size = 0 then #[] else z.cells)[j % (if len * i.size = 0 then #[] else z.cells).size]!) = ((List.range (len * i.size)).map fun j => z.cells.getD (j % z.cells.size) undef).toArray := by
              split
              · rename_i h0; simp [h0]
              · exact zeros_real _ _ (by omega)
            unfold Instr.buildSlice
            simp only [Sem.run_bind, run_underlying (sliceElem_inv he), Result.andThen_ok, run_sizeB (show sizeB P e = some i.size by simp [sizeB, hi])]
            rw [if_neg (by omega)]
            by_cases h0 : len * i.size = 0
            · simp only [h0, if_true] at hf' hz0 ⊢
              simp only [Sem.run_bind, Sem.run_pure, Result.andThen_ok]
              rw [show (Array.range 0).map (fun x => (#[] : Array Value)[x % (#[] : Array Value).size]!) = (List.map (fun j => z.cells.getD (j % z.cells.size) undef) (List.range 0)).toArray by simp]
              rw [hf']
              rfl
            · simp only [h0, if_false] at hz0 ⊢
              simp only [Sem.run_bind, hzr, Sem.run_pure, Result.andThen_ok]
              rw [hz0, hf']
              rfl
          · exact new_slice_vr (Rho.add_same _ _ _) (Nat.le_refl _) (by rw [hsz', hsz]; exact Nat.le_refl _) (fun _ => rfl) (Nat.le_refl _)
        · cases h
      · cases h
    · cases h
  · cases h

theorem makeSliceC_sound {ρ : Rho} {H H' : Heap} {w : World} {t : TypeId} {l l' c c' v : Value} (hR : Rel ρ H w) (hl : VR ρ l l') (hc : VR ρ c c')
    (h : makeSliceC P t l c H = some (v, H')) : ∃ v' w' ρ', (Instr.makeSlice t l' c').run P w = .ok v' w' ∧ Post ρ H w ρ' H' w' ∧ VR ρ' v v' := by
  unfold makeSliceC at h
  split at h
  · rename_i e li ci he hli hci
    obtain ⟨rfl, kl, rfl⟩ := intC_inv hl hli
    obtain ⟨rfl, kc, rfl⟩ := intC_inv hc hci
    split at h
    · rename_i i z hi hz
      split at h
      · rename_i hcd
        obtain ⟨h0, h1, h2, h2', h3, h4⟩ := hcd
        injection h with h; injection h with e1 e2; subst e1 e2
        obtain ⟨hzr, hzf⟩ := run_zeroB hz w
        have hzv : VRs ρ ((List.range (ci.toNat * i.size)).map fun j => z.cells.getD (j % z.cells.size) undef) ((List.range (ci.toNat * i.size)).map fun j => z.cells.getD (j % z.cells.size) undef) :=
          VRs.of_flatL ρ (zeros_flat hzf _ (by omega))
        have hP := new_sound hR ((List.range (ci.toNat * i.size)).map fun j => z.cells.getD (j % z.cells.size) undef) e true false
          ((List.range (ci.toNat * i.size)).map fun j => z.cells.getD (j % z.cells.size) undef).toArray (0, 0) (fun j u hu => by
            obtain ⟨u', a1, a2⟩ := hzv.get hu; exact ⟨u', by simpa using a1, a2⟩) ⟨Nat.le_refl _, fun j _ h => by simp at h⟩ (fun _ => by simp)
        refine ⟨.slice (some ⟨w.heap.size, 0, none⟩) li.toNat ci.toNat, _, _, ?_, hP, ?_⟩
        · have wl : IntKind.i64.wrap li = li := by rw [IntKind.wrap_i64]; omega
          have wc : IntKind.i64.wrap ci = ci := by rw [IntKind.wrap_i64]; omega
          unfold Instr.makeSlice
          simp only [Sem.run_bind, run_underlying (sliceElem_inv he), Result.andThen_ok, asInt, asIntOf, Sem.run_pure, run_typeInfoB hi, wl, wc]
          have t1 : ¬ ((decide (ci < 0) || decide ((i.bytes : Int) * ci > 2 ^ 48)) || decide (li < 0) || decide (li > ci)) = true := by
            simp only [Bool.or_eq_true, decide_eq_true_eq, not_or]
            have : (i.bytes : Int) * ci = ci * i.bytes := Int.mul_comm _ _
            refine ⟨⟨⟨by omega, by rw [this]; omega⟩, by omega⟩, by omega⟩
          rw [if_neg t1]
          simp only [Sem.run_bind, run_askRoom, Result.andThen_ok, run_sizeB (show sizeB P e = some i.size by simp [sizeB, hi])]
          by_cases hn : ci.toNat * i.size = 0
          · simp only [hn, if_true, Sem.run_bind, Sem.run_pure, Result.andThen_ok]
            rw [show (Array.range 0).map (fun x => (#[] : Array Value)[x % (#[] : Array Value).size]!) = (List.map (fun j => z.cells.getD (j % z.cells.size) undef) (List.range 0)).toArray by simp]
            rfl
          · simp only [hn, if_false, Sem.run_bind, Sem.run_pure, Result.andThen_ok, hzr]
            rw [zeros_real _ _ (by omega)]
            rfl
        · exact new_slice_vr (Rho.add_same _ _ _) (Nat.le_refl _) (by simp) (fun _ => rfl) (by omega)
      · cases h
    · cases h
  · cases h

/-- What is read of the appended, on the world's side. -/
theorem firstC_sound {ρ : Rho} {H : Heap} {w : World} {size n m : Nat} {x x' : Value} {l : List Value} (hR : Rel ρ H w) (hx : VR ρ x x') (hn : lenC x = some m) (hm : n ≤ m) (h : firstC size n x H = some l) :
    (Builtin.lenOf x').run P w = .ok m w ∧ (n = 0 ∨ ∃ l' : List Value, (∀ w1 : World, w1.heap = w.heap → (Builtin.firstCells size n x').run P w1 = .ok l'.toArray w1) ∧ VRs ρ l l' ∧ l.length = n * size) := by
  unfold firstC at h
  split at h
  · rename_i c off es len cap
    simp only [lenC, Option.some.injEq] at hn; subst hn
    obtain ⟨rb, k', a, hc, rfl, ha, hk1, hk2, hk3, hk4⟩ := hx.slice_inv
    refine ⟨rfl, ?_⟩
    rcases Nat.eq_zero_or_pos n with h0 | h0
    · exact .inl h0
    · right
      rcases ha with rfl | ⟨h1, _, _⟩
      · split at h
        · rename_i b hb
          split at h
          · rename_i hcd
            obtain ⟨rfl, hle⟩ := hcd
            injection h with h; subst h
            obtain ⟨l', e1, e2, e3⟩ := hR.cellsAt hc hb off (n * es) hle
            refine ⟨l', fun w1 hw1 => ?_, e2, by simp; omega⟩
            have := run_loadCells_list (P := P) w1 ⟨rb.blk, rb.off + off, none⟩ l' (fun j u hj => by
              rw [addr_add]
              have := e3 j u hj
              simpa only [World.cell?, hw1] using this)
            rw [e1] at this
            exact this
          · cases h
        · cases h
      · omega
  · split at h
    · rename_i h0
      injection h with h; subst h
      simp only [lenC, Option.some.injEq] at hn; subst hn
      cases hx
      exact ⟨rfl, .inl (by omega)⟩
    · cases h
  · rename_i s
    split at h
    · rename_i hcd
      obtain ⟨rfl, hle⟩ := hcd
      simp only [lenC, Option.some.injEq] at hn; subst hn
      injection h with h; subst h
      obtain rfl := hx.string_inv
      refine ⟨rfl, .inr ⟨((s.extract 0 n).data.map fun b => Value.int .u8 b.toNat).toList, fun w1 _ => rfl, ?_, ?_⟩⟩
      · rw [Array.toList_map]
        exact VRs.map _ _ _ fun b _ => .int _ _
      · have : (s.extract 0 n).data.toList.length = (s.extract 0 n).size := by simp
        simp only [List.length_map, this, ByteArray.size_extract]; omega
    · cases h
  · cases h

/-- Where a slice is full, an append makes a new row. -/
theorem run_grows {sT e ty : TypeId} {i : TypeInfo} {z : Value} {w : World} {x : Value} {base : Option Addr} {sLen sCap n : Nat} {old new : List Value} {at_ : Array TypeId} {ar : Array Value}
    (h0 : at_[0]? = some sT) (hu : P.underlying sT = some (.slice e)) (hi : P.info? e = some i) (hz : zeroB P e = some z) (hnz : notInt P at_[1]? = true)
    (a0 : ar[0]? = some (.slice base sLen sCap)) (a1 : ar[1]? = some x) (hn : (Builtin.lenOf x).run P w = .ok n w) (hgt : ¬ sLen + n ≤ sCap) (hb0 : i.bytes ≠ 0) (hb1 : i.bytes ≤ 2 ^ 20)
    (hb : (sLen + n) * i.bytes ≤ 2 ^ 46) (hold : (Builtin.firstCells i.size sLen (.slice base sLen sCap)).run P w.drew = .ok old.toArray w.drew)
    (hnew : (Builtin.firstCells i.size n x).run P w.drew = .ok new.toArray w.drew) :
    ∃ cap, sLen + n ≤ cap ∧ (Builtin.append_ at_ ty ar).run P w = .ok (.slice (some ⟨w.heap.size, 0, none⟩) (sLen + n) cap)
      (w.drew.alloc (.cells (old.toArray ++ new.toArray ++ Builtin.zeroCells z.cells (cap - (sLen + n))) e)) := by
  have hcapb : Builtin.nextslicecap (sLen + n) sCap * i.bytes ≤ 2 ^ 48 := by
    have : Builtin.nextslicecap (sLen + n) sCap ≤ 2 * (sLen + n) + 192 := by
      unfold Builtin.nextslicecap
      split
      · omega
      · split
        · omega
        · simp only [Builtin.growBy]
          split
          · omega
          · split
            · omega
            · split
              · omega
              · split <;> omega
    calc Builtin.nextslicecap (sLen + n) sCap * i.bytes ≤ (2 * (sLen + n) + 192) * i.bytes := Nat.mul_le_mul_right _ this
      _ = 2 * ((sLen + n) * i.bytes) + 192 * i.bytes := by rw [Nat.add_mul, Nat.mul_assoc]
      _ ≤ 2 ^ 48 := by omega
  obtain ⟨hzr, _⟩ := run_zeroB hz w.drew
  have hn1 : ¬ (sLen + n ≤ sCap) := hgt
  have h48' : ¬ (2 ^ 48 < Builtin.nextslicecap (sLen + n) sCap * i.bytes) := by omega
  have hsz := run_sizeB (P := P) (show sizeB P e = some i.size by simp [sizeB, hi])
  have hti := run_typeInfoB (P := P) hi
  have hch : (choose (.appendCap (sLen + n) sCap e)).run P w = .ok (Question.cut (.appendCap (sLen + n) sCap e) (w.tape w.drawn (.appendCap (sLen + n) sCap e))) w.drew := by
    rw [run_choose, if_neg (by simp [Question.forced])]; rfl
  have hfin : ∀ c, (newRow e (old.toArray ++ new.toArray ++ Builtin.zeroCells z.cells (c - (sLen + n)))).run P w.drew =
      .ok ⟨w.heap.size, 0, none⟩ (w.drew.alloc (.cells (old.toArray ++ new.toArray ++ Builtin.zeroCells z.cells (c - (sLen + n))) e)) := fun c => rfl
  refine ⟨Question.cut (.appendCap (sLen + n) sCap e) (w.tape w.drawn (.appendCap (sLen + n) sCap e)), by simp [Question.cut], ?_⟩
  unfold Builtin.append_
  cases h1 : at_[1]? with
  | none =>
    simp only [h0, a0, a1, Sem.run_bind, run_underlying hu, Result.andThen_ok, hsz, hti, Sem.run_pure, Bool.false_eq_true, if_false, hn, hn1, false_or, hb0, and_false, gt_iff_lt, h48', hch,
      run_askRoom, hold, Bool.not_false, if_true, hnew, hzr, hfin]
  | some xt =>
    simp only [notInt, h1] at hnz
    cases hux : P.underlying xt with
    | none => simp [hux] at hnz
    | some d =>
      cases d <;> first
        | (simp [hux] at hnz; done)
        | simp only [h0, a0, a1, Sem.run_bind, run_underlying hu, run_underlying hux, Result.andThen_ok, hsz, hti, Sem.run_pure, Bool.false_eq_true, if_false, hn, hn1, false_or, hb0, and_false, gt_iff_lt, h48', hch,
            run_askRoom, hold, Bool.not_false, if_true, hnew, hzr, hfin]

end Go.Can

namespace Go.Can
open Go
variable {P : Program}

theorem run_fits {sT e ty : TypeId} {i : TypeInfo} {w w' : World} {x : Value} {base : Option Addr} {sLen sCap n : Nat} {new : List Value} {at_ : Array TypeId} {ar : Array Value}
    (h0 : at_[0]? = some sT) (hu : P.underlying sT = some (.slice e)) (hi : P.info? e = some i) (hnz : notInt P at_[1]? = true)
    (a0 : ar[0]? = some (.slice base sLen sCap)) (a1 : ar[1]? = some x) (hn : (Builtin.lenOf x).run P w = .ok n w) (hle : sLen + n ≤ sCap)
    (hnew : (Builtin.firstCells i.size n x).run P w = .ok new.toArray w) (hst : ∀ a, base = some a → (storeCells (a.add (sLen * i.size)) new).run P w = .ok () w') (hst0 : base = none → w' = w) :
    (Builtin.append_ at_ ty ar).run P w = .ok (.slice base (sLen + n) sCap) w' := by
  have hsz := run_sizeB (P := P) (show sizeB P e = some i.size by simp [sizeB, hi])
  unfold Builtin.append_
  cases h1 : at_[1]? with
  | none =>
    cases base with
    | none => simp only [h0, a0, a1, Sem.run_bind, run_underlying hu, Result.andThen_ok, hsz, Sem.run_pure, Bool.false_eq_true, if_false, hn, hle, if_true, Bool.not_false, hnew, hst0 rfl]
    | some a => simp only [h0, a0, a1, Sem.run_bind, run_underlying hu, Result.andThen_ok, hsz, Sem.run_pure, Bool.false_eq_true, if_false, hn, hle, if_true, Bool.not_false, hnew, hst a rfl]
  | some xt =>
    simp only [notInt, h1] at hnz
    cases hux : P.underlying xt with
    | none => simp [hux] at hnz
    | some d =>
      cases base with
      | none =>
        cases d <;> first
          | (simp [hux] at hnz; done)
          | simp only [h0, a0, a1, Sem.run_bind, run_underlying hu, run_underlying hux, Result.andThen_ok, hsz, Sem.run_pure, Bool.false_eq_true, if_false, hn, hle, if_true, Bool.not_false, hnew, hst0 rfl]
      | some a =>
        cases d <;> first
          | (simp [hux] at hnz; done)
          | simp only [h0, a0, a1, Sem.run_bind, run_underlying hu, run_underlying hux, Result.andThen_ok, hsz, Sem.run_pure, Bool.false_eq_true, if_false, hn, hle, if_true, Bool.not_false, hnew, hst a rfl]

theorem lenC_run {ρ : Rho} {x x' : Value} {n : Nat} (hx : VR ρ x x') (h : lenC x = some n) (w : World) : (Builtin.lenOf x').run P w = .ok n w ∧ (∀ size, n = 0 → (Builtin.firstCells size 0 x').run P w = .ok #[] w) := by
  cases x with
  | slice a len cap =>
    simp only [lenC, Option.some.injEq] at h; subst h
    cases hx with
    | sliceNone => exact ⟨rfl, fun _ _ => rfl⟩
    | slice => exact ⟨rfl, fun size _ => by simp only [Builtin.firstCells, Nat.zero_mul]; rfl⟩
  | string s =>
    simp only [lenC, Option.some.injEq] at h; subst h
    obtain rfl := hx.string_inv
    refine ⟨rfl, fun _ h => ?_⟩
    have h0 : (s.extract 0 0).data = #[] := Array.eq_empty_of_size_eq_zero (by have h := @ByteArray.size_extract s 0 0; simp only [Nat.zero_min, Nat.sub_self] at h; exact h)
    simp only [Builtin.firstCells, Sem.run_pure, h0]
    simp
  | _ => simp [lenC] at h

theorem zeroCells_size (zc : Array Value) (n : Nat) : (Builtin.zeroCells zc n).size = n * zc.size := by simp [Builtin.zeroCells]

theorem appendC_sound {ρ : Rho} {H H' : Heap} {w : World} {ty : TypeId} {s s' x x' v : Value} {at_ : Array TypeId} {ar : Array Value} (hR : Rel ρ H w) (hs : VR ρ s s') (hx : VR ρ x x')
    (a0 : ar[0]? = some s') (a1 : ar[1]? = some x') (h : appendC P at_ s x H = some (v, H')) :
    ∃ v' w' ρ', (Builtin.append_ at_ ty ar).run P w = .ok v' w' ∧ Post ρ H w ρ' H' w' ∧ VR ρ' v v' := by
  unfold appendC at h
  split at h
  · cases h
  · rename_i sT h0
    split at h
    · cases h
    · rename_i e he
      have hu := sliceElem_inv he
      split at h
      · cases h
      · rename_i i hi
        split at h
        · cases h
        · rename_i hcd
          simp only [not_or, Nat.not_lt, Bool.not_eq_false] at hcd
          obtain ⟨c1, c2, c3, c4, c5⟩ := hcd
          simp only [ne_eq, Decidable.not_not] at c5
          obtain ⟨z, hz, hzs⟩ : ∃ z, zeroB P e = some z ∧ z.cells.size = i.size := by
            cases hz : zeroB P e with
            | none => simp [hz] at c5
            | some z => exact ⟨z, rfl, by simpa [hz] using c5⟩
          split at h
          · cases h
          · rename_i n hn
            obtain ⟨hlen, hfz⟩ := lenC_run (P := P) hx hn w
            split at h
            · -- nil
              rename_i len cap
              obtain rfl : s' = .slice none len cap := by cases hs; rfl
              split at h
              · cases h
              · rename_i hlc
                simp only [not_or, ne_eq, Decidable.not_not] at hlc
                obtain ⟨rfl, rfl⟩ := hlc
                split at h
                · rename_i hn0
                  subst hn0
                  injection h with h; injection h with h1 h2; subst h1 h2
                  refine ⟨_, w, ρ, run_fits (base := none) (w' := w) h0 hu hi c4 a0 a1 hlen (by omega) (new := []) (hfz _ rfl) (fun a h => by cases h) (fun _ => rfl), Post.refl hR, .sliceNone 0 0⟩
                · rename_i hn0
                  split at h
                  · cases h
                  · rename_i hb
                    split at h
                    · cases h
                    · rename_i new hf
                      injection h with h; injection h with h1 h2; subst h1 h2
                      obtain ⟨_, h3⟩ := firstC_sound (P := P) hR hx hn (Nat.le_refl _) hf
                      rcases h3 with h3 | ⟨l', q1, q2, q3⟩
                      · exact absurd h3 hn0
                      · obtain ⟨cap, p1, p2⟩ := run_grows (P := P) (ty := ty) (old := []) h0 hu hi hz c4 a0 a1 hlen (by omega) c2 c3 (by rw [Nat.zero_add]; omega) rfl (q1 w.drew rfl)
                        have hd := Post.drew hR (w.drawn + 1)
                        have hsz : ((([] : List Value).toArray ++ l'.toArray ++ Builtin.zeroCells z.cells (cap - (0 + n))) : Array Value).size = cap * i.size := by
                          simp only [Array.size_append, zeroCells_size, hzs, List.size_toArray, List.length_nil]
                          rw [← q2.len, q3, Nat.zero_add, Nat.zero_add, ← Nat.add_mul]; congr 1; omega
                        have hP := new_sound hd.rel new e false false (([] : List Value).toArray ++ l'.toArray ++ Builtin.zeroCells z.cells (cap - (0 + n))) (0, 0) (fun j u hu => by
                          obtain ⟨u', b1, b2⟩ := q2.get hu
                          have := (List.getElem?_eq_some_iff.1 b1).1
                          exact ⟨u', by rw [Array.getElem?_append_left (by simp; omega)]; simpa using b1, b2⟩) ⟨Nat.le_refl _, fun j _ h => by simp at h⟩ (fun h => by cases h)
                        refine ⟨_, _, _, p2, hd.trans hP, ?_⟩
                        have := new_slice_vr (ρ := ρ.add H.next ⟨w.heap.size, 0, cap * i.size, false, false⟩) (c := H.next) (es := i.size) (len := n) (cap := n) (k' := cap) (b := w.heap.size) (size := cap * i.size) (ex := false)
                          (Rho.add_same _ _ _) (by omega) (Nat.le_refl _) (fun h => by cases h) (by omega)
                        rw [hsz]
                        simpa using this
            · -- a row
              rename_i c off es len cap
              obtain ⟨rb, k', a, hc, rfl, ha, hk1, hk2, hk3, hk4⟩ := hs.slice_inv
              split at h
              · cases h
              · rename_i hes
                simp only [ne_eq, Decidable.not_not] at hes
                subst hes
                split at h
                · rename_i hn0
                  subst hn0
                  injection h with h; injection h with h1 h2; subst h1 h2
                  refine ⟨_, w, ρ, run_fits (base := some a) (w' := w) h0 hu hi c4 a0 a1 hlen (by omega) (new := []) (hfz _ rfl) (fun a _ => rfl) (fun h => by cases h), Post.refl hR, hs⟩
                · rename_i hn0
                  split at h
                  · cases h
                  · rename_i new hf
                    obtain ⟨_, h3⟩ := firstC_sound (P := P) hR hx hn (Nat.le_refl _) hf
                    rcases h3 with h3 | ⟨l', q1, q2, q3⟩
                    · exact absurd h3 hn0
                    · split at h
                      · -- there is room for sure
                        rename_i hroom
                        split at h
                        · rename_i H1 hw
                          injection h with h; injection h with h1 h2; subst h1 h2
                          obtain ⟨w1, w2, w3, w4⟩ := wr_sound hR hc hw q2
                          have ha' : a = ⟨rb.blk, rb.off + off, none⟩ := by
                            rcases ha with h | ⟨h, _⟩
                            · exact h
                            · omega
                          subst ha'
                          have hst := run_storeCells_cells (P := P) rb.blk (rb.off + (off + len * i.size)) l' 0 w (by simpa using w1) (by simpa using w2) (fun u hu => w3 u hu)
                          refine ⟨_, _, ρ, run_fits (base := some _) (w' := w.setCells rb.blk (rb.off + (off + len * i.size)) l') h0 hu hi c4 a0 a1 hlen (by omega) (new := l') (q1 w rfl) (fun a ha => ?_) (fun h => by cases h), w4, ?_⟩
                          · injection ha with ha; subst ha
                            rw [addr_add, Nat.add_assoc]
                            simpa using hst
                          · exact .slice _ _ _ _ _ _ hc (.inl rfl) hk1 hk2 hk3 (by omega)
                        · cases h
                      · rename_i hroom
                        split at h
                        · cases h
                        · rename_i hb
                          split at h
                          · cases h
                          · rename_i b hrb
                            obtain ⟨hgc, hbl⟩ := read_some hrb
                            obtain ⟨cs, t, fr, r, _⟩ := hR.readable hc hrb
                            -- what the world's slice holds
                            have oldrun : ∀ k, off + len * i.size ≤ b.cells.length → ∃ old : List Value, (Builtin.firstCells i.size len (.slice (some a) len k)).run P w.drew = .ok old.toArray w.drew ∧ VRs ρ ((b.cells.drop off).take (len * i.size)) old ∧ old.length = len * i.size := by
                              intro k hle
                              rcases Nat.eq_zero_or_pos len with h0 | h0
                              · subst h0
                                exact ⟨[], by simp only [Builtin.firstCells, Nat.zero_mul]; rfl, by simpa using VRs.nil ρ, by simp⟩
                              · have ha' : a = ⟨rb.blk, rb.off + off, none⟩ := by
                                  rcases ha with h | ⟨h, _⟩
                                  · exact h
                                  · omega
                                subst ha'
                                obtain ⟨l, e1, e2, e3⟩ := hR.cellsAt hc hrb off (len * i.size) hle
                                refine ⟨l, ?_, e2, e1⟩
                                have := run_loadCells_list (P := P) w.drew ⟨rb.blk, rb.off + off, none⟩ l (fun j u hj => by
                                  rw [addr_add]; exact e3 j u hj)
                                rw [e1] at this
                                exact this
                            have moved : ¬ len + n ≤ k' → off + len * i.size ≤ b.cells.length → ∃ (old : List Value) (cap : Nat), len + n ≤ cap ∧ VRs ρ ((b.cells.drop off).take (len * i.size) ++ new) (old ++ l') ∧
                                (Builtin.append_ at_ ty ar).run P w = .ok (.slice (some ⟨w.heap.size, 0, none⟩) (len + n) cap) (w.drew.alloc (.cells (old.toArray ++ l'.toArray ++ Builtin.zeroCells z.cells (cap - (len + n))) e)) ∧
                                (old.toArray ++ l'.toArray ++ Builtin.zeroCells z.cells (cap - (len + n))).size = cap * i.size := by
                              intro hgt hle
                              obtain ⟨old, o1, o2, o3⟩ := oldrun k' hle
                              obtain ⟨cap, p1, p2⟩ := run_grows (P := P) (ty := ty) h0 hu hi hz c4 a0 a1 hlen hgt c2 c3 (by omega) o1 (q1 w.drew rfl)
                              refine ⟨old, cap, p1, o2.append q2, p2, ?_⟩
                              simp only [Array.size_append, zeroCells_size, hzs, List.size_toArray]
                              rw [← q2.len, q3, o3, ← Nat.add_mul, ← Nat.add_mul]; congr 1; omega
                            split at h
                            · -- a row of known size: to new memory
                              rename_i hex
                              split at h
                              · rename_i hle
                                injection h with h; injection h with h1 h2; subst h1 h2
                                have hkc := hk3 (r.exact.trans hex)
                                obtain ⟨old, cap', p1, p2, p3, p4⟩ := moved (by omega) hle
                                have hd := Post.drew hR (w.drawn + 1)
                                have hP := new_sound hd.rel ((b.cells.drop off).take (len * i.size) ++ new) e false false (old.toArray ++ l'.toArray ++ Builtin.zeroCells z.cells (cap' - (len + n))) (0, 0) (fun j u hu => by
                                  obtain ⟨u', b1, b2⟩ := p2.get hu
                                  have := (List.getElem?_eq_some_iff.1 b1).1
                                  exact ⟨u', by rw [Array.getElem?_append_left (by simpa using this)]; simpa using b1, b2⟩) ⟨Nat.le_refl _, fun j _ h => by simp at h⟩ (fun h => by cases h)
                                refine ⟨_, _, _, p3, hd.trans hP, ?_⟩
                                rw [p4]
                                exact new_slice_vr (Rho.add_same _ _ _) p1 (Nat.le_refl _) (fun h => by cases h) p1
                              · cases h
                            · rename_i hex
                              have hexf : b.exact = false := by simpa using hex
                              split at h
                              · rename_i H1 hg0
                                split at hg0
                                · rename_i hel
                                  obtain ⟨hel, hokn⟩ := hel
                                  injection h with h; injection h with h1 h2; subst h1 h2
                                  obtain ⟨fl, hro, hf2, hle, hfz2, _⟩ := grow_spec hg0
                                  by_cases hfit : len + n ≤ k'
                                  · -- in place
                                    have ha' : a = ⟨rb.blk, rb.off + off, none⟩ := by
                                      rcases ha with h | ⟨h, _⟩
                                      · exact h
                                      · omega
                                    subst ha'
                                    have hro2 : rb.off + off + len * i.size + l'.length ≤ rb.size := by
                                      rcases hk2 with h | h
                                      · have : (len + n) * i.size ≤ k' * i.size := Nat.mul_le_mul_right _ hfit
                                        rw [Nat.add_mul] at this
                                        rw [← q2.len, q3]; omega
                                      · omega
                                    have hone : ∀ v ∈ l', v.oneCell' = true := fun u hu => by
                                      obtain ⟨j, hj⟩ := List.mem_iff_getElem?.1 hu
                                      have hj' : j < new.length := by rw [q2.len]; exact (List.getElem?_eq_some_iff.1 hj).1
                                      exact (q2.at_ j _ _ (List.getElem?_eq_getElem hj') hj).one (List.all_eq_true.1 hokn _ (List.getElem_mem hj'))
                                    obtain ⟨g1, g2, g3⟩ := grow_inplace hR hc hrb hexf hg0 q2 hone hro2
                                    have hst := run_storeCells_cells (P := P) rb.blk (rb.off + off + len * i.size) l' 0 w (by simpa using g1) (by simpa using g2) hone
                                    refine ⟨_, _, _, run_fits (base := some _) (w' := w.setCells rb.blk (rb.off + off + len * i.size) l') h0 hu hi c4 a0 a1 hlen hfit (new := l') (q1 w rfl) (fun a ha => ?_) (fun h => by cases h), g3, ?_⟩
                                    · injection ha with ha; subst ha
                                      rw [addr_add]
                                      simpa using hst
                                    · refine .slice _ _ _ _ _ _ (Rho.add_same _ _ _) (.inl ?_) hfit ?_ (fun h => by cases h) hfit
                                      · simp
                                      · rcases hk2 with h | h
                                        · left; simpa using h
                                        · omega
                                  · obtain ⟨old, cap', p1, p2, p3, p4⟩ := moved hfit hle
                                    have hd := Post.drew hR (w.drawn + 1)
                                    have hP := grow_moved hd.rel hrb hexf hg0 (old.toArray ++ l'.toArray ++ Builtin.zeroCells z.cells (cap' - (len + n))) (fun j u hu => by
                                      obtain ⟨u', b1, b2⟩ := p2.get hu
                                      have := (List.getElem?_eq_some_iff.1 b1).1
                                      exact ⟨u', by rw [Array.getElem?_append_left (by simpa using this)]; simpa using b1, b2⟩)
                                    rw [hel] at hP
                                    refine ⟨_, _, _, p3, hd.trans hP, ?_⟩
                                    rw [p4]
                                    exact new_slice_vr (Rho.add_same _ _ _) p1 (Nat.le_refl _) (fun h => by cases h) p1
                                · cases hg0
                              · cases h
            · cases h

end Go.Can

namespace Go.Can
open Go
variable {P : Program}

theorem firstCells_zero {x : Value} {n : Nat} {w w1 : World} (hl : (Builtin.lenOf x).run P w = .ok n w1) (size : Nat) : (Builtin.firstCells size 0 x).run P w = .ok #[] w := by
  cases x with
  | slice a l c => cases a with
    | none => rfl
    | some a => simp only [Builtin.firstCells, Nat.zero_mul]; rfl
  | string st =>
    have h0 : (st.extract 0 0).data = #[] := Array.eq_empty_of_size_eq_zero (by have h := @ByteArray.size_extract st 0 0; simp only [Nat.zero_min, Nat.sub_self] at h; exact h)
    simp only [Builtin.firstCells, Sem.run_pure, h0]; simp
  | _ => simp [Builtin.lenOf] at hl

theorem copyC_sound {ρ : Rho} {H H' : Heap} {w : World} {ty : TypeId} {s s' x x' v : Value} {at_ : Array TypeId} {ar : Array Value} (hR : Rel ρ H w) (hs : VR ρ s s') (hx : VR ρ x x')
    (a0 : ar[0]? = some s') (a1 : ar[1]? = some x') (h : copyC P at_ s x H = some (v, H')) :
    ∃ v' w' ρ', (Builtin.copy_ at_ ty ar).run P w = .ok v' w' ∧ Post ρ H w ρ' H' w' ∧ VR ρ' v v' := by
  unfold copyC at h
  split at h
  · cases h
  · rename_i sT h0
    split at h
    · cases h
    · rename_i e he
      have hu := sliceElem_inv he
      split at h
      · rename_i size n hsz hn
        obtain ⟨hlen, hfz⟩ := lenC_run (P := P) hx hn w
        have hsr := run_sizeB (P := P) hsz
        have hz0 := firstCells_zero hlen size
        split at h
        · -- nil
          rename_i len cap
          obtain rfl : s' = .slice none len cap := by cases hs; rfl
          split at h
          · rename_i h00
            subst h00
            injection h with h; injection h with h1 h2; subst h1 h2
            refine ⟨_, w, ρ, ?_, Post.refl hR, .int _ _⟩
            unfold Builtin.copy_
            simp only [h0, a0, a1, Sem.run_bind, run_underlying hu, Result.andThen_ok, hlen, hsr, show Nat.min n 0 = 0 from Nat.min_zero n, hz0, Sem.run_pure]
            rfl
          · cases h
        · rename_i c off es len cap
          obtain ⟨rb, k', a, hc, rfl, ha, hk1, hk2, hk3, hk4⟩ := hs.slice_inv
          split at h
          · cases h
          · rename_i hes
            simp only [ne_eq, Decidable.not_not] at hes
            subst hes
            split at h
            · rename_i hm0
              injection h with h; injection h with h1 h2; subst h1 h2
              refine ⟨_, w, ρ, ?_, Post.refl hR, .int _ _⟩
              unfold Builtin.copy_
              simp only [h0, a0, a1, Sem.run_bind, run_underlying hu, Result.andThen_ok, hlen, hsr, hm0, hz0, Sem.run_pure]
              rfl
            · rename_i hm0
              split at h
              · cases h
              · rename_i new hf
                have hmin : Nat.min n len ≤ n := Nat.min_le_left _ _
                have hmin2 : Nat.min n len ≤ len := Nat.min_le_right _ _
                obtain ⟨_, h3⟩ := firstC_sound (P := P) hR hx hn hmin hf
                rcases h3 with h3 | ⟨l', q1, q2, q3⟩
                · exact absurd h3 hm0
                · split at h
                  · rename_i H1 hw
                    injection h with h; injection h with h1 h2; subst h1 h2
                    obtain ⟨w1, w2, w3, w4⟩ := wr_sound hR hc hw q2
                    have ha' : a = ⟨rb.blk, rb.off + off, none⟩ := by
                      rcases ha with h | ⟨h, _⟩
                      · exact h
                      · omega
                    subst ha'
                    have hst := run_storeCells_cells (P := P) rb.blk (rb.off + off) l' 0 w (by simpa using w1) (by simpa using w2) (fun u hu => w3 u hu)
                    refine ⟨_, _, ρ, ?_, w4, .int _ _⟩
                    unfold Builtin.copy_
                    simp only [h0, a0, a1, Sem.run_bind, run_underlying hu, Result.andThen_ok, hlen, hsr, q1 w rfl, Sem.run_pure, hst]
                    rfl
                  · cases h
        · cases h
      · cases h

/-! ## Strings and bytes -/

theorem bytesC_inv {ρ : Rho} : ∀ {l l' : List Value} {bs : List UInt8}, VRs ρ l l' → bytesC l = some bs → l' = bs.map fun b => Value.int .u8 b.toNat := by
  intro l
  induction l with
  | nil =>
    intro l' bs h hb
    simp only [bytesC, Option.some.injEq] at hb; subst hb
    cases l' with
    | nil => rfl
    | cons x l' => have := h.len; simp at this
  | cons v l ih =>
    intro l' bs h hb
    cases l' with
    | nil => have := h.len; simp at this
    | cons v' l' =>
      unfold bytesC at hb
      split at hb
      · rename_i heq; cases heq
      · rename_i n l2 heq
        injection heq with e1 e2
        subst e1 e2
        split at hb
        · rename_i hn
          cases hbs : bytesC l with
          | none => simp [hbs] at hb
          | some bs' =>
            simp only [hbs, Option.map_some, Option.some.injEq] at hb
            subst hb
            have := ih h.tail hbs
            rw [h.head.int_inv, this]
            simp only [List.map_cons, List.cons.injEq, Value.int.injEq, true_and, and_true]
            have h2 : (UInt8.ofNat n.toNat).toNat = n.toNat := by
              simp [UInt8.toNat_ofNat']; omega
            rw [h2]; omega
        · cases hb
      · cases hb

theorem foldl_push_bytes : ∀ (bs : List UInt8) (acc : ByteArray), (bs.map fun b => ((b.toNat : Nat) : Int)).foldl (fun (r : ByteArray) (n : Int) => r.push (UInt8.ofNat n.toNat)) acc = ⟨acc.data ++ bs.toArray⟩ := by
  intro bs
  induction bs with
  | nil => intro acc; simp
  | cons b bs ih =>
    intro acc
    simp only [List.map_cons, List.foldl_cons, ih, Int.toNat_natCast, UInt8.ofNat_toNat]
    congr 1
    apply Array.ext'
    simp [ByteArray.push]

theorem toStringC_sound {ρ : Rho} {H : Heap} {w : World} {x' : Value} {c off len cap : Nat} {b : Blk} {l : List UInt8} (hR : Rel ρ H w) (hx : VR ρ (.slice (some ⟨c, off, some 1⟩) len cap) x') (hb : H.read c = some b)
    (hle : off + len ≤ b.cells.length) (h : bytesC ((b.cells.drop off).take len) = some l) : (Conv.bytesToString x').run P w = .ok (.string ⟨l.toArray⟩) w := by
  obtain ⟨rb, k', a, hc, rfl, ha, hk1, hk2, hk3, hk4⟩ := hx.slice_inv
  obtain ⟨l', e1, e2, e3⟩ := hR.cellsAt hc hb off len hle
  have hl' := bytesC_inv e2 h
  have key : (loadCells a len).run P w = .ok ((l.map fun b => ((b.toNat : Nat) : Int)).map (Value.int .u8)).toArray w := by
    rcases Nat.eq_zero_or_pos len with h0 | h0
    · subst h0
      have : l' = [] := List.eq_nil_of_length_eq_zero e1
      rw [this] at hl'
      have : l = [] := by cases l with | nil => rfl | cons x l => simp at hl'
      subst this
      rfl
    · have ha' : a = ⟨rb.blk, rb.off + off, none⟩ := by
        rcases ha with h | ⟨h, _⟩
        · exact h
        · omega
      subst ha'
      have := run_loadCells_list (P := P) w ⟨rb.blk, rb.off + off, none⟩ l' (fun j u hj => by rw [addr_add]; exact e3 j u hj)
      rw [e1, hl'] at this
      rw [this]
      simp [List.map_map, Function.comp_def]
  rw [run_bytesToString w a len k' _ key, foldl_push_bytes]
  congr 2
  simp [ByteArray.empty, ByteArray.emptyWithCapacity]
  rfl

theorem VRs.bytes (ρ : Rho) (s : ByteArray) : VRs ρ (s.data.toList.map fun b => Value.int .u8 b.toNat) (s.data.toList.map fun b => Value.int .u8 b.toNat) := VRs.map _ _ _ fun _ _ => .int _ _

theorem toBytesC_sound {ρ : Rho} {H : Heap} {w : World} {src dst e : TypeId} {s : ByteArray} (hR : Rel ρ H w) (hs : P.underlying src = some .string) (hd : P.underlying dst = some (.slice e)) (he : P.underlying e = some (.int .u8)) :
    ∃ v' w' ρ', (convert src dst (.string s)).run P w = .ok v' w' ∧ Post ρ H w ρ' (H.new (s.data.toList.map fun b => .int .u8 b.toNat) e false true) w' ∧
      VR ρ' (.slice (some ⟨H.next, 0, some 1⟩) s.size s.size) v' := by
  have hcap : s.size ≤ grownCap w s.size 0 e := by unfold grownCap; simp [Question.cut]
  have hD := Post.drew hR (w.drawn + 1)
  have hsz : (bytesRow s (grownCap w s.size 0 e)).size = grownCap w s.size 0 e := by
    simp only [bytesRow, Array.size_append, Array.size_map, Array.size_replicate]
    have : s.data.size = s.size := rfl
    omega
  have hP := new_sound hD.rel (s.data.toList.map fun b => .int .u8 b.toNat) e false true (bytesRow s (grownCap w s.size 0 e)) ((bytesRow s (grownCap w s.size 0 e)).size, (bytesRow s (grownCap w s.size 0 e)).size + 1)
    (fun j u hu => by
      obtain ⟨u', b1, b2⟩ := (VRs.bytes ρ s).get hu
      have := (List.getElem?_eq_some_iff.1 b1).1
      refine ⟨u', ?_, b2⟩
      rw [bytesRow, Array.getElem?_append_left (by simpa using this)]
      rw [← Array.getElem?_toList, Array.toList_map]; exact b1) ⟨Nat.le_succ _, fun j h1 h2 => ⟨rfl, h1⟩⟩ (fun h => by cases h)
  refine ⟨_, _, _, run_bytes_of_string w src dst e s hs hd he, hD.trans hP, ?_⟩
  rw [hsz]
  exact new_slice_vr (Rho.add_same _ _ _) hcap (by rw [Nat.mul_one]; exact Nat.le_refl _) (fun h => by cases h) hcap

end Go.Can

namespace Go.Can
open Go
variable {P : Program}

theorem lies_off {e : TypeId} (hc : P.cellsOf e = 1) (count off n : Nat) (h : off + n ≤ count) : liesAt P P.depth e count off e n = true := by
  have hd : ∃ d, P.depth = d + 1 + 1 := ⟨2 * (P.types.size + Made.depth), rfl⟩
  obtain ⟨d, hd⟩ := hd
  rw [hd]
  have : rowAt P (sameLayout P (d + 1 + 1) · e) (d + 1 + 1) e count off n = true := by
    simp only [rowAt, hc]
    simp [sameLayout, Nat.mod_one, h]
  simp only [liesAt, hd, this, Bool.true_or]

theorem freeze_heap (w : World) (a : Addr) (n : Nat) (hn : n ≠ 0) : (w.freeze a n).heap.size = w.heap.size ∧ (w.freeze a n).os = w.os ∧ (w.freeze a n).tape = w.tape ∧ (w.freeze a n).output = w.output ∧
    (∀ k, k ≠ a.block → (w.freeze a n).heap[k]? = w.heap[k]?) ∧
    (∀ cs t fr, w.heap[a.block]? = some (.cells cs t fr) → (w.freeze a n).heap[a.block]? = some (.cells cs t (if fr.1 == fr.2 then (a.off, a.off + n) else (min fr.1 a.off, max fr.2 (a.off + n))))) := by
  unfold World.freeze
  rw [if_neg hn]
  refine ⟨by simp, rfl, rfl, rfl, fun k hk => ?_, fun cs t fr h => ?_⟩
  · simp only [Array.getElem?_modify]; rw [if_neg (by omega)]
  · obtain ⟨lo, hi⟩ := fr
    simp [Array.getElem?_modify, h]

theorem unsafeStringC_sound {ρ : Rho} {H H' : Heap} {w : World} {ty : TypeId} {p p' n n' v : Value} {at_ : Array TypeId} {ar : Array Value} (hR : Rel ρ H w) (hp : VR ρ p p') (hn : VR ρ n n')
    (har : ar = #[p', n']) (h : unsafeStringC P at_ p n H = some (v, H')) :
    ∃ v' w' ρ', (Builtin.unsafeString_ at_ ty ar).run P w = .ok v' w' ∧ Post ρ H w ρ' H' w' ∧ VR ρ' v v' := by
  unfold unsafeStringC at h
  split at h
  · rename_i pt c off m h0
    obtain ⟨rb, hc, rfl⟩ := hp.ptr_inv
    obtain rfl := hn.int_inv
    split at h
    · rename_i e hpt
      split at h
      · cases h
      · rename_i hcd
        simp only [not_or, Int.not_lt, ne_eq, Decidable.not_not] at hcd
        obtain ⟨hm, hce⟩ := hcd
        split at h
        · rename_i b hb
          split at h
          · rename_i hq
            obtain ⟨hro, hel, hle, hst, htop, hbig⟩ := hq
            split at h
            · rename_i l hl
              injection h with h; injection h with h1 h2; subst h1 h2
              obtain ⟨hg, hlv⟩ := read_some hb
              obtain ⟨cs, t, fr, r, _⟩ := hR.readable hc hb
              obtain ⟨l', e1, e2, e3⟩ := hR.cellsAt hc hb off m.toNat hle
              have hl' := bytesC_inv e2 hl
              have hlen : l.length = m.toNat := by rw [← e1, hl']; simp
              have hreach := hR.reach hc hb (by omega)
              obtain ⟨fl, htop⟩ : ∃ fl, H.fam.get b.fam = some (b.ver, fl) := by
                cases hf : H.fam.get b.fam with
                | none => simp [hf] at htop
                | some x => obtain ⟨a, f⟩ := x; simp [hf] at htop; exact ⟨f, by rw [htop]⟩
              have hm0 : m.toNat ≠ 0 := by omega
              obtain ⟨f1, f2, f3, f4, f5, f6⟩ := freeze_heap w ⟨rb.blk, rb.off + off, none⟩ m.toNat hm0
              have f6 := f6 cs t fr r.there
              refine ⟨.string ⟨l.toArray⟩, w.freeze ⟨rb.blk, rb.off + off, none⟩ m.toNat, ρ, ?_, ⟨Ext.refl ρ, ?_, fun d rd h1 h2 => (by rw [h1] at h2; cases h2), Nat.le_refl _, by rw [f1]; exact Nat.le_refl _,
                fun k _ hk => f5 k (fun e => ?_), f2, f3, f4⟩, .string _⟩
              · have hsh : w.shape? rb.blk = some (e, cs.size) := by
                  unfold World.shape?; rw [r.there, r.elem (.inl hro), hel]
                have hlies := lies_off (P := P) hce (cs.size / P.cellsOf e) (rb.off + off) m.toNat (by rw [hce, Nat.div_one, r.size]; omega)
                have hlb := Lib.run_loadBytes (P := P) w l ⟨rb.blk, rb.off + off, none⟩ .empty (fun j x hj => by
                  rw [addr_add]
                  exact e3 j _ (by rw [hl']; simp [hj]))
                rw [hlen] at hlb
                have hmax : IntKind.i64.max = 9223372036854775807 := rfl
                have hneg : ¬ m < 0 := by omega
                have hbig' : ¬ m > IntKind.i64.max := by rw [hmax]; omega
                have hz : ¬ m = 0 := by omega
                subst har
                change Sem.run P (asInt (.int .i64 m) >>= _) w = _
                simp only [asInt, asIntOf, Sem.run_bind, Sem.run_pure, Result.andThen_ok, h0, hneg, if_false, hbig', hz, elemOf, run_underlying hpt, variablesAt, run_program, run_shape, hsh, hlies, if_true, hlb, run_freeze]
                congr 2
                congr 1
                simp [ByteArray.empty, ByteArray.emptyWithCapacity]
                rfl
              · have lv : ∀ x, ({ H with t := H.t.set c (.cells { b with frz := max b.frz (off + m.toNat) }) } : Heap).live x = H.live x := fun _ => rfl
                refine ⟨⟨fun d o hd => ?_, hR.wf.fx, fun d x hd hx => ?_, fun d e2 x y hd he hx hy hf hv => ?_, fun d e2 x y hd he hx hy hf hlx hty => ?_⟩, fun d rd hd => by rw [f1]; exact hR.lt d rd hd, fun d rd x hd hx => ?_, fun d rd es hd he => ?_, fun d rd s pos hd he => ?_,
                  fun d e2 rd re hd he hne hbk => ?_⟩
                · simp only [Tr.get_set] at hd
                  split at hd
                  · rename_i e; subst e; exact hR.wf.nx _ _ hg
                  · exact hR.wf.nx _ _ hd
                · simp only [Tr.get_set] at hd
                  split at hd
                  · injection hd with hd; injection hd with hd; subst hd; exact hR.wf.fam c b hg hro
                  · exact hR.wf.fam d x hd hx
                · simp only [Tr.get_set] at hd he
                  split at hd <;> split at he
                  · rename_i a1 a2; exact a1.trans a2.symm
                  · rename_i a1 a2; injection hd with hd; injection hd with hd; subst hd; rw [a1]; exact hR.wf.ver c e2 b y hg he hro hy hf hv
                  · rename_i a1 a2; injection he with he; injection he with he; subst he; rw [a2]; exact hR.wf.ver d c x b hd hg hx hro hf hv
                  · exact hR.wf.ver d e2 x y hd he hx hy hf hv
                · simp only [Tr.get_set] at hd he
                  split at hd <;> split at he
                  · injection hd with hd; injection hd with hd; injection he with he; injection he with he; subst hd he; exact Nat.le_refl _
                  · injection hd with hd; injection hd with hd; subst hd; exact hR.wf.len c e2 b y hg he hro hy hf hlx hty
                  · injection he with he; injection he with he; subst he; exact hR.wf.len d c x b hd hg hx hro hf hlx hty
                  · exact hR.wf.len d e2 x y hd he hx hy hf hlx hty
                · simp only [Tr.get_set] at hx
                  split at hx
                  · rename_i e; subst e
                    injection hx with hx; injection hx with hx; subst hx
                    rw [hc] at hd; injection hd with hd; subst hd
                    refine ⟨cs, t, _, r.ro, r.exact, f6, r.size, r.elem, r.whole, r.vals, fun _ _ => ⟨?_, fun j a1 a2 => ?_⟩⟩
                    · have := (r.frz hro ⟨fl, htop⟩).1
                      simp only
                      split <;> simp only <;> omega
                    have old := (r.frz hro ⟨fl, htop⟩).2
                    have old0 := (r.frz hro ⟨fl, htop⟩).1
                    have hcs := r.size
                    simp only at a1 a2 ⊢
                    split at a1
                    · rename_i hlh
                      rw [if_pos hlh] at a2
                      simp only at a1 a2
                      left; omega
                    · rename_i hlh
                      rw [if_neg hlh] at a2
                      simp only at a1 a2
                      have hne : fr.1 ≠ fr.2 := by simpa using hlh
                      by_cases g1 : j < rb.off + off + m.toNat
                      · left; omega
                      · by_cases g2 : fr.1 ≤ j
                        · rcases old j g2 (by omega) with g | g
                          · left; omega
                          · rw [hst] at g; simp at g
                        · by_cases g3 : fr.1 < fr.2
                          · rcases old (fr.2 - 1) (by omega) (by omega) with g | g
                            · left; omega
                            · rw [hst] at g; simp at g
                          · omega
                  · rename_i hne
                    obtain ⟨cs2, t2, fr2, r2⟩ := hR.cells d rd x hd hx
                    by_cases hbk : rd.blk = rb.blk
                    · rcases hR.sep d c rd rb hd hc hne hbk with ⟨_, h2⟩ | ⟨y, y', g1, g2, p1, p2, p3, _⟩
                      · rw [r.ro, hro] at h2; cases h2
                      · rw [hx] at g1; injection g1 with g1; injection g1 with g1; subst g1
                        rw [hg] at g2; injection g2 with g2; injection g2 with g2; subst g2
                        have e2 : cs2 = cs ∧ t2 = t ∧ fr2 = fr := by
                          have := r2.there; rw [hbk, r.there] at this
                          injection this with this; injection this with e1 e2 e3
                          exact ⟨e1.symm, e2.symm, e3.symm⟩
                        obtain ⟨rfl, rfl, rfl⟩ := e2
                        refine ⟨cs2, t2, _, r2.ro, r2.exact, by rw [hbk]; exact f6, r2.size, r2.elem, r2.whole, r2.vals, fun _ ⟨f, ht⟩ => ?_⟩
                        simp only [p3, htop] at ht
                        injection ht with ht; injection ht with ht _
                        exact absurd (hR.wf.ver d c x b hx hg p1 hro p3 ht.symm) hne
                    · exact ⟨cs2, t2, fr2, r2.ro, r2.exact, by rw [f5 _ hbk]; exact r2.there, r2.size, r2.elem, r2.whole, r2.vals, r2.frz⟩
                · simp only [Tr.get_set] at he
                  split at he
                  · cases he
                  · obtain ⟨hrr, es', clock, h1, h2⟩ := hR.map d rd es hd he
                    exact ⟨hrr, es', clock, by rw [f5 _ (fun e => by rw [e, r.there] at h1; cases h1)]; exact h1, h2⟩
                · simp only [Tr.get_set] at he
                  split at he
                  · cases he
                  · obtain ⟨hrr, ho, h1⟩ := hR.siter d rd s pos hd he
                    exact ⟨hrr, ho, by rw [f5 _ (fun e => by rw [e, r.there] at h1; cases h1)]; exact h1⟩
                · rcases hR.sep d e2 rd re hd he hne hbk with h1 | ⟨x, y, g1, g2, p1, p2, p3, p4⟩
                  · exact .inl h1
                  · refine .inr ?_
                    simp only [Tr.get_set]
                    by_cases hdc : d = c
                    · subst hdc
                      rw [hg] at g1; injection g1 with g1; injection g1 with g1; subst g1
                      have hec : ¬ e2 = d := fun e => hne e.symm
                      exact ⟨{ b with frz := max b.frz (off + m.toNat) }, y, by simp, by simp [hec, g2], hro, p2, p3, p4⟩
                    · by_cases hec : e2 = c
                      · subst hec
                        rw [hg] at g2; injection g2 with g2; injection g2 with g2; subst g2
                        exact ⟨x, { b with frz := max b.frz (off + m.toNat) }, by simp [hdc, g1], by simp, p1, hro, p3, p4⟩
                      · exact ⟨x, y, by simp [hdc, g1], by simp [hec, g2], p1, p2, p3, p4⟩
              · simp only at e
                subst e
                have := hk c rb hc rfl
                rw [r.ro, hro] at this; cases this
            · cases h
          · cases h
        · cases h
    · cases h
  · cases h

end Go.Can

namespace Go.Can
open Go
variable {P : Program}

structure EsRel (ρ : Rho) (es es' : List MapEntry) : Prop where
  len : es.length = es'.length
  at_ : ∀ (i : Nat) (e e' : MapEntry), es[i]? = some e → es'[i]? = some e' → flat e.key = true ∧ e'.key = e.key ∧ VR ρ e.val e'.val

theorem EsRel.tail {ρ : Rho} {e e' : MapEntry} {es es' : List MapEntry} (h : EsRel ρ (e :: es) (e' :: es')) : EsRel ρ es es' :=
  ⟨by have := h.len; simpa using this, fun i a b x y => h.at_ (i + 1) a b (by simpa using x) (by simpa using y)⟩
theorem EsRel.head {ρ : Rho} {e e' : MapEntry} {es es' : List MapEntry} (h : EsRel ρ (e :: es) (e' :: es')) : flat e.key = true ∧ e'.key = e.key ∧ VR ρ e.val e'.val := h.at_ 0 e e' rfl rfl

/-- What is found on both sides. -/
def FoundRel (ρ : Rho) (r r' : Option (Nat × Value)) : Prop :=
  match r, r' with
  | none, none => True
  | some (i, v), some (j, v') => i = j ∧ VR ρ v v'
  | _, _ => False

theorem findNow_par {ρ : Rho} (d : TypeDesc) (k : Value) : ∀ (es es' : List MapEntry) (i : Nat), EsRel ρ es es' →
    (∀ r, Instr.findNow d k es i = some r → ∃ r', Instr.findNow d k es' i = some r' ∧ FoundRel ρ r r') ∧ (Instr.findNow d k es i = none → Instr.findNow d k es' i = none) := by
  intro es
  induction es with
  | nil =>
    intro es' i h
    cases es' with
    | nil => exact ⟨fun r hr => by simp only [Instr.findNow, Option.some.injEq] at hr; subst hr; exact ⟨none, rfl, trivial⟩, fun h => by simp [Instr.findNow] at h⟩
    | cons x l => have := h.len; simp at this
  | cons e es ih =>
    intro es' i h
    cases es' with
    | nil => have := h.len; simp at this
    | cons e' es' =>
      obtain ⟨h1, h2, h3⟩ := h.head
      simp only [Instr.findNow, h2]
      cases hs : Instr.sameNow d k e.key with
      | none => exact ⟨fun r hr => (by cases hr), fun _ => rfl⟩
      | some b =>
        cases b with
        | true =>
          refine ⟨fun r hr => ?_, fun h => by cases h⟩
          injection hr with hr; subst hr
          exact ⟨some (i, e'.val), rfl, (⟨rfl, h3⟩ : FoundRel ρ (some (i, e.val)) (some (i, e'.val)))⟩
        | false => exact ih es' (i + 1) h.tail

theorem findAsking_par {ρ : Rho} (kt : TypeId) (k : Value) : ∀ (es es' : List MapEntry) (i : Nat), EsRel ρ es es' → ∀ r, pureRun P (Instr.findAsking kt k es i) = some (.ok r) →
    ∃ r', pureRun P (Instr.findAsking kt k es' i) = some (.ok r') ∧ FoundRel ρ r r' := by
  intro es
  induction es with
  | nil =>
    intro es' i h r hr
    cases es' with
    | nil => simp only [Instr.findAsking, pureRun_pure, Option.some.injEq, Except.ok.injEq] at hr; subst hr; exact ⟨none, rfl, trivial⟩
    | cons x l => have := h.len; simp at this
  | cons e es ih =>
    intro es' i h r hr
    cases es' with
    | nil => have := h.len; simp at this
    | cons e' es' =>
      obtain ⟨h1, h2, h3⟩ := h.head
      simp only [Instr.findAsking, pureRun_bind, h2] at hr ⊢
      cases hq : pureRun P (Op.equal kt k e.key) with
      | none => simp [hq] at hr
      | some q =>
        cases q with
        | error u => simp [hq] at hr
        | ok b =>
          cases b with
          | true =>
            simp only [hq, if_true, pureRun_pure, Option.some.injEq, Except.ok.injEq] at hr ⊢
            subst hr
            exact ⟨some (i, e'.val), rfl, (⟨rfl, h3⟩ : FoundRel ρ (some (i, e.val)) (some (i, e'.val)))⟩
          | false =>
            simp only [hq, Bool.false_eq_true, if_false] at hr ⊢
            exact ih es' (i + 1) h.tail r hr

theorem findKey_par {ρ : Rho} {kt : TypeId} {k : Value} {es es' : List MapEntry} {r : Option (Nat × Value)} (h : EsRel ρ es es') (hr : pureRun P (Instr.findKey kt k es) = some (.ok r)) :
    ∃ r', pureRun P (Instr.findKey kt k es') = some (.ok r') ∧ FoundRel ρ r r' := by
  unfold Instr.findKey at hr ⊢
  simp only [pureRun_bind, pureRun_underlying] at hr ⊢
  cases hu : P.underlying kt with
  | none => simp [hu] at hr
  | some d =>
    simp only [hu, Option.map_some] at hr ⊢
    obtain ⟨p1, p2⟩ := findNow_par (ρ := ρ) d k es es' 0 h
    cases hf : Instr.findNow d k es 0 with
    | none =>
      simp only [hf, p2 hf] at hr ⊢
      exact findAsking_par kt k es es' 0 h r hr
    | some q =>
      obtain ⟨r', q1, q2⟩ := p1 q hf
      simp only [hf, q1, pureRun_pure, Option.some.injEq, Except.ok.injEq] at hr ⊢
      subst hr
      exact ⟨r', rfl, q2⟩

theorem run_getObj' {w : World} {r : Nat} {o : Obj} (h : w.heap[r]? = some o) (hc : ∀ c t f, o ≠ .cells c t f) : (getObj r).run P w = .ok o w := by
  simp only [getObj, Sem.run, h]

theorem run_setObj' {w : World} {r : Nat} {o o' : Obj} (h : w.heap[r]? = some o) (hc : ∀ c t f, o ≠ .cells c t f) : (setObj r o').run P w = .ok () { w with heap := w.heap.setIfInBounds r o' } := by
  simp only [setObj, Sem.run, h]

/-- A thing that is no row is changed on both sides. -/
theorem setObj_sound {ρ : Rho} {H : Heap} {w : World} (hR : Rel ρ H w) {c : Nat} {rb : RB} {o o' : CObj} {ob ob' : Obj} (hc : ρ c = some rb) (ho : H.t.get c = some o) (hoc : ∀ b, o ≠ .cells b) (hoc' : ∀ b, o' ≠ .cells b)
    (_ : w.heap[rb.blk]? = some ob) (_ : ∀ a t f, ob ≠ .cells a t f) (hro : rb.ro = false)
    (hm : ∀ es, o' = .map es → ∃ es' clock, ob' = .map es' clock ∧ EsRel ρ es es'.toList)
    (hs : ∀ s pos, o' = .siter s pos → rb.off = 0 ∧ ob' = .stringIter s pos) :
    Post ρ H w ρ { H with t := H.t.set c o' } { w with heap := w.heap.setIfInBounds rb.blk ob' } := by
  have hlt := (hR.lt c rb hc).2
  have keep : ∀ k, k ≠ rb.blk → (w.heap.setIfInBounds rb.blk ob')[k]? = w.heap[k]? := fun k hk => by
    rw [Array.getElem?_setIfInBounds, if_neg (by omega)]
  have new : (w.heap.setIfInBounds rb.blk ob')[rb.blk]? = some ob' := by
    rw [Array.getElem?_setIfInBounds, if_pos rfl, if_pos hlt]
  have other : ∀ d rd, ρ d = some rd → d ≠ c → rd.blk ≠ rb.blk := fun d rd hd hne e => by
    rcases hR.sep d c rd rb hd hc hne e with ⟨_, h2⟩ | ⟨x, y, g1, g2, _⟩
    · rw [hro] at h2; cases h2
    · rw [ho] at g2; injection g2 with g2; exact hoc y g2
  have cl : ∀ d b, (H.t.set c o').get d = some (.cells b) → d ≠ c ∧ H.t.get d = some (.cells b) := fun d b hd => by
    rw [Tr.get_set] at hd
    split at hd
    · injection hd with hd; exact absurd hd (hoc' b)
    · exact ⟨by assumption, hd⟩
  refine ⟨Ext.refl ρ, ?_, fun d rd h1 h2 => (by rw [h1] at h2; cases h2), Nat.le_refl _, by simp, fun k _ hk => keep k (fun e => ?_), rfl, rfl, rfl⟩
  · refine ⟨⟨fun d x hd => ?_, hR.wf.fx, fun d b hd => hR.wf.fam d b (cl d b hd).2, fun d e b b' hd he => hR.wf.ver d e b b' (cl d b hd).2 (cl e b' he).2, fun d e b b' hd he => hR.wf.len d e b b' (cl d b hd).2 (cl e b' he).2⟩,
      fun d rd hd => by simpa using hR.lt d rd hd, fun d rd b hd hb => ?_, fun d rd es hd he => ?_, fun d rd s pos hd he => ?_, fun d e rd re hd he hne hbk => ?_⟩
    · simp only [Tr.get_set] at hd
      split at hd
      · rename_i e; subst e; exact hR.wf.nx _ _ ho
      · exact hR.wf.nx _ _ hd
    · obtain ⟨hne, hb⟩ := cl d b hb
      obtain ⟨cs, t, fr, r⟩ := hR.cells d rd b hd hb
      exact ⟨cs, t, fr, r.ro, r.exact, by rw [keep _ (other d rd hd hne)]; exact r.there, r.size, r.elem, r.whole, r.vals, r.frz⟩
    · simp only [Tr.get_set] at he
      split at he
      · rename_i e; subst e
        injection he with he
        rw [hc] at hd; injection hd with hd; subst hd
        obtain ⟨es', clock, rfl, h2⟩ := hm es he
        exact ⟨hro, es', clock, new, by simpa using h2.len, fun i e e' x y => h2.at_ i e e' x (by simpa using y)⟩
      · rename_i hne
        obtain ⟨a0, es', clock, a1, a2⟩ := hR.map d rd es hd he
        exact ⟨a0, es', clock, by rw [keep _ (other d rd hd hne)]; exact a1, a2⟩
    · simp only [Tr.get_set] at he
      split at he
      · rename_i e; subst e
        injection he with he
        rw [hc] at hd; injection hd with hd; subst hd
        obtain ⟨h1, rfl⟩ := hs s pos he
        exact ⟨hro, h1, new⟩
      · rename_i hne
        obtain ⟨a0, a1, a2⟩ := hR.siter d rd s pos hd he
        exact ⟨a0, a1, by rw [keep _ (other d rd hd hne)]; exact a2⟩
    · rcases hR.sep d e rd re hd he hne hbk with h1 | ⟨x, y, g1, g2, p1, p2, p3, p4⟩
      · exact .inl h1
      · have hdc : d ≠ c := fun e => by subst e; rw [ho] at g1; injection g1 with g1; exact hoc x g1
        have hec : e ≠ c := fun e => by subst e; rw [ho] at g2; injection g2 with g2; exact hoc y g2
        exact .inr ⟨x, y, by simp [Tr.get_set, hdc, g1], by simp [Tr.get_set, hec, g2], p1, p2, p3, p4⟩
  · subst e
    have := hk c rb hc rfl
    rw [hro] at this; cases this

theorem VR.map_inv {ρ : Rho} {r : Nat} {v' : Value} (h : VR ρ (.map (some r)) v') : ∃ rb, ρ r = some rb ∧ v' = .map (some rb.blk) := by
  cases h with
  | map hc => exact ⟨_, hc, rfl⟩

/-- A map of the interpreter's and the world's. -/
theorem Rel.mapAt {ρ : Rho} {H : Heap} {w : World} (hR : Rel ρ H w) {r : Nat} {rb : RB} {es : List MapEntry} (hc : ρ r = some rb) (he : H.t.get r = some (.map es)) :
    rb.ro = false ∧ ∃ es' clock, w.heap[rb.blk]? = some (.map es' clock) ∧ EsRel ρ es es'.toList := by
  obtain ⟨h0, es', clock, h1, h2, h3⟩ := hR.map r rb es hc he
  exact ⟨h0, es', clock, h1, by simpa using h2, fun i e e' a b => h3 i e e' a (by simpa using b)⟩

theorem lookC_sound {ρ : Rho} {H : Heap} {w : World} {t : TypeId} {r : Nat} {m' k k' v : Value} {ok : Bool} (hR : Rel ρ H w) (hm : VR ρ (.map (some r)) m') (hk : VR ρ k k') (h : lookC P t (.map (some r)) k ok H = some v) :
    ∃ v', (Instr.lookup t m' k' ok).run P w = .ok v' w ∧ VR ρ v v' := by
  obtain ⟨rb, hc, rfl⟩ := hm.map_inv
  unfold lookC at h
  split at h
  · rename_i kt et r2 hu heq
    injection heq with heq; injection heq with heq; subst heq
    split at h
    · rename_i es hes
      obtain ⟨hro, es', clock, hw, hE⟩ := hR.mapAt hc hes
      split at h
      · cases h
      · rename_i hfk
        have hfk : flat k = true := by simpa using hfk
        obtain rfl := hk.eq_of_flat hfk
        have hemp : es.isEmpty = es'.isEmpty := by
          have h1 := hE.len
          rw [Array.length_toList] at h1
          cases es with
          | nil => have : es' = #[] := Array.eq_empty_of_size_eq_zero (by simpa using h1.symm); subst this; rfl
          | cons e es =>
            have h2 : es'.size = es.length + 1 := by simpa using h1.symm
            simp only [List.isEmpty_cons, Array.isEmpty]; symm; rw [decide_eq_false_iff_not]; omega
        split at h
        · -- found
          rename_i u i v0 hck hfd
          obtain ⟨r', q1, q2⟩ := findKey_par hE hfd
          cases r' with
          | none => exact q2.elim
          | some p =>
            obtain ⟨j, v1⟩ := p
            obtain ⟨rfl, hv⟩ := q2
            injection h with h; subst h
            refine ⟨if ok then .tuple #[v1, .bool true] else v1, ?_, ?_⟩
            · unfold Instr.lookup
              simp only [Sem.run_bind, run_underlying hu, Result.andThen_ok, run_getObj' hw (fun _ _ _ h => by cases h), Sem.run_pure, ← hemp, pureRun_ok hck, pureRun_ok q1]
            · cases ok with
              | true => exact .tuple _ _ rfl (VRs.cons hv (VRs.cons (.bool true) (VRs.nil ρ))).at_
              | false => exact hv
        · rename_i u hck hfd
          obtain ⟨r', q1, q2⟩ := findKey_par hE hfd
          cases r' with
          | some p => exact q2.elim
          | none =>
            split at h
            · rename_i z hz
              injection h with h; subst h
              obtain ⟨z1, z2⟩ := run_zeroB hz w
              refine ⟨if ok then .tuple #[z, .bool false] else z, ?_, ?_⟩
              · unfold Instr.lookup
                simp only [Sem.run_bind, run_underlying hu, Result.andThen_ok, run_getObj' hw (fun _ _ _ h => by cases h), Sem.run_pure, ← hemp, pureRun_ok hck, pureRun_ok q1, z1]
              · cases ok with
                | true => exact .tuple _ _ rfl (VRs.cons (VR.of_flat ρ z z2) (VRs.cons (.bool false) (VRs.nil ρ))).at_
                | false => exact VR.of_flat ρ z z2
            · cases h
        · cases h
    · cases h
  · cases h

theorem mapUpdC_sound {ρ : Rho} {H H' : Heap} {w : World} {t : TypeId} {m m' k k' v v' : Value} (hR : Rel ρ H w) (hm : VR ρ m m') (hk : VR ρ k k') (hv : VR ρ v v') (h : mapUpdC P t m k v H = some H') :
    ∃ w' ρ', (Instr.mapUpdate t m' k' v').run P w = .ok () w' ∧ Post ρ H w ρ' H' w' := by
  unfold mapUpdC at h
  split at h
  · rename_i kt et r hu
    obtain ⟨rb, hc, rfl⟩ := hm.map_inv
    split at h
    · rename_i es hes
      obtain ⟨hro, es', clock, hw, hE⟩ := hR.mapAt hc hes
      split at h
      · cases h
      · rename_i hfk
        have hfk : flat k = true := by simpa using hfk
        obtain rfl := hk.eq_of_flat hfk
        split at h
        · rename_i u i v0 hck hfd
          obtain ⟨r', q1, q2⟩ := findKey_par hE hfd
          cases r' with
          | none => exact q2.elim
          | some p =>
            obtain ⟨j, v1⟩ := p
            obtain ⟨rfl, _⟩ := q2
            split at h
            · rename_i hsb
              injection h with h; subst h
              have hkey : ((es'[i]?).map (·.key)).getD k' = ((es[i]?).map (·.key)).getD k' := by
                cases he : es[i]? with
                | none =>
                  have : es'[i]? = none := by
                    have h1 := hE.len
                    rw [List.getElem?_eq_none_iff] at he
                    exact Array.getElem?_eq_none (by simp at h1; omega)
                  rw [this]
                | some e =>
                  have hi := (List.getElem?_eq_some_iff.1 he).1
                  have hl := hE.len
                  have hi' : i < es'.size := by simp at hl; omega
                  rw [Array.getElem?_eq_getElem hi']
                  have := hE.at_ i e es'[i] he (by simp [hi'])
                  simp [this.2.1]
              have hP := setObj_sound hR (ob' := .map (es'.modify i fun e => { e with key := k', val := v' }) clock) (o' := .map (es.modify i fun e => { e with key := k', val := v })) hc hes (fun _ h => by cases h) (fun _ h => by cases h) hw (fun _ _ _ h => by cases h) hro
                (fun es2 e2 => by
                  injection e2 with e2; subst e2
                  refine ⟨_, _, rfl, by have := hE.len; simpa using this, fun a e e' x y => ?_⟩
                  rw [List.getElem?_modify] at x
                  rw [Array.getElem?_toList, Array.getElem?_modify] at y
                  by_cases ea : i = a
                  · subst ea
                    simp only [if_true, Option.map_eq_map, Option.map_eq_some_iff] at x y
                    obtain ⟨e0, x0, rfl⟩ := x
                    obtain ⟨e1, y0, rfl⟩ := y
                    exact ⟨hfk, rfl, hv⟩
                  · simp only [ea, if_false, id_map'] at x y
                    exact hE.at_ a e e' (by simpa using x) (by simpa using y)) (fun _ _ h => by cases h)
              refine ⟨_, ρ, ?_, hP⟩
              unfold Instr.mapUpdate
              simp only [Sem.run_bind, run_underlying hu, Result.andThen_ok, run_getObj' hw (fun _ _ _ h => by cases h), pureRun_ok hck, pureRun_ok q1, hkey, Instr.keyThatStays, hsb, if_true, Sem.run_pure, run_setObj' hw (fun _ _ _ h => by cases h)]
            · cases h
        · rename_i u hck hfd
          obtain ⟨r', q1, q2⟩ := findKey_par hE hfd
          cases r' with
          | some p => exact q2.elim
          | none =>
            injection h with h; subst h
            have hP := setObj_sound hR (ob' := .map (es'.push { key := k', val := v', born := clock }) (clock + 1)) (o' := .map (es ++ [MapEntry.of k' v])) hc hes (fun _ h => by cases h) (fun _ h => by cases h) hw (fun _ _ _ h => by cases h) hro
                (fun es2 e2 => by
                  injection e2 with e2; subst e2
                  refine ⟨_, _, rfl, by have := hE.len; simpa using this, fun a e e' x y => ?_⟩
                  rw [Array.toList_push] at y
                  have hl := hE.len
                  by_cases ha : a < es.length
                  · rw [List.getElem?_append_left ha] at x
                    rw [List.getElem?_append_left (by omega)] at y
                    exact hE.at_ a e e' x y
                  · rw [List.getElem?_append_right (by omega)] at x
                    rw [List.getElem?_append_right (by omega), ← hl] at y
                    have h0 : a - es.length = 0 := by have := (List.getElem?_eq_some_iff.1 x).1; simp at this; omega
                    rw [h0] at x y
                    simp at x y
                    subst x y
                    exact ⟨hfk, rfl, hv⟩) (fun _ _ h => by cases h)
            refine ⟨_, ρ, ?_, hP⟩
            unfold Instr.mapUpdate
            simp only [Sem.run_bind, run_underlying hu, Result.andThen_ok, run_getObj' hw (fun _ _ _ h => by cases h), pureRun_ok hck, pureRun_ok q1, run_setObj' hw (fun _ _ _ h => by cases h)]
        · cases h
    · cases h
  · cases h

end Go.Can

namespace Go.Can
open Go
variable {P : Program}

/-! ## Functions without a body -/

theorem find_noEscape {fn : Func} (h : fn.name = "internal/abi.NoEscape") (ho : fn.origin = "") : Extern.findNext fn = none ∧ Extern.find fn = some Extern.AbiNoEscape.same := by
  refine ⟨?_, ?_⟩
  · unfold Extern.findNext; rw [h, ho]; rfl
  · unfold Extern.find; rw [h]; rfl

theorem find_makeNoZero {fn : Func} (h : fn.name = "internal/bytealg.MakeNoZero") (ho : fn.origin = "") :
    Extern.findNext fn = none ∧ Extern.find fn = some (Extern.BytealgMakeNoZero.makeNoZero fn.params fn.resultTypes) := by
  refine ⟨?_, ?_⟩
  · unfold Extern.findNext; rw [h, ho]; rfl
  · unfold Extern.find; rw [h]; rfl

theorem find_indexByte {fn : Func} (h : fn.name = "internal/bytealg.IndexByteString") (ho : fn.origin = "") : Extern.findNext fn = none ∧ Extern.find fn = some Extern.BytealgIndexByte.indexByte := by
  refine ⟨?_, ?_⟩
  · unfold Extern.findNext; rw [h, ho]; rfl
  · unfold Extern.find; rw [h]; rfl

theorem run_callFunc_noBody {g : FuncId} {fn : Func} {args : Array Value} {e : Array Value → Sem Value} (hf : P.funcs[g]? = some fn) (hn : fn.name ≠ "runtime.NumGoroutine") (hb : fn.body = none)
    (h1 : Extern.findNext fn = none) (h2 : Extern.find fn = some e) (w : World) : (callFunc g args).run P w = ((e args).run P w).andThen fun v w' => .ok (.value v) w' := by
  unfold callFunc
  simp only [Sem.run_bind, run_program, Result.andThen_ok, hf]
  rw [if_neg (by simpa using hn), if_pos (by simp [hb])]
  simp only [Sem.run_bind, run_mark, Result.andThen_ok, h1, h2, Sem.run_pure]

theorem run_callFunc_body {g : FuncId} {fn : Func} {args : Array Value} (hf : P.funcs[g]? = some fn) (hn : fn.name ≠ "runtime.NumGoroutine") (hb : fn.body.isSome = true) (w : World) :
    (callFunc g args).run P w = .ok (.enter g args) w := by
  unfold callFunc
  simp only [Sem.run_bind, run_program, Result.andThen_ok, hf]
  rw [if_neg (by simpa using hn), if_neg (by cases h : fn.body <;> simp_all)]
  rfl

theorem digits_spec : ∀ (n t : Nat) (acc : Array Value), (∀ (i : Nat) v, acc[i]? = some v → v.cells = #[v]) →
    (Extern.BytealgMakeNoZero.digits n t acc).size = acc.size + n ∧ ∀ (i : Nat) v, (Extern.BytealgMakeNoZero.digits n t acc)[i]? = some v → v.cells = #[v] := by
  intro n
  induction n with
  | zero => intro t acc h; exact ⟨rfl, h⟩
  | succ n ih =>
    intro t acc h
    have := ih (t / 256) (acc.push (.int .u8 (Int.ofNat (t % 256)))) (fun i v hv => by
      rw [Array.getElem?_push] at hv
      split at hv
      · injection hv with hv; subst hv; rfl
      · exact h i v hv)
    refine ⟨?_, this.2⟩
    simp only [Extern.BytealgMakeNoZero.digits]
    rw [this.1]; simp; omega

theorem makeNoZero_sound {ρ : Rho} {H : Heap} {w : World} (hR : Rel ρ H w) {ps rs : Array TypeId} {t e : TypeId} {n : Int} (ht : rs[0]? = some t) (he : sliceElem P t = some e) (h0 : 0 ≤ n) (h1 : n ≤ 2 ^ 46) (_ : P.cellsOf e = 1) :
    ∃ v' w' ρ', (Extern.BytealgMakeNoZero.makeNoZero ps rs #[.int .i64 n]).run P w = .ok v' w' ∧ Post ρ H w ρ' (H.new (List.replicate n.toNat unk) e false false) w' ∧ VR ρ' (.slice (some ⟨H.next, 0, some 1⟩) n.toNat n.toNat) v' := by
  have hd := Post.drew hR (w.drawn + 1 + 1)
  obtain ⟨cap, hcap⟩ : ∃ cap, cap = Question.cut (.appendCap n.toNat 0 e) (w.tape w.drawn (.appendCap n.toNat 0 e)) := ⟨_, rfl⟩
  have hle : n.toNat ≤ cap := by rw [hcap]; simp [Question.cut]
  obtain ⟨bs, hbs⟩ : ∃ bs, bs = Question.cut (.extern "internal/bytealg.MakeNoZero.bytes" 0) (w.tape (w.drawn + 1) (.extern "internal/bytealg.MakeNoZero.bytes" 0)) := ⟨_, rfl⟩
  obtain ⟨d1, d2⟩ := digits_spec cap bs #[] (fun i v h => by simp at h)
  have hP := new_sound hd.rel (List.replicate n.toNat unk) e false false (Extern.BytealgMakeNoZero.digits cap bs #[]) (0, 0) (fun j u hu => by
      rw [List.getElem?_replicate] at hu
      split at hu
      · rename_i hj
        injection hu with hu; subst hu
        have hj' : j < (Extern.BytealgMakeNoZero.digits cap bs #[]).size := by rw [d1]; simp; omega
        exact ⟨_, Array.getElem?_eq_getElem hj', .unk 0 _ (d2 j _ (Array.getElem?_eq_getElem hj'))⟩
      · cases hu) ⟨Nat.le_refl _, fun j _ h => by simp at h⟩ (fun h => by cases h)
  refine ⟨.slice (some ⟨w.heap.size, 0, none⟩) n.toNat cap, _, _, ?_, hd.trans hP, ?_⟩
  · obtain ⟨rest, rfl⟩ : ∃ rest, rs = ⟨t :: rest⟩ := by
      obtain ⟨l⟩ := rs
      cases l with
      | nil => simp at ht
      | cons a l => simp at ht; subst ht; exact ⟨l, rfl⟩
    change Sem.run P (underlying t >>= _) w = _
    simp only [Sem.run_bind, run_underlying (sliceElem_inv he), Result.andThen_ok]
    rw [if_neg (by simp; omega)]
    simp only [Sem.run_bind, run_choose]
    rw [if_neg (by simp [Question.forced])]
    simp only [Result.andThen_ok, run_askRoom]
    rw [if_neg (by simp [Question.forced])]
    simp only [Result.andThen_ok, ← hcap, ← hbs]
    rfl
  · rw [d1]
    exact new_slice_vr (Rho.add_same _ _ _) hle (by simp) (fun h => by cases h) hle

/-! ## All of them -/

theorem eqIn_sound {ρ : Rho} {t : TypeId} {x y x' y' : Value} {b : Bool} (hx : VR ρ x x') (hy : VR ρ y y') (h : eqC P t x y = some b) (w : World) (d : Nat) :
    (Op.equalIn (d + 1) t x' y').run P w = .ok b w ∧ (∀ op xo yo, (eqGuard op t xo yo x' y').run P w = .ok () w) := by
  unfold eqC at h
  split at h
  all_goals first
    | (rename_i hu; injection h with h; subst h; cases hx; cases hy
       refine ⟨by simp only [Op.equalIn, Sem.run_bind, run_underlying hu, Result.andThen_ok]; rfl, fun op xo yo => by unfold eqGuard; cases op <;> rfl⟩)
    | skip
  · rename_i e a i b j hu
    split at h
    · rename_i hab
      obtain ⟨rfl, rfl, hsz⟩ := hab
      obtain ⟨n, hsz⟩ := Option.isSome_iff_exists.1 hsz
      injection h with h; subst h
      obtain ⟨rb, hc, rfl⟩ := hx.ptr_inv
      obtain ⟨rb', hc', rfl⟩ := hy.ptr_inv
      rw [hc] at hc'; injection hc' with hc'; subst hc'
      refine ⟨?_, fun op xo yo => by unfold eqGuard; cases op <;> rfl⟩
      simp only [Op.equalIn, Sem.run_bind, run_underlying hu, Result.andThen_ok, run_sizeB hsz]
      by_cases h0 : n ≠ 0
      · rw [if_pos h0]
        simp [sameAddr]
      · rw [if_neg h0]
        simp
    · cases h
  · cases h

theorem eqC_sound {ρ : Rho} {t : TypeId} {x y x' y' : Value} {b : Bool} (hx : VR ρ x x') (hy : VR ρ y y') (h : eqC P t x y = some b) (w : World) :
    (Op.equal t x' y').run P w = .ok b w ∧ (∀ op xo yo, (eqGuard op t xo yo x' y').run P w = .ok () w) := eqIn_sound hx hy h w 9999

end Go.Can

namespace Go.Can
open Go
variable {P : Program}

theorem seenAt_cells {w : World} {a : Addr} {cs : Array Value} {t : TypeId} {fr : Nat × Nat} (h : w.heap[a.block]? = some (.cells cs t fr)) : (Conv.seenAt a).run P w = .ok a w := by
  have hs : w.shape? a.block = some (t, cs.size) := by unfold World.shape?; rw [h]
  simp only [Conv.seenAt, viewAt, Sem.run_bind, run_shape, hs, Result.andThen_ok, Option.isSome_some, if_true, Sem.run_pure]

theorem cellsIn_cells {w : World} {b : Nat} {cs : Array Value} {t : TypeId} {fr : Nat × Nat} (h : w.heap[b]? = some (.cells cs t fr)) : (cellsIn b).run P w = .ok (some cs.size) w := by
  have hs : w.shape? b = some (t, cs.size) := by unfold World.shape?; rw [h]
  simp [cellsIn, hs]

theorem lies_whole {e : TypeId} {n : Nat} (hc : P.cellsOf e = n) (hn : n ≠ 0) : liesAt P P.depth e (n / P.cellsOf e) 0 e 1 = true := by
  have hd : ∃ d, P.depth = d + 1 + 1 := ⟨2 * (P.types.size + Made.depth), rfl⟩
  obtain ⟨d, hd⟩ := hd
  rw [hd]
  have : rowAt P (sameLayout P (d + 1 + 1) · e) (d + 1 + 1) e (n / P.cellsOf e) 0 1 = true := by
    simp only [rowAt, hc, if_neg hn, Nat.zero_div, Nat.zero_mod, Nat.div_self (Nat.pos_of_ne_zero hn)]
    simp [sameLayout]
  simp only [liesAt, hd, this, Bool.true_or]

theorem sizeB_cellsOf {t : TypeId} {n : Nat} (h : sizeB P t = some n) : P.cellsOf t = n := by
  unfold sizeB at h; unfold Program.cellsOf; rw [h]; rfl

theorem convC_sound {ρ : Rho} {H : Heap} {w : World} {ev ev' : Operand → Value} {o : Oper} {r : Res} {src dst : TypeId} {x : Operand} (ho : o.op = .convert src dst x) (hR : Rel ρ H w)
    (hev : ∀ x ∈ o.op.operands, VR ρ (ev x) (ev' x)) (h : convC P ev o src dst (ev x) H = some r) : ResRel ρ H w r ((execOp ev' o).run P w) := by
  have hx := hev x (by simp [ho, Op.operands])
  have hex : (execOp ev' o).run P w = ((convert src dst (ev' x)).run P w).andThen fun v w' => .ok (.value v) w' := by
    simp only [execOp, ho, Sem.run_bind, Sem.run_pure]
  unfold convC at h
  split at h
  · rename_i e s hs hd heq
    split at h
    · rename_i he
      injection h with h; subst h
      rw [heq] at hx
      obtain ⟨v', w', ρ', h1, h2, h3⟩ := toBytesC_sound hR hs hd he (s := s)
      exact ⟨v', w', ρ', by rw [hex, hx.string_inv, h1]; rfl, h2, h3⟩
    · cases h
  · rename_i e c off es len cap hs hd heq
    split at h
    · rename_i b he hb
      split at h
      · rename_i hcd
        obtain ⟨rfl, hle⟩ := hcd
        split at h
        · rename_i l hl
          injection h with h; subst h
          rw [heq] at hx
          have h1 := toStringC_sound (P := P) hR hx hb hle hl
          obtain ⟨rb, k', a, hc, hxe, _⟩ := hx.slice_inv
          refine ⟨.string ⟨l.toArray⟩, w, ρ, ?_, Post.refl hR, .string _⟩
          rw [hex]
          rw [hxe] at h1 ⊢
          simp only [convert, Sem.run_bind, run_underlying hs, run_underlying hd, run_underlying he, Result.andThen_ok, h1]
        · cases h
      · cases h
    · cases h
  · rename_i t c off hs hd heq
    split at h
    · rename_i b n hb hn
      split at h
      · rename_i hcd
        injection h with h; subst h
        rw [heq] at hx
        obtain ⟨rb, hc, hxe⟩ := hx.ptr_inv
        obtain ⟨cs, t', fr, rr, _⟩ := hR.readable hc hb
        have hreach := hR.reach hc hb (by omega)
        refine ⟨_, w, ρ, ?_, Post.refl hR, by rw [heq]; exact .ptr off hc⟩
        rw [hex, hxe]
        simp only [convert, Conv.unsafePointer, Sem.run_bind, run_underlying hs, run_underlying hd, Result.andThen_ok, seenAt_cells (P := P) (a := ⟨rb.blk, rb.off + off, none⟩) rr.there, cellsIn_cells (P := P) rr.there, run_sizeB hn]
        have hsz := rr.size
        rw [if_neg (by simp; omega)]
        rfl
      · cases h
    · cases h
  · rename_i u c hs hd heq
    split at h
    · rename_i b n hb hn
      split at h
      · rename_i hcd
        obtain ⟨h0, hel, hexa, hlen⟩ := hcd
        injection h with h; subst h
        rw [heq] at hx
        obtain ⟨rb, hc, hxe⟩ := hx.ptr_inv
        obtain ⟨cs, t', fr, rr, _⟩ := hR.readable hc hb
        obtain ⟨w1, w2⟩ := rr.whole hexa
        refine ⟨_, w, ρ, ?_, Post.refl hR, by rw [heq]; exact .ptr 0 hc⟩
        rw [hex, hxe, w1]
        have hshp : w.shape? rb.blk = some (u, cs.size) := by unfold World.shape?; rw [rr.there, rr.elem (.inr hexa), hel]
        have hcs : cs.size = n := by rw [rr.size, ← w2, hlen]
        have hlies := lies_whole (P := P) (sizeB_cellsOf hn) h0
        rw [← hcs] at hlies
        simp only [convert, Conv.unsafePointer, Sem.run_bind, run_underlying hs, run_underlying hd, Result.andThen_ok, seenAt_cells (P := P) (a := ⟨rb.blk, 0 + 0, none⟩) rr.there, run_sizeB hn, variablesAt, run_program, run_shape, hshp, Nat.zero_add, hlies,
          Bool.or_true, if_true, Sem.run_pure]
      · cases h
    · cases h
  · exact genC_sound hR (fun cs b h => by rw [ho] at h; cases h) hev h

end Go.Can

namespace Go.Can
open Go
variable {P : Program}

theorem arg_vr {ρ : Rho} {ev ev' : Operand → Value} {o : Oper} {c : Call} (ho : o.op = .call c) (hev : ∀ x ∈ o.op.operands, VR ρ (ev x) (ev' x)) {i : Nat} (hi : i < c.args.size) :
    VR ρ (ev (c.args.getD i (.const undef))) (ev' (c.args.getD i (.const undef))) ∧ (c.args.map ev')[i]? = some (ev' (c.args.getD i (.const undef))) := by
  have e : c.args.getD i (.const undef) = c.args[i] := by simp [Array.getD, hi]
  refine ⟨hev _ ?_, by rw [e, Array.getElem?_map, Array.getElem?_eq_getElem hi]; rfl⟩
  rw [e, ho]
  simp only [Op.operands, Call.operands]
  exact Array.mem_append.2 (.inr (Array.getElem_mem hi))

theorem args_vr {ρ : Rho} {ev ev' : Operand → Value} {o : Oper} {c : Call} (ho : o.op = .call c) (hev : ∀ x ∈ o.op.operands, VR ρ (ev x) (ev' x)) :
    VRs ρ (c.args.map ev).toList (c.args.map ev').toList := by
  rw [Array.toList_map, Array.toList_map]
  refine VRs.map _ _ _ fun x hx => hev x ?_
  rw [ho]
  simp only [Op.operands, Call.operands]
  exact Array.mem_append.2 (.inr (by simpa using hx))

theorem delC_sound {ρ : Rho} {H H' : Heap} {w : World} {ty t : TypeId} {m m' k k' : Value} {at_ : Array TypeId} {ar : Array Value} (hR : Rel ρ H w) (hm : VR ρ m m') (hk : VR ρ k k')
    (ht : at_[0]? = some t) (a0 : ar[0]? = some m') (a1 : ar[1]? = some k') (h : delC P t m k H = some H') :
    ∃ w' ρ', (Builtin.delete_ at_ ty ar).run P w = .ok (.tuple #[]) w' ∧ Post ρ H w ρ' H' w' := by
  unfold delC at h
  split at h
  · rename_i kt et r hu
    obtain ⟨rb, hc, rfl⟩ := hm.map_inv
    split at h
    · rename_i es hes
      obtain ⟨hro, es', clock, hw, hE⟩ := hR.mapAt hc hes
      split at h
      · cases h
      · rename_i hfk
        have hfk : flat k = true := by simpa using hfk
        obtain rfl := hk.eq_of_flat hfk
        have hemp : es.isEmpty = es'.isEmpty := by
          have h1 := hE.len
          rw [Array.length_toList] at h1
          cases es with
          | nil => have : es' = #[] := Array.eq_empty_of_size_eq_zero (by simpa using h1.symm); subst this; rfl
          | cons e es =>
            have h2 : es'.size = es.length + 1 := by simpa using h1.symm
            simp only [List.isEmpty_cons, Array.isEmpty]; symm; rw [decide_eq_false_iff_not]; omega
        split at h
        · rename_i u i v0 hck hfd
          obtain ⟨r', q1, q2⟩ := findKey_par hE hfd
          cases r' with
          | none => exact q2.elim
          | some p =>
            obtain ⟨j, v1⟩ := p
            obtain ⟨rfl, _⟩ := q2
            injection h with h; subst h
            have hP := setObj_sound hR (ob' := .map (es'.eraseIdxIfInBounds i) clock) (o' := .map (es.eraseIdx i)) hc hes (fun _ h => by cases h) (fun _ h => by cases h) hw (fun _ _ _ h => by cases h) hro
              (fun es2 e2 => by
                injection e2 with e2; subst e2
                have hl := hE.len
                refine ⟨_, _, rfl, ?_⟩
                have e3 : (es'.eraseIdxIfInBounds i).toList = es'.toList.eraseIdx i := by
                  unfold Array.eraseIdxIfInBounds
                  split
                  · simp
                  · rw [List.eraseIdx_of_length_le]; simp; omega
                rw [e3]
                refine ⟨by simp only [List.length_eraseIdx, hl], fun a e e' x y => ?_⟩
                rw [List.getElem?_eraseIdx] at x y
                split at x
                · rename_i hlt; rw [if_pos hlt] at y; exact hE.at_ a e e' x y
                · rename_i hlt; rw [if_neg hlt] at y; exact hE.at_ _ e e' x y) (fun _ _ h => by cases h)
            refine ⟨_, ρ, ?_, hP⟩
            unfold Builtin.delete_
            simp only [ht, a0, a1, Sem.run_bind, run_underlying hu, Result.andThen_ok, run_getObj' hw (fun _ _ _ h => by cases h), ← hemp, pureRun_ok hck, pureRun_ok q1, run_setObj' hw (fun _ _ _ h => by cases h), Sem.run_pure]
        · rename_i u hck hfd
          obtain ⟨r', q1, q2⟩ := findKey_par hE hfd
          cases r' with
          | some p => exact q2.elim
          | none =>
            injection h with h; subst h
            have hP := setObj_sound hR (ob' := .map es' clock) (o' := .map es) hc hes (fun _ h => by cases h) (fun _ h => by cases h) hw (fun _ _ _ h => by cases h) hro
              (fun es2 e2 => by injection e2 with e2; subst e2; exact ⟨_, _, rfl, hE⟩) (fun _ _ h => by cases h)
            refine ⟨_, ρ, ?_, hP⟩
            unfold Builtin.delete_
            simp only [ht, a0, a1, Sem.run_bind, run_underlying hu, Result.andThen_ok, run_getObj' hw (fun _ _ _ h => by cases h), ← hemp, pureRun_ok hck, pureRun_ok q1, run_setObj' hw (fun _ _ _ h => by cases h), Sem.run_pure]
        · cases h
    · cases h
  · cases h

theorem builtinC_sound {ρ : Rho} {H : Heap} {w : World} {ev ev' : Operand → Value} {o : Oper} {c : Call} {b : Builtin} {r : Res} (ho : o.op = .call c) (hcb : c.callee = .builtin b) (hR : Rel ρ H w)
    (hev : ∀ x ∈ o.op.operands, VR ρ (ev x) (ev' x)) (h : builtinC P ev o b c H = some r) : ResRel ρ H w r ((execOp ev' o).run P w) := by
  have hgen : ∀ {r}, genC P ev o H = some r → ResRel ρ H w r ((execOp ev' o).run P w) := fun h => genC_sound hR (fun cs b h => by rw [ho] at h; cases h) hev h
  have hex : (execOp ev' o).run P w = (builtin b c.argTypes o.type (c.args.map fun | .const _ => true | _ => false) (c.args.map ev')).run P w := by
    simp only [execOp, ho, resolve, hcb, Sem.run_bind, Sem.run_pure, Result.andThen_ok, invoke]
    rfl
  have val : ∀ {s : Sem Value} {v' : Value} {w' : World}, s.run P w = .ok v' w' → ((do pure (.value (← s)) : Sem Next)).run P w = .ok (.value v') w' := fun h => by
    simp only [Sem.run_bind, h, Result.andThen_ok, Sem.run_pure]
  unfold builtinC at h
  simp only at h
  cases b with
  | len =>
    simp only at h
    split at h
    · rename_i e a n k hu heq
      split at h
      · rename_i hsz
        injection h with h; subst h
        obtain ⟨hx, h0⟩ := arg_vr (i := 0) ho hev (by omega)
        rw [heq] at hx
        obtain ⟨t, ht, hut⟩ : ∃ t, c.argTypes[0]? = some t ∧ P.underlying t = some (.slice e) := by
          cases hq : c.argTypes[0]? with
          | none => simp [hq] at hu
          | some t => exact ⟨t, rfl, by simpa [hq] using hu⟩
        obtain ⟨a', k', hxe⟩ : ∃ a' k', ev' (c.args.getD 0 (.const undef)) = .slice a' n k' := by
          generalize ev' (c.args.getD 0 (.const undef)) = y at hx
          cases hx <;> exact ⟨_, _, rfl⟩
        refine ⟨_, w, ρ, ?_, Post.refl hR, .int _ _⟩
        rw [hex]
        refine val ?_
        unfold Builtin.len_
        simp only [ht, h0, hxe, Sem.run_bind, run_underlying hut, Result.andThen_ok, Sem.run_pure]
        rfl
      · cases h
    · rename_i ka kb r2 hu heq
      split at h
      · rename_i es hes
        split at h
        · rename_i hsz
          injection h with h; subst h
          obtain ⟨hx, h0⟩ := arg_vr (i := 0) ho hev (by omega)
          rw [heq] at hx
          obtain ⟨rb, hc, hxe⟩ := hx.map_inv
          obtain ⟨hro, es', clock, hw, hE⟩ := hR.mapAt hc hes
          obtain ⟨t, ht, hut⟩ : ∃ t, c.argTypes[0]? = some t ∧ P.underlying t = some (.map ka kb) := by
            cases hq : c.argTypes[0]? with
            | none => simp [hq] at hu
            | some t => exact ⟨t, rfl, by simpa [hq] using hu⟩
          refine ⟨goInt es'.size, w, ρ, ?_, Post.refl hR, ?_⟩
          · rw [hex]
            refine val ?_
            unfold Builtin.len_
            simp only [ht, h0, hxe, Sem.run_bind, run_underlying hut, Result.andThen_ok, run_getObj' hw (fun _ _ _ h => by cases h), Sem.run_pure]
          · have := hE.len
            rw [this]; simp only [Array.length_toList]; exact .int _ _
        · cases h
      · cases h
    · exact hgen h
  | cap =>
    simp only at h
    split at h
    · rename_i e r2 off es n k hu heq
      split at h
      · rename_i b hb
        split at h
        · rename_i hcd
          obtain ⟨hexa, hsz, hk0⟩ := hcd
          injection h with h; subst h
          obtain ⟨hx, h0⟩ := arg_vr (i := 0) ho hev (by omega)
          rw [heq] at hx
          obtain ⟨rb, k', a, hc, hxe, _, _, _, hk3, _⟩ := hx.slice_inv
          obtain ⟨cs, t', fr, rr, _⟩ := hR.readable hc hb
          obtain ⟨t, ht, hut⟩ : ∃ t, c.argTypes[0]? = some t ∧ P.underlying t = some (.slice e) := by
            cases hq : c.argTypes[0]? with
            | none => simp [hq] at hu
            | some t => exact ⟨t, rfl, by simpa [hq] using hu⟩
          refine ⟨goInt k', w, ρ, ?_, Post.refl hR, ?_⟩
          · rw [hex]
            refine val ?_
            unfold Builtin.cap_
            simp only [ht, h0, hxe, Sem.run_bind, run_underlying hut, Result.andThen_ok, Sem.run_pure]
          · rw [hk3 (rr.exact.trans hexa)]; exact .int _ _
        · cases h
      · cases h
    · exact hgen h
  | append =>
    simp only at h
    split at h
    · rename_i hsz
      cases ha : appendC P c.argTypes (ev (c.args.getD 0 (.const undef))) (ev (c.args.getD 1 (.const undef))) H with
      | none => rw [ha] at h; cases h
      | some p =>
        obtain ⟨v, H'⟩ := p
        simp only [ha, Option.map_some, Option.some.injEq] at h; subst h
        obtain ⟨hx, h0⟩ := arg_vr (i := 0) ho hev (by omega)
        obtain ⟨hy, h1⟩ := arg_vr (i := 1) ho hev (by omega)
        obtain ⟨v', w', ρ', r1, r2, r3⟩ := appendC_sound (ty := o.type) hR hx hy h0 h1 ha
        exact ⟨v', w', ρ', by rw [hex]; exact val r1, r2, r3⟩
    · cases h
  | copy =>
    simp only at h
    split at h
    · rename_i hsz
      cases ha : copyC P c.argTypes (ev (c.args.getD 0 (.const undef))) (ev (c.args.getD 1 (.const undef))) H with
      | none => rw [ha] at h; cases h
      | some p =>
        obtain ⟨v, H'⟩ := p
        simp only [ha, Option.map_some, Option.some.injEq] at h; subst h
        obtain ⟨hx, h0⟩ := arg_vr (i := 0) ho hev (by omega)
        obtain ⟨hy, h1⟩ := arg_vr (i := 1) ho hev (by omega)
        obtain ⟨v', w', ρ', r1, r2, r3⟩ := copyC_sound (ty := o.type) hR hx hy h0 h1 ha
        exact ⟨v', w', ρ', by rw [hex]; exact val r1, r2, r3⟩
    · cases h
  | delete =>
    simp only at h
    split at h
    · rename_i t r2 ht heq
      split at h
      · rename_i hsz
        cases ha : delC P t (ev (c.args.getD 0 (.const undef))) (ev (c.args.getD 1 (.const undef))) H with
        | none => rw [ha] at h; cases h
        | some H' =>
          rw [ha] at h
          simp only [Option.map_some, Option.some.injEq] at h; subst h
          obtain ⟨hx, h0⟩ := arg_vr (i := 0) ho hev (by omega)
          obtain ⟨hy, h1⟩ := arg_vr (i := 1) ho hev (by omega)
          obtain ⟨w', ρ', r1, r2⟩ := delC_sound (ty := o.type) hR hx hy ht h0 h1 ha
          exact ⟨.tuple #[], w', ρ', by rw [hex]; exact val r1, r2, .tuple [] [] rfl (fun i v v' h => by simp at h)⟩
      · cases h
    · cases h
  | unsafeSliceData =>
    simp only at h
    split at h
    · rename_i r2 off es n k heq
      split at h
      · rename_i hcd
        injection h with h; subst h
        obtain ⟨hk0, hsz⟩ := hcd
        obtain ⟨hx, h0⟩ := arg_vr (i := 0) ho hev (by omega)
        rw [heq] at hx
        obtain ⟨rb, k', a, hc, hxe, ha, hk1, _, _, _⟩ := hx.slice_inv
        have ha' : a = ⟨rb.blk, rb.off + off, none⟩ := by
          rcases ha with h | ⟨h, _⟩
          · exact h
          · omega
        subst ha'
        have hm : c.args.map ev' = #[.slice (some ⟨rb.blk, rb.off + off, none⟩) n k'] := by
          apply Array.ext_getElem?
          intro i
          rcases Nat.eq_zero_or_pos i with h | h
          · subst h; rw [h0, hxe]; rfl
          · rw [Array.getElem?_eq_none (by simp; omega), Array.getElem?_eq_none (by simp; omega)]
        refine ⟨_, w, ρ, ?_, Post.refl hR, .ptr off hc⟩
        rw [hex, hm]
        refine val ?_
        show (if k' ≠ 0 then pure (.pointer (some ⟨rb.blk, rb.off + off, none⟩)) else _ : Sem Value).run P w = _
        rw [if_pos (by omega)]; rfl
      · cases h
    · exact hgen h
  | unsafeString =>
    simp only at h
    split at h
    · exact hgen h
    · split at h
      · rename_i hsz
        cases ha : unsafeStringC P c.argTypes (ev (c.args.getD 0 (.const undef))) (ev (c.args.getD 1 (.const undef))) H with
        | none => rw [ha] at h; cases h
        | some p =>
          obtain ⟨v, H'⟩ := p
          simp only [ha, Option.map_some, Option.some.injEq] at h; subst h
          obtain ⟨hx, h0⟩ := arg_vr (i := 0) ho hev (by omega)
          obtain ⟨hy, h1⟩ := arg_vr (i := 1) ho hev (by omega)
          have hm : c.args.map ev' = #[ev' (c.args.getD 0 (.const undef)), ev' (c.args.getD 1 (.const undef))] := by
            apply Array.ext_getElem?
            intro i
            by_cases i0 : i = 0
            · subst i0; rw [h0]; rfl
            · by_cases i1 : i = 1
              · subst i1; rw [h1]; rfl
              · rw [Array.getElem?_eq_none (by simp; omega), Array.getElem?_eq_none (by simp; omega)]
          obtain ⟨v', w', ρ', r1, r2, r3⟩ := unsafeStringC_sound (ty := o.type) hR hx hy hm ha
          exact ⟨v', w', ρ', by rw [hex]; exact val r1, r2, r3⟩
      · cases h
  | max => exact hgen h
  | min => exact hgen h
  | _ => cases h

end Go.Can

namespace Go.Can
open Go
variable {P : Program}

theorem VR.func_inv {ρ : Rho} {fn : Fn} {a c : Array Value} {v' : Value} (h : VR ρ (.func fn a c) v') : ∃ a' c', v' = .func fn a' c' ∧ VRs ρ a.toList a'.toList ∧ VRs ρ c.toList c'.toList := by
  cases h with
  | func fn l l' m m' hy h1 h2 h3 h4 => exact ⟨⟨l'⟩, ⟨m'⟩, rfl, ⟨h1, h3⟩, ⟨h2, h4⟩⟩

theorem callC_sound (hP : okProg P = true) {ρ : Rho} {H : Heap} {w : World} {ev ev' : Operand → Value} {o : Oper} {c : Call} {r : Res} (ho : o.op = .call c) (hR : Rel ρ H w)
    (hev : ∀ x ∈ o.op.operands, VR ρ (ev x) (ev' x)) (h : callC P ev o c H = some r) : ResRel ρ H w r ((execOp ev' o).run P w) := by
  unfold callC at h
  split at h
  · rename_i b hc
    exact builtinC_sound ho hc hR hev h
  · rename_i f hc
    have hf := hev f (by rw [ho]; simp [Op.operands, Call.operands, hc])
    have hargs := args_vr ho hev
    split at h
    · rename_i g first captured heq
      rw [heq] at hf
      obtain ⟨first', captured', hfe, hfirst, hcap⟩ := hf.func_inv
      split at h
      · rename_i fn hfn
        have hok : fn.name ≠ "runtime.NumGoroutine" := by
          have := Array.all_eq_true_iff_forall_mem.1 hP fn (Array.mem_of_getElem? hfn)
          simp only [okFunc, Bool.and_eq_true, bne_iff_ne, ne_eq] at this
          exact this.1
        have hall : VRs ρ (first ++ c.args.map ev ++ captured).toList (first' ++ c.args.map ev' ++ captured').toList := by
          simp only [Array.toList_append]
          exact (hfirst.append hargs).append hcap
        have hex : (execOp ev' o).run P w = (callFunc g (first' ++ c.args.map ev' ++ captured')).run P w := by
          simp only [execOp, ho, resolve, hc, hfe, Deferred.ofValue, Sem.run_bind, Sem.run_pure, Result.andThen_ok, invoke]
        split at h
        · rename_i hb
          injection h with h; subst h
          exact ⟨_, w, ρ, by rw [hex]; exact run_callFunc_body hfn hok hb w, Post.refl hR, hall⟩
        · rename_i hb
          have hb : fn.body = none := by cases hq : fn.body <;> simp_all
          split at h
          · rename_i hname
            obtain ⟨f1, f2⟩ := find_makeNoZero hname.1 hname.2
            split at h
            · rename_i n t hl ht
              split at h
              · rename_i e he
                split at h
                · rename_i hcd
                  obtain ⟨c1, c2, c3⟩ := hcd
                  injection h with h; subst h
                  have hargs' : first' ++ c.args.map ev' ++ captured' = #[.int .i64 n] := by
                    rw [hl] at hall
                    apply Array.ext'
                    generalize (first' ++ c.args.map ev' ++ captured').toList = L at hall ⊢
                    cases L with
                    | nil => have := hall.len; simp at this
                    | cons x L =>
                      cases L with
                      | nil => rw [hall.head.int_inv]
                      | cons y L => have := hall.len; simp at this
                  obtain ⟨v', w', ρ', r1, r2, r3⟩ := makeNoZero_sound (P := P) hR (ps := fn.params) ht he c1 c2 c3
                  exact ⟨v', w', ρ', by rw [hex, run_callFunc_noBody hfn hok hb f1 f2, hargs', r1]; rfl, r2, r3⟩
                · cases h
              · cases h
            · cases h
          · split at h
            · rename_i hname
              obtain ⟨f1, f2⟩ := find_noEscape hname.1 hname.2
              split at h
              · rename_i a hl
                injection h with h; subst h
                rw [hl] at hall
                obtain ⟨x', hx', hvx⟩ : ∃ x', first' ++ c.args.map ev' ++ captured' = #[x'] ∧ VR ρ (.pointer a) x' := by
                  generalize hL : first' ++ c.args.map ev' ++ captured' = L at hall ⊢
                  obtain ⟨L⟩ := L
                  cases L with
                  | nil => have := hall.len; simp at this
                  | cons x L =>
                    cases L with
                    | nil => exact ⟨x, rfl, hall.head⟩
                    | cons y L => have := hall.len; simp at this
                exact ⟨x', w, ρ, by rw [hex, run_callFunc_noBody hfn hok hb f1 f2, hx']; rfl, Post.refl hR, hvx⟩
              · cases h
            · split at h
              · rename_i hname
                obtain ⟨f1, f2⟩ := find_indexByte hname.1 hname.2
                split at h
                · rename_i s n hl
                  rw [hl] at hall
                  have hargs' : first' ++ c.args.map ev' ++ captured' = #[.string s, .int .u8 n] := by
                    apply Array.ext'
                    generalize (first' ++ c.args.map ev' ++ captured').toList = L at hall ⊢
                    cases L with
                    | nil => have := hall.len; simp at this
                    | cons x L =>
                      cases L with
                      | nil => have := hall.len; simp at this
                      | cons y L =>
                        cases L with
                        | nil => rw [hall.head.string_inv, hall.tail.head.int_inv]
                        | cons z L => have := hall.len; simp at this
                  split at h
                  · rename_i v hp
                    split at h
                    · rename_i hfl
                      injection h with h; subst h
                      exact ⟨v, w, ρ, by rw [hex, run_callFunc_noBody hfn hok hb f1 f2, hargs', pureRun_ok hp]; rfl, Post.refl hR, VR.of_flat _ _ hfl⟩
                    · cases h
                  · cases h
                · cases h
              · cases h
      · cases h
    · cases h
  · cases h

theorem valN {s : Sem Value} {w w' : World} {v' : Value} (h : s.run P w = .ok v' w') : ((do pure (.value (← s)) : Sem Next)).run P w = .ok (.value v') w' := by
  simp only [Sem.run_bind, h, Result.andThen_ok, Sem.run_pure]
theorem unitN {s : Sem Unit} {w w' : World} (h : s.run P w = .ok () w') : ((do s; pure .skip : Sem Next)).run P w = .ok .skip w' := by
  simp only [Sem.run_bind, h, Result.andThen_ok, Sem.run_pure]

theorem pure_valN {s : Sem Value} {v : Value} (h : pureRun P (do pure (.value (← s)) : Sem Next) = some (.ok (.value v))) : pureRun P s = some (.ok v) := by
  rw [pureRun_bind] at h
  cases hs : pureRun P s with
  | none => simp [hs] at h
  | some e =>
    cases e with
    | error u => simp [hs] at h
    | ok u => simp only [hs, pureRun_pure, Option.some.injEq, Except.ok.injEq, Next.value.injEq] at h; rw [h]

theorem nf_inv {ev : Operand → Value} {o : Oper} {H : Heap} {r : Res} (h : nfC P ev o H = some r) : ∃ v, pureRun P (execOp ev o) = some (.ok (.value v)) ∧ r = .val v H := by
  unfold nfC at h
  split at h
  · rename_i v hv; injection h with h; exact ⟨v, hv, h.symm⟩
  · cases h

theorem mkFunc_sound {ρ : Rho} {H : Heap} {w : World} {ev ev' : Operand → Value} {o : Oper} {r : Res} {g : FuncId} {first cap : Array Operand} (ho : o.op = .makeFunc (.func g) first cap) (hR : Rel ρ H w)
    (hev : ∀ x ∈ o.op.operands, VR ρ (ev x) (ev' x)) (h : nfC P ev o H = some r) : ResRel ρ H w r ((execOp ev' o).run P w) := by
  obtain ⟨v, hv, rfl⟩ := nf_inv h
  simp only [execOp, ho] at hv
  have hv := pure_valN hv
  simp only [Instr.makeFunc, pureRun_pure, Option.some.injEq, Except.ok.injEq] at hv
  subst hv
  have m1 : VRs ρ (first.map ev).toList (first.map ev').toList := by
    rw [Array.toList_map, Array.toList_map]
    exact VRs.map _ _ _ fun x hx => hev x (by rw [ho]; simp only [Op.operands]; exact Array.mem_append.2 (.inl (by simpa using hx)))
  have m2 : VRs ρ (cap.map ev).toList (cap.map ev').toList := by
    rw [Array.toList_map, Array.toList_map]
    exact VRs.map _ _ _ fun x hx => hev x (by rw [ho]; simp only [Op.operands]; exact Array.mem_append.2 (.inr (by simpa using hx)))
  refine ⟨.func (.func g) (first.map ev') (cap.map ev'), w, ρ, ?_, Post.refl hR, ?_⟩
  · simp only [execOp, ho]
    exact valN rfl
  · exact .func (.func g) (first.map ev).toList (first.map ev').toList (cap.map ev).toList (cap.map ev').toList (fun i e => by cases e) m1.len m2.len m1.at_ m2.at_

theorem cop_sound (hP : okProg P = true) {ρ : Rho} {H : Heap} {w : World} {ev ev' : Operand → Value} {o : Oper} {r : Res} (hR : Rel ρ H w) (hev : ∀ x ∈ o.op.operands, VR ρ (ev x) (ev' x))
    (h : cop P ev o H = some r) : ResRel ρ H w r ((execOp ev' o).run P w) := by
  have hgen : (∀ cs b, o.op ≠ .select cs b) → ∀ {r}, genC P ev o H = some r → ResRel ρ H w r ((execOp ev' o).run P w) := fun hs _ h => genC_sound hR hs hev h
  unfold cop at h
  split at h
  · -- move
    rename_i x ho
    injection h with h; subst h
    exact ⟨ev' x, w, ρ, by simp only [execOp, ho, Sem.run_pure], Post.refl hR, hev x (by simp [ho, Op.operands])⟩
  · -- assign
    rename_i x ho
    injection h with h; subst h
    exact ⟨ev' x, w, ρ, by simp only [execOp, ho, Sem.run_pure], Post.refl hR, hev x (by simp [ho, Op.operands])⟩
  · -- pick
    rename_i c a b ho
    have hc := hev c (by simp [ho, Op.operands])
    split at h
    · rename_i t heq
      injection h with h; subst h
      rw [heq] at hc
      refine ⟨if t then ev' a else ev' b, w, ρ, ?_, Post.refl hR, ?_⟩
      · simp only [execOp, ho, hc.bool_inv, asBool, Sem.run_bind, Sem.run_pure, Result.andThen_ok]
      · cases t with
        | true => exact hev a (by simp [ho, Op.operands])
        | false => exact hev b (by simp [ho, Op.operands])
    · cases h
  · -- alloc
    rename_i t ho
    cases hz : zeroB P t with
    | none => simp [hz] at h
    | some z =>
      simp only [hz, Option.map_some, Option.some.injEq] at h; subst h
      obtain ⟨z1, z2⟩ := run_zeroB hz w
      obtain ⟨w', ρ', n1, n2, n3⟩ := newVar_sound (P := P) hR t (VR.of_flat ρ z z2)
      refine ⟨_, w', ρ', ?_, n2, n3⟩
      simp only [execOp, ho]
      refine valN ?_
      simp only [Instr.alloc, Sem.run_bind, z1, Result.andThen_ok, n1, Sem.run_pure]
  · -- box
    rename_i t x ho
    injection h with h; subst h
    obtain ⟨w', ρ', n1, n2, n3⟩ := newVar_sound (P := P) hR t (hev x (by simp [ho, Op.operands]))
    refine ⟨_, w', ρ', ?_, n2, n3⟩
    simp only [execOp, ho]
    refine valN ?_
    simp only [Instr.box, Sem.run_bind, n1, Result.andThen_ok, Sem.run_pure]
  · -- buildSlice
    rename_i t len parts ho
    cases ha : buildSliceC P t len (parts.map fun (i, x) => (i, ev x)) H with
    | none => rw [ha] at h; cases h
    | some p =>
      obtain ⟨v, H'⟩ := p
      rw [ha] at h
      simp only [Option.map_some, Option.some.injEq] at h; subst h
      obtain ⟨v', w', ρ', r1, r2, r3⟩ := buildSliceC_sound (P := P) (ps' := parts.map fun (i, x) => (i, ev' x)) hR (by simp) (fun i p p' h1 h2 => by
        simp only [Array.toList_map, List.getElem?_map, Option.map_eq_some_iff] at h1 h2
        obtain ⟨q, hq, rfl⟩ := h1
        obtain ⟨q', hq', rfl⟩ := h2
        rw [hq] at hq'; injection hq' with hq'; subst hq'
        exact ⟨rfl, hev q.2 (by
          rw [ho]; simp only [Op.operands]
          rw [List.mem_toArray]
          exact List.mem_map.2 ⟨q, List.mem_of_getElem? hq, rfl⟩)⟩) ha
      refine ⟨v', w', ρ', ?_, r2, r3⟩
      simp only [execOp, ho]
      exact valN r1
  · -- load
    rename_i t a ho
    cases hl : loadC P t (ev a) H with
    | none => rw [hl] at h; cases h
    | some v =>
      rw [hl] at h
      simp only [Option.map_some, Option.some.injEq] at h; subst h
      obtain ⟨v', l1, l2⟩ := loadC_sound hR (hev a (by simp [ho, Op.operands])) hl
      refine ⟨v', w, ρ, ?_, Post.refl hR, l2⟩
      simp only [execOp, ho]
      exact valN l1
  · -- store
    rename_i t a x ho
    cases hl : storeC P t (ev a) (ev x) H with
    | none => rw [hl] at h; cases h
    | some H' =>
      rw [hl] at h
      simp only [Option.map_some, Option.some.injEq] at h; subst h
      obtain ⟨w', l1, l2⟩ := storeC_sound hR (hev a (by simp [ho, Op.operands])) (hev x (by simp [ho, Op.operands])) hl
      refine ⟨w', ρ, ?_, l2⟩
      simp only [execOp, ho]
      exact unitN l1
  · -- nilCheck
    rename_i x ho
    have hx := hev x (by simp [ho, Op.operands])
    split at h
    · rename_i a heq
      injection h with h; subst h
      rw [heq] at hx
      generalize hxe : ev' x = y at hx
      cases hx with
      | ptr off hc =>
        refine ⟨_, w, ρ, ?_, Post.refl hR, .ptr off hc⟩
        simp only [execOp, ho, hxe, Sem.run_pure]
    · rename_i g f c heq
      injection h with h; subst h
      rw [heq] at hx
      obtain ⟨f', c', hxe, h1, h2⟩ := hx.func_inv
      refine ⟨_, w, ρ, ?_, Post.refl hR, by rw [hxe] at hx; exact hx⟩
      simp only [execOp, ho, hxe, Sem.run_pure]
    · exact hgen (fun cs b h => by rw [ho] at h; cases h) h
  · -- binOp
    rename_i op t x y yt ho
    have hx := hev x (by simp [ho, Op.operands])
    have hy := hev y (by simp [ho, Op.operands])
    split at h
    · exact hgen (fun cs b h => by rw [ho] at h; cases h) h
    · split at h
      · cases hq : eqC P t (ev x) (ev y) with
        | none => rw [hq] at h; cases h
        | some b =>
          rw [hq] at h
          simp only [Option.map_some, Option.some.injEq] at h; subst h
          obtain ⟨e1, e2⟩ := eqC_sound hx hy hq w
          refine ⟨_, w, ρ, ?_, Post.refl hR, .bool b⟩
          simp only [execOp, ho]
          refine valN ?_
          simp only [Sem.run_bind, e2, Result.andThen_ok]
          have : (binOp .eql t (ev' x) (ev' y)) = (do pure (.bool (← Op.equal t (ev' x) (ev' y)))) := by
            unfold eqC at hq
            split at hq <;> first | (rename_i h1 h2 h3; rw [h2] at hx; rw [h3] at hy; generalize ev' x = x1 at hx; generalize ev' y = y1 at hy; cases hx <;> cases hy <;> rfl) | cases hq
          rw [this]
          simp only [Sem.run_bind, e1, Result.andThen_ok, Sem.run_pure]
      · cases hq : eqC P t (ev x) (ev y) with
        | none => rw [hq] at h; cases h
        | some b =>
          rw [hq] at h
          simp only [Option.map_some, Option.some.injEq] at h; subst h
          obtain ⟨e1, e2⟩ := eqC_sound hx hy hq w
          refine ⟨_, w, ρ, ?_, Post.refl hR, .bool !b⟩
          simp only [execOp, ho]
          refine valN ?_
          simp only [Sem.run_bind, e2, Result.andThen_ok]
          have : (binOp .neq t (ev' x) (ev' y)) = (do pure (.bool (!(← Op.equal t (ev' x) (ev' y))))) := by
            unfold eqC at hq
            split at hq <;> first | (rename_i h1 h2 h3; rw [h2] at hx; rw [h3] at hy; generalize ev' x = x1 at hx; generalize ev' y = y1 at hy; cases hx <;> cases hy <;> rfl) | cases hq
          rw [this]
          simp only [Sem.run_bind, e1, Result.andThen_ok, Sem.run_pure]
      · cases h
  · -- fieldAddr
    rename_i s x f ho
    have hx := hev x (by simp [ho, Op.operands])
    split at h
    · rename_i fields c off hu heq
      rw [heq] at hx
      obtain ⟨rb, hc, hxe⟩ := hx.ptr_inv
      split at h
      · rename_i fd hfd
        split at h
        · rename_i n hn
          split at h
          · rename_i h0
            injection h with h; subst h
            refine ⟨_, w, ρ, ?_, Post.refl hR, .ptr (off + fd.offset) hc⟩
            simp only [execOp, ho]
            refine valN ?_
            simp only [Instr.fieldAt, Sem.run_bind, run_underlying hu, Result.andThen_ok, hfd, hxe, Instr.sureAddr, Sem.run_pure, fieldPlace, run_sizeB hn]
            rw [if_neg h0]
            simp only [Sem.run_pure, Result.andThen_ok, addr_add, Nat.add_assoc]
          · cases h
        · cases h
      · cases h
    · cases h
  · -- indexAddr
    rename_i t x ix ho
    have hx := hev x (by simp [ho, Op.operands])
    have hi := hev ix (by simp [ho, Op.operands])
    split at h
    · rename_i e c off es len cap i hu heq hii
      rw [heq] at hx
      obtain ⟨rb, k', a, hc, hxe, ha, hk1, hk2, hk3, hk4⟩ := hx.slice_inv
      split at h
      · rename_i hcd
        obtain ⟨c1, c2, c3⟩ := hcd
        injection h with h; subst h
        obtain ⟨hie, kk, hik⟩ := intC_inv hi hii
        have ha' : a = ⟨rb.blk, rb.off + off, none⟩ := by
          rcases ha with h | ⟨h, _⟩
          · exact h
          · omega
        subst ha'
        refine ⟨_, w, ρ, ?_, Post.refl hR, .ptr (off + i.toNat * es) hc⟩
        simp only [execOp, ho]
        refine valN ?_
        simp only [Instr.indexAt, hie, hik, asIntOf, Sem.run_bind, Sem.run_pure, Result.andThen_ok, run_underlying hu, hxe]
        rw [if_pos ⟨c1, c2⟩]
        simp only [Sem.run_bind, run_sizeB c3, Result.andThen_ok, Sem.run_pure, addr_add, Nat.add_assoc]
      · cases h
    · rename_i len e c off i hu heq hii
      rw [heq] at hx
      obtain ⟨rb, hc, hxe⟩ := hx.ptr_inv
      split at h
      · rename_i n hn
        split at h
        · rename_i hcd
          obtain ⟨c1, c2⟩ := hcd
          injection h with h; subst h
          obtain ⟨hie, kk, hik⟩ := intC_inv hi hii
          refine ⟨_, w, ρ, ?_, Post.refl hR, .ptr (off + i.toNat * n) hc⟩
          simp only [execOp, ho]
          refine valN ?_
          simp only [Instr.indexAt, hie, hik, asIntOf, Sem.run_bind, Sem.run_pure, Result.andThen_ok, run_underlying hu, hxe, Instr.sureAddr]
          rw [if_pos ⟨c1, c2⟩]
          simp only [Sem.run_bind, run_sizeB hn, Result.andThen_ok, Sem.run_pure, addr_add, Nat.add_assoc]
        · cases h
      · cases h
    · cases h
  · -- slice
    rename_i t x lo hi mx ho
    have hx := hev x (by simp [ho, Op.operands])
    split at h
    · exact hgen (fun cs b h => by rw [ho] at h; cases h) h
    · exact hgen (fun cs b h => by rw [ho] at h; cases h) h
    · cases hq : sliceC P t (ev x) (lo.map ev) (hi.map ev) (mx.map ev) H with
      | none => rw [hq] at h; cases h
      | some v =>
        rw [hq] at h
        simp only [Option.map_some, Option.some.injEq] at h; subst h
        obtain ⟨_, b1, b2, b3⟩ := sliceC_sound (P := P) hR hx hq
        obtain ⟨⟨v', s1, s2⟩, _⟩ := sliceC_sound (P := P) hR hx hq
        refine ⟨v', w, ρ, ?_, Post.refl hR, s2⟩
        simp only [execOp, ho]
        refine valN ?_
        rw [opt_same (ρ := ρ) (fun y hy => hev y (by subst hy; simp [ho, Op.operands])) b1, opt_same (ρ := ρ) (fun y hy => hev y (by subst hy; simp [ho, Op.operands])) b2,
          opt_same (ρ := ρ) (fun y hy => hev y (by subst hy; simp [ho, Op.operands])) b3]
        exact s1
  · -- convert
    rename_i src dst x ho
    exact convC_sound ho hR hev h
  · -- makeInterface
    rename_i t x ho
    obtain ⟨v, hv, rfl⟩ := nf_inv h
    simp only [execOp, ho] at hv
    obtain ⟨v', p1, p2⟩ := iface_par (hev x (by simp [ho, Op.operands])) (pure_valN hv)
    refine ⟨v', w, ρ, ?_, Post.refl hR, p2⟩
    simp only [execOp, ho]
    exact valN (pureRun_ok p1 w)
  · -- field
    rename_i t x f ho
    obtain ⟨v, hv, rfl⟩ := nf_inv h
    simp only [execOp, ho] at hv
    obtain ⟨v', p1, p2⟩ := field_par (hev x (by simp [ho, Op.operands])) (pure_valN hv)
    refine ⟨v', w, ρ, ?_, Post.refl hR, p2⟩
    simp only [execOp, ho]
    exact valN (pureRun_ok p1 w)
  · -- extract
    rename_i x i ho
    obtain ⟨v, hv, rfl⟩ := nf_inv h
    simp only [execOp, ho] at hv
    obtain ⟨v', p1, p2⟩ := extract_par (hev x (by simp [ho, Op.operands])) (pure_valN hv)
    refine ⟨v', w, ρ, ?_, Post.refl hR, p2⟩
    simp only [execOp, ho]
    exact valN (pureRun_ok p1 w)
  · -- makeFunc
    rename_i fn first cap ho
    split at h
    · rename_i g
      exact mkFunc_sound ho hR hev h
    · cases h
  · -- build
    rename_i t parts ho
    split at h
    · rename_i hzs
      obtain ⟨v, hv, rfl⟩ := nf_inv h
      simp only [execOp, ho] at hv
      have hv := pure_valN hv
      obtain ⟨v', p1, p2⟩ := build_par (ρ := ρ) (ps' := parts.map fun (i, x) => (i, ev' x)) (by simp) (fun i p p' h1 h2 => by
        simp only [Array.toList_map, List.getElem?_map, Option.map_eq_some_iff] at h1 h2
        obtain ⟨q, hq, rfl⟩ := h1
        obtain ⟨q', hq', rfl⟩ := h2
        rw [hq] at hq'; injection hq' with hq'; subst hq'
        exact ⟨rfl, hev q.2 (by
          rw [ho]; simp only [Op.operands]
          rw [List.mem_toArray]
          exact List.mem_map.2 ⟨q, List.mem_of_getElem? hq, rfl⟩)⟩) (fun _ _ => trivial) hzs hv
      refine ⟨v', w, ρ, ?_, Post.refl hR, p2⟩
      simp only [execOp, ho]
      exact valN (pureRun_ok p1 w)
    · cases h
  · -- index
    rename_i t x ix ho
    have hx := hev x (by simp [ho, Op.operands])
    split at h
    · rename_i cs heq
      obtain ⟨v, hv, rfl⟩ := nf_inv h
      simp only [execOp, ho] at hv
      have hv := pure_valN hv
      rw [heq] at hv hx
      have hii : ∃ k n, ev ix = .int k n := by
        unfold Instr.index at hv
        rw [pureRun_bind] at hv
        cases hq : ev ix with
        | int k n => exact ⟨k, n, rfl⟩
        | pointer a => rw [hq] at hv; cases a <;> simp [asIntOf, pureRun_stuck, pureRun_unsupported] at hv
        | _ => rw [hq] at hv; simp [asIntOf, pureRun_stuck] at hv
      obtain ⟨k, n, hq⟩ := hii
      have hie : ev' ix = ev ix := by
        have := hev ix (by simp [ho, Op.operands])
        rw [hq] at this ⊢; exact this.int_inv
      obtain ⟨v', p1, p2⟩ := index_par hx ⟨k, n, hq⟩ hv
      refine ⟨v', w, ρ, ?_, Post.refl hR, p2⟩
      simp only [execOp, ho, hie]
      exact valN (pureRun_ok p1 w)
    · exact hgen (fun cs b h => by rw [ho] at h; cases h) h
  · -- makeMap
    rename_i t rr ho
    split at h
    · rename_i ka kb hu hrr
      injection h with h; subst h
      have hP := newObj_sound hR (.map []) (.map #[] 0) (.inl ⟨rfl, 0, rfl⟩)
      have hrn : rr = none := by cases rr with | none => rfl | some x => simp at hrr
      refine ⟨.map (some w.heap.size), _, _, ?_, hP, .map (rb := ⟨w.heap.size, 0, 0, false, true⟩) (Rho.add_same _ _ _)⟩
      simp only [execOp, ho, hrn]
      exact valN rfl
    · rename_i ka kb i hu hrr
      injection h with h; subst h
      have hP := newObj_sound hR (.map []) (.map #[] 0) (.inl ⟨rfl, 0, rfl⟩)
      refine ⟨.map (some w.heap.size), _, _, ?_, hP, .map (rb := ⟨w.heap.size, 0, 0, false, true⟩) (Rho.add_same _ _ _)⟩
      obtain ⟨x, rfl, hix⟩ : ∃ x, rr = some x ∧ intC (ev x) = some i := by cases rr with | none => simp at hrr | some x => exact ⟨x, rfl, by simpa using hrr⟩
      obtain ⟨hie, kk, hik⟩ := intC_inv (hev x (by simp [ho, Op.operands])) hix
      simp only [execOp, ho]
      refine valN ?_
      simp only [Instr.makeMap, Option.map_some, Sem.run_bind, run_underlying hu, Result.andThen_ok, hie, hik, asInt, asIntOf, Sem.run_pure]
      rfl
    · cases h
  · -- makeSlice
    rename_i t l c ho
    cases hq : makeSliceC P t (ev l) (ev c) H with
    | none => rw [hq] at h; cases h
    | some p =>
      obtain ⟨v, H'⟩ := p
      rw [hq] at h
      simp only [Option.map_some, Option.some.injEq] at h; subst h
      obtain ⟨v', w', ρ', r1, r2, r3⟩ := makeSliceC_sound (P := P) hR (hev l (by simp [ho, Op.operands])) (hev c (by simp [ho, Op.operands])) hq
      refine ⟨v', w', ρ', ?_, r2, r3⟩
      simp only [execOp, ho]
      exact valN r1
  · -- lookup
    rename_i t x ix ok ho
    have hx := hev x (by simp [ho, Op.operands])
    split at h
    · rename_i r2 heq
      cases hq : lookC P t (.map (some r2)) (ev ix) ok H with
      | none => rw [hq] at h; cases h
      | some v =>
        rw [hq] at h
        simp only [Option.map_some, Option.some.injEq] at h; subst h
        rw [heq] at hx
        obtain ⟨v', r1, r3⟩ := lookC_sound (P := P) hR hx (hev ix (by simp [ho, Op.operands])) hq
        refine ⟨v', w, ρ, ?_, Post.refl hR, r3⟩
        simp only [execOp, ho]
        exact valN r1
    · exact hgen (fun cs b h => by rw [ho] at h; cases h) h
  · -- mapUpdate
    rename_i t m k x ho
    cases hq : mapUpdC P t (ev m) (ev k) (ev x) H with
    | none => rw [hq] at h; cases h
    | some H' =>
      rw [hq] at h
      simp only [Option.map_some, Option.some.injEq] at h; subst h
      obtain ⟨w', ρ', r1, r2⟩ := mapUpdC_sound (P := P) hR (hev m (by simp [ho, Op.operands])) (hev k (by simp [ho, Op.operands])) (hev x (by simp [ho, Op.operands])) hq
      refine ⟨w', ρ', ?_, r2⟩
      simp only [execOp, ho]
      exact unitN r1
  · -- insert
    rename_i t m k x ho
    cases hq : mapUpdC P t (ev m) (ev k) (ev x) H with
    | none => rw [hq] at h; cases h
    | some H' =>
      rw [hq] at h
      simp only [Option.map_some, Option.some.injEq] at h; subst h
      obtain ⟨w', ρ', r1, r2⟩ := mapUpdC_sound (P := P) hR (hev m (by simp [ho, Op.operands])) (hev k (by simp [ho, Op.operands])) (hev x (by simp [ho, Op.operands])) hq
      refine ⟨w', ρ', ?_, r2⟩
      simp only [execOp, ho]
      exact unitN r1
  · -- range
    rename_i t x ho
    have hx := hev x (by simp [ho, Op.operands])
    split at h
    · rename_i s hu heq
      injection h with h; subst h
      rw [heq] at hx
      have hP := newObj_sound hR (.siter s 0) (.stringIter s 0) (.inr ⟨s, 0, rfl, rfl⟩)
      refine ⟨.pointer (some ⟨w.heap.size, 0, none⟩), _, _, ?_, hP, by simpa [ptr] using VR.ptr (ρ := ρ.add H.next ⟨w.heap.size, 0, 0, false, true⟩) 0 (Rho.add_same _ _ _)⟩
      simp only [execOp, ho]
      refine valN ?_
      simp only [Instr.range, Sem.run_bind, run_underlying hu, Result.andThen_ok, hx.string_inv, Sem.run_pure]
      rfl
    · cases h
  · -- next
    rename_i it ho
    have hx := hev it (by simp [ho, Op.operands])
    split at h
    · rename_i r2 heq
      rw [heq] at hx
      obtain ⟨rb, hc, hxe⟩ := hx.ptr_inv
      split at h
      · rename_i s pos hs
        obtain ⟨hro, hof, hw⟩ := hR.siter r2 rb s pos hc hs
        split at h
        · rename_i hlt
          injection h with h; subst h
          have hP := setObj_sound hR (ob' := .stringIter s (pos + (Utf8.decode s pos).2)) (o' := .siter s (pos + (Utf8.decode s pos).2)) hc hs (fun _ h => by cases h) (fun _ h => by cases h) hw (fun _ _ _ h => by cases h) hro
            (fun _ h => by cases h) (fun s2 p2 h => by injection h with h1 h2; subst h1 h2; exact ⟨hof, rfl⟩)
          refine ⟨.tuple #[.bool true, goInt pos, .int .i32 (Utf8.decode s pos).1], _, ρ, ?_, hP, .tuple _ _ rfl (VRs.cons (.bool true) (VRs.cons (.int _ _) (VRs.cons (.int _ _) (VRs.nil ρ)))).at_⟩
          simp only [execOp, ho]
          refine valN ?_
          simp only [Instr.next, hxe, hof, Nat.add_zero, Sem.run_bind, run_getObj' hw (fun _ _ _ h => by cases h), Result.andThen_ok, hlt, if_true, run_setObj' hw (fun _ _ _ h => by cases h), Sem.run_pure]
        · rename_i hlt
          injection h with h; subst h
          refine ⟨.tuple #[.bool false], w, ρ, ?_, Post.refl hR, .tuple _ _ rfl (VRs.cons (.bool false) (VRs.nil ρ)).at_⟩
          simp only [execOp, ho]
          refine valN ?_
          simp only [Instr.next, hxe, hof, Nat.add_zero, Sem.run_bind, run_getObj' hw (fun _ _ _ h => by cases h), Result.andThen_ok, hlt, if_false, Sem.run_pure]
      · cases h
    · cases h
  · -- typeAssert
    rename_i x xt asserted ok ho
    have hx := hev x (by simp [ho, Op.operands])
    split at h
    · rename_i t v d heq hu
      split at h
      · exact hgen (fun cs b h => by rw [ho] at h; cases h) h
      · split at h
        · cases h
        · rename_i hnd
          rw [heq] at hx
          obtain ⟨v2, hxe, hv2⟩ : ∃ v2, ev' x = .iface t v2 ∧ VR ρ v v2 := by
            generalize ev' x = y at hx
            cases hx with
            | iface t h => exact ⟨_, rfl, h⟩
          split at h
          · rename_i hta
            injection h with h; subst h hta
            refine ⟨if ok then .tuple #[v2, .bool true] else v2, w, ρ, ?_, Post.refl hR, ?_⟩
            · simp only [execOp, ho]
              refine valN ?_
              simp only [Instr.typeAssert, Sem.run_bind, run_underlying hu, Result.andThen_ok, hxe]
              cases d <;> simp_all [isIface]
            · cases ok with
              | true => exact .tuple _ _ rfl (VRs.cons hv2 (VRs.cons (.bool true) (VRs.nil ρ))).at_
              | false => exact hv2
          · rename_i hta
            split at h
            · rename_i hok
              cases hz : zeroB P asserted with
              | none => rw [hz] at h; cases h
              | some z =>
                rw [hz] at h
                simp only [Option.map_some, Option.some.injEq] at h; subst h
                obtain ⟨z1, z2⟩ := run_zeroB hz w
                refine ⟨.tuple #[z, .bool false], w, ρ, ?_, Post.refl hR, .tuple _ _ rfl (VRs.cons (VR.of_flat ρ z z2) (VRs.cons (.bool false) (VRs.nil ρ))).at_⟩
                simp only [execOp, ho]
                refine valN ?_
                simp only [Instr.typeAssert, Sem.run_bind, run_underlying hu, Result.andThen_ok, hxe]
                cases d <;> simp_all [isIface]
            · cases h
    · exact hgen (fun cs b h => by rw [ho] at h; cases h) h
  · -- call
    rename_i c ho
    exact callC_sound hP ho hR hev h
  · -- defer
    rename_i c ho
    split at h
    · rename_i f hc
      have hf := hev f (by rw [ho]; simp [Op.operands, Call.operands, hc])
      split at h
      · rename_i g first captured heq
        rw [heq] at hf
        obtain ⟨first', captured', hfe, hfirst, hcap⟩ := hf.func_inv
        injection h with h; subst h
        refine ⟨{ target := .fn (.func g) captured', args := first' ++ c.args.map ev' }, w, ρ, ?_, Post.refl hR, ⟨⟨g, captured, captured', rfl, rfl, hcap⟩, ?_⟩⟩
        · simp only [execOp, ho, resolve, hc, hfe, Deferred.ofValue, Sem.run_bind, Sem.run_pure, Result.andThen_ok]
        · simp only [Array.toList_append]
          refine hfirst.append ?_
          rw [Array.toList_map, Array.toList_map]
          exact VRs.map _ _ _ fun x hx => hev x (by rw [ho]; simp only [Op.operands, Call.operands]; exact Array.mem_append.2 (.inr (by simpa using hx)))
      · cases h
    · cases h
  · rename_i a b c ho
    exact hgen (fun cs b h => by rw [ho] at h; cases h) h
  · rename_i a ho
    exact hgen (fun cs b h => by rw [ho] at h; cases h) h
  · cases h

end Go.Can
