/- What the quick operations give, the plain ones give. -/
import Derived.Test.YtedibiiolneooaaDoorC37

namespace Go.Can
open Go

variable {P : Program} {t : Tr Value} {H : Heap} {o : Oper} {r : Res}

theorem movF_eq (x : Operand) : movF t x H = some (.val (evF t x) H) := by
  cases x with
  | tmp n => simp only [movF, evF]; split <;> rename_i h <;> rw [h]
  | const v => rfl
  | global g => rfl
  | func f => rfl

theorem pickF_sound {c a b : Operand} (ho : o.op = .pick c a b) (h : pickF t c a b H = some r) : cop P (evF t) o H = some r := by
  unfold pickF at h
  simp only [cop, ho]
  split at h
  · rename_i e; rw [e, movF_eq] at *; simpa using h
  · rename_i e; rw [e, movF_eq] at *; simpa using h
  · cases h

theorem ptrF_inv {v : Value} {k : Nat → Nat → Option Res} (h : ptrF v k = some r) : ∃ c off, v = .pointer (some ⟨c, off, none⟩) ∧ k c off = some r := by
  unfold ptrF at h
  split at h
  · exact ⟨_, _, rfl, h⟩
  · cases h

theorem load1F_sound {ty : TypeId} {x : Operand} (ho : o.op = .load ty x) (hs : isAggB P ty = some false) (h : load1F (evF t x) H = some r) : cop P (evF t) o H = some r := by
  unfold load1F at h
  obtain ⟨c, off, hv, h⟩ := ptrF_inv h
  simp only [cop, ho, loadC, hv, hs]
  rw [readF_eq] at h
  split at h
  · rename_i b hb
    rw [hb]
    rw [nthF_eq] at h
    split at h
    · rename_i v hn
      simp only [hn]
      split at h
      · rename_i hk; simpa [hk] using h
      · cases h
    · cases h
  · cases h

theorem loadNF_sound {ty : TypeId} {x : Operand} {n : Nat} (hp : 0 < n) (ho : o.op = .load ty x) (hs : isAggB P ty = some true) (hn : sizeB P ty = some n) (h : loadNF n (evF t x) H = some r) :
    cop P (evF t) o H = some r := by
  unfold loadNF at h
  obtain ⟨c, off, hv, h⟩ := ptrF_inv h
  simp only [cop, ho, loadC, hv, hs, hn]
  rw [readF_eq] at h
  split at h
  · rename_i b hb
    rw [hb]
    split at h
    · rename_i l hl
      obtain ⟨h1, h2, h3⟩ := takeK_eq _ _ _ hl
      rw [dropF_eq] at h1 h2
      simp only []
      rw [List.length_drop] at h1
      rw [if_pos ⟨by omega, by rw [← h2]; exact h3⟩, ← h2]
      simpa using h
    · cases h
  · cases h


theorem storeF_sound {ty : TypeId} {x v : Operand} {n : Nat} (ho : o.op = .store ty x v) (hn : sizeB P ty = some n) (h : storeF n (evF t x) (evF t v) H = some r) : cop P (evF t) o H = some r := by
  unfold storeF at h
  obtain ⟨c, off, hv, h⟩ := ptrF_inv h
  simp only [cop, ho, storeC, hv, hn]
  split at h
  rename_i l hl
  split at h
  · rename_i hb
    rw [lenF_eq, beq_dec] at hb
    have hb := of_decide_eq_true hb
    simp only [Nat.zero_add] at hb
    split at h
    · rename_i H' hw
      have e : some (evF t v).cells.size = some n := by rw [hl]; simp [← hb]
      rw [if_pos e, hl, wrF_eq _ _ _ _ _ hw]
      simpa using h
    · cases h
  · cases h

theorem nilChkF_sound {x : Operand} (ho : o.op = .nilCheck x) (h : nilChkF P t x o H = some r) : cop P (evF t) o H = some r := by
  unfold nilChkF at h
  split at h
  · rename_i a e
    simp only [cop, ho, e]; exact h
  · exact h

theorem binOpF_sound {op : BinOp} {ty yt : TypeId} {x y : Operand} (ho : o.op = .binOp op ty x y yt) (h : binOpF P t op x y o H = some r) : cop P (evF t) o H = some r := by
  unfold binOpF at h
  split at h
  · rename_i v hb
    obtain ⟨h1, h2, h3, h4⟩ := binF_sound (P := P) (t := ty) (xo := x) (yo := y) hb
    simp only [cop, ho, h1, h2, Bool.and_self, if_true, genC]
    have hall : o.op.operands.all (fun z => flat (evF t z)) = true := by rw [ho]; simp [Op.operands, h1, h2]
    rw [ho] at hall
    have hp : pureRun P (execOp (evF t) o) = some (.ok (.value v)) := by
      simp only [execOp, ho]
      rw [pureRun_bind, h4]
      rfl
    rw [if_pos hall, hp]
    simp only [h3, if_true]
    exact h
  · exact h

theorem addOff_sound {s : TypeId} {x : Operand} {f : Nat} (ho : o.op = .fieldAddr s x f) (h : runF P t (fField P s x f) o H = some r) : cop P (evF t) o H = some r := by
  unfold fField at h
  split at h
  · rename_i fields hu
    split at h
    · rename_i fd hf
      split at h
      · rename_i n hz
        simp only [runF] at h
        obtain ⟨c, off, hv, h⟩ := ptrF_inv h
        simp only [cop, ho, hu, hv, hf, hz]
        rw [succF_eq] at h
        rw [if_pos (by omega)]
        exact h
      · exact h
    · exact h
  · exact h

theorem natI {i : Int} {n : Nat} (h : i = Int.ofNat n) : 0 ≤ i ∧ i.toNat = n := by subst h; simp

theorem index_sound {ty : TypeId} {x ix : Operand} (ho : o.op = .indexAddr ty x ix) (h : runF P t (fIndex P ty x ix) o H = some r) : cop P (evF t) o H = some r := by
  unfold fIndex at h
  split at h
  · rename_i e hu
    split at h
    · rename_i es hz
      simp only [runF, idxSF] at h
      split at h
      · rename_i c off e' len cap hx
        split at h
        · rename_i k n hi
          split at h
          · rename_i h1 h2
            have h1 := Nat.le_of_ble_eq_true h1
            have h2 := Nat.eq_of_beq_eq_true h2
            subst h2
            simp only [cop, ho, hu, hx, hi, intC]
            rw [if_pos ⟨by simp, by simp; omega, hz⟩]
            rw [succF_eq] at h
            exact h
          · cases h
        · cases h
      · cases h
    · exact h
  · rename_i len e hu
    split at h
    · rename_i n hz
      simp only [runF, idxAF] at h
      obtain ⟨c, off, hx, h⟩ := ptrF_inv h
      split at h
      · rename_i k m hi
        split at h
        · rename_i h1
          have h1 := Nat.le_of_ble_eq_true h1
          simp only [cop, ho, hu, hx, hi, intC, hz]
          rw [if_pos ⟨by simp, by simp; omega⟩]
          rw [succF_eq] at h
          exact h
        · cases h
      · cases h
    · exact h
  · exact h

theorem extrF_sound {x : Operand} {n : Nat} (ho : o.op = .extract x n) (h : extrF n (evF t x) H = some r) : cop P (evF t) o H = some r := by
  unfold extrF at h
  split at h
  · rename_i l hx
    rw [nthF_eq] at h
    split at h
    · rename_i v hn
      simp only [cop, ho, nfC]
      have hp : pureRun P (execOp (evF t) o) = some (.ok (.value v)) := by
        simp only [execOp, ho, hx, Instr.extract]
        rw [pureRun_bind]
        have : (({ toList := l } : Array Value)[n]?) = some v := by simpa using hn
        rw [this]
        rfl
      rw [hp]
      exact h
    · cases h
  · cases h

theorem idxT_sound {ty : TypeId} {x ix : Operand} (ho : o.op = .index ty x ix) (h : runF P t (fIdx P ty x ix) o H = some r) : cop P (evF t) o H = some r := by
  unfold fIdx at h
  split at h
  · rename_i hu
    simp only [runF, idxTF] at h
    split at h
    · rename_i s k n hx hi
      split at h
      · rename_i b hn
        rw [nthF_eq] at hn
        simp only [cop, ho, hx, genC]
        have hall : (Op.index ty x ix).operands.all (fun z => flat (evF t z)) = true := by simp [Op.operands, hx, hi, flat]
        have hp : pureRun P (execOp (evF t) o) = some (.ok (.value (.int .u8 (Int.ofNat b.toNat)))) := by
          simp only [execOp, ho, hx, hi, Instr.index, asIntOf]
          rw [pureRun_bind, pureRun_bind]
          simp only [pureRun_pure]
          rw [pureRun_bind, pureRun_underlying, hu]
          simp only [Option.map]
          have hs : (if (0 : Int) ≤ Int.ofNat n then s[(Int.ofNat n).toNat]? else none) = some b := by
            rw [if_pos (by simp)]
            have hlt : n < s.data.toList.length := by
              rcases Nat.lt_or_ge n s.data.toList.length with h' | h'
              · exact h'
              · rw [List.getElem?_eq_none h'] at hn; cases hn
            have hlt' : n < s.size := by rw [size_data]; exact hlt
            show s[n]? = some b
            rw [getElem?_pos s n hlt']
            rw [List.getElem?_eq_getElem hlt] at hn
            rw [← hn]
            rfl
          rw [hs]
          rfl
        rw [if_pos hall, hp]
        exact h
      · exact h
    · exact h
  · exact h

theorem alloc_soundF {ty : TypeId} (ho : o.op = .alloc ty) (h : runF P t (fAlloc P ty) o H = some r) : cop P (evF t) o H = some r := by
  unfold fAlloc at h
  split at h
  · rename_i z hz
    simp only [runF] at h
    simp only [cop, ho, hz, Option.map]
    rw [newF_eq] at h
    exact h
  · exact h

theorem arr_map (f : Operand → Value) (a : Array Operand) : (⟨mapF f a.toList⟩ : Array Value) = a.map f := by
  rw [mapF_eq]
  apply Array.ext'
  simp

theorem call_soundF {c : Call} (ho : o.op = .call c) (h : runF P t (fCall P c) o H = some r) : cop P (evF t) o H = some r := by
  unfold fCall at h
  split at h
  · rename_i hc
    split at h
    · rename_i e x hu ha
      have hs : c.args.size = 1 := by rw [← Array.length_toList, ha]; rfl
      have hx0 : c.args.getD 0 (.const undef) = x := by
        rw [Array.getD_eq_getD_getElem?, ← Array.getElem?_toList, ha]; rfl
      simp only [runF, lenSF] at h
      split at h
      · rename_i a n cap hx
        simp only [cop, ho, callC, hc, builtinC, hu, hx0, hx]
        rw [if_pos hs]
        exact h
      · exact h
    · rename_i x hu ha
      have hs : c.args.size = 1 := by rw [← Array.length_toList, ha]; rfl
      have hx0 : c.args.getD 0 (.const undef) = x := by
        rw [Array.getD_eq_getD_getElem?, ← Array.getElem?_toList, ha]; rfl
      have hargs : c.args = #[x] := Array.ext' ha
      simp only [runF, lenTF] at h
      split at h
      · rename_i s hx
        simp only [cop, ho, callC, hc, builtinC, hu, hx0, hx, genC]
        have hall : (Op.call c).operands.all (fun z => flat (evF t z)) = true := by
          simp [Op.operands, Call.operands, hc, hargs, hx, flat]
        have hp : pureRun P (execOp (evF t) o) = some (.ok (.value (goInt (Int.ofNat (lenF s.data.toList (nat_lit 0)))))) := by
          have hl : Int.ofNat (lenF s.data.toList (nat_lit 0)) = (s.size : Int) := by
            rw [lenF_eq, size_data]; simp
          rw [hl]
          simp only [execOp, ho, resolve, hc, hargs]
          rw [pureRun_bind]
          simp only [pureRun_pure, invoke]
          obtain ⟨ty, hty⟩ : ∃ ty, c.argTypes[0]? = some ty := by
            cases hq : c.argTypes[0]? with
            | none => rw [hq] at hu; cases hu
            | some ty => exact ⟨ty, rfl⟩
          rw [hty] at hu
          have hu : P.underlying ty = some .string := hu
          have hl2 : pureRun P (Builtin.len_ c.argTypes o.type #[.string s]) = some (.ok (goInt (s.size : Int))) := by
            simp only [Builtin.len_, hty]
            show pureRun P (underlying ty >>= _) = _
            rw [pureRun_bind, pureRun_underlying, hu]
            rfl
          simp only [builtin, List.map_toArray, List.map_cons, List.map_nil, hx]
          rw [pureRun_bind, hl2]
          rfl
        rw [if_pos hall, hp]
        exact h
      · exact h
    · exact h
  · rename_i g hc
    split at h
    · rename_i fn hf
      split at h
      · rename_i b hb
        simp only [runF] at h
        simp only [cop, ho, callC, hc, evF, hf, hb, Option.isSome, if_true]
        rw [arr_map] at h
        simpa using h
      · exact h
    · exact h
  · rename_i f hc
    simp only [runF, callVF] at h
    split at h
    · rename_i g l m hx
      split at h
      · rename_i fn hf
        split at h
        · rename_i b hb
          simp only [cop, ho, callC, hc]
          rw [hx]
          simp only [hf, hb, Option.isSome, if_true]
          rw [← h]
          congr 2
          apply Array.ext'
          simp [appF_eq, mapF_eq]
        · exact h
      · cases h
    · exact h
  · exact h

theorem build_soundF {ty : TypeId} {ps : Array (Nat × Operand)} (ho : o.op = .build ty ps) (h : runF P t (fBuild P ty ps o) o H = some r) : cop P (evF t) o H = some r := by
  unfold fBuild at h
  split at h
  · rename_i z hz
    split at h
    · rename_i hall
      split at h
      · rename_i v hv
        have e : execOp (evF t) o = execOp constEv o := by
          have em : ps.map (fun p => (p.1, evF t p.2)) = ps.map (fun p => (p.1, constEv p.2)) := by
            apply Array.ext'
            simp only [Array.toList_map]
            apply List.map_congr_left
            intro p hp
            have := List.all_eq_true.mp hall p hp
            cases hq : p.2 with
            | const v => rfl
            | _ => simp [hq, isConst] at this
          simp only [execOp, ho]
          rw [show (fun (x : Nat × Operand) => match x with | (i, x) => (i, evF t x)) = (fun p => (p.1, evF t p.2)) from rfl]
          rw [em]
        simp only [cop, ho, hz, Option.isSome, if_true, nfC]
        rw [e, hv]
        simpa [runF] using h
      · exact h
    · exact h
  · exact h

theorem notF_sound {ty : TypeId} {x : Operand} (ho : o.op = .unOp .not ty x) (h : notF P t x o H = some r) : cop P (evF t) o H = some r := by
  unfold notF at h
  split at h
  · rename_i v hv
    unfold notV at hv
    split at hv
    · rename_i b hx
      simp only [Option.some.injEq] at hv; subst hv
      simp only [cop, ho, genC]
      have hall : (Op.unOp .not ty x).operands.all (fun z => flat (evF t z)) = true := by simp [Op.operands, hx, flat]
      have hp : pureRun P (execOp (evF t) o) = some (.ok (.value (.bool (!b)))) := by
        simp only [execOp, ho, hx]
        rfl
      rw [if_pos hall, hp]
      exact h
    · cases hv
  · exact h

theorem runF_sound (h : runF P t (fop P o) o H = some r) : cop P (evF t) o H = some r := by
  unfold fop at h
  split at h
  · rename_i x ho
    simp only [runF, movF_eq] at h
    simp only [cop, ho]; exact h
  · rename_i x ho
    simp only [runF, movF_eq] at h
    simp only [cop, ho]; exact h
  · rename_i ho; exact pickF_sound ho h
  · rename_i ho; exact alloc_soundF ho h
  · rename_i ty x ho
    unfold fLoad at h
    split at h
    · rename_i hs; exact load1F_sound ho hs h
    · rename_i n hs hn; exact loadNF_sound (by omega) ho hs hn h
    · exact h
  · rename_i ty x v ho
    unfold fStore at h
    split at h
    · rename_i n hn; exact storeF_sound ho hn h
    · exact h
  · rename_i ho; exact nilChkF_sound ho h
  · rename_i ho; exact binOpF_sound ho h
  · rename_i ho; exact addOff_sound ho h
  · rename_i ho; exact index_sound ho h
  · rename_i ho; exact extrF_sound ho h
  · rename_i ho; exact idxT_sound ho h
  · rename_i ho; exact call_soundF ho h
  · rename_i ho; exact build_soundF ho h
  · rename_i ho; exact notF_sound ho h
  · exact h

end Go.Can
