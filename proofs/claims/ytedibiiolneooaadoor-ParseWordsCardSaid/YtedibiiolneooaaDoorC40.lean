/- The first heap: the listed package variables as blocks that are read alone. A call that the interpreter runs there, run in whatever world that holds them: it returns that, and what was there stands. -/
import Derived.Test.YtedibiiolneooaaDoorC39

namespace Go.Can
open Go Go.RowKit

def roBlk (cells : List Value) (g : Nat) : CObj := .cells { cells, elem := 0, fam := g, ver := 0, ro := true, frz := 0, strish := false, exact := false }

noncomputable def roTree (L : List (Nat × List Value)) : Tr CObj := List.rec (motive := fun _ => Tr CObj) .nil (fun p _ t => setF (roBlk p.2 p.1) t p.1) L

noncomputable def roHeap (n k : Nat) (L : List (Nat × List Value)) : Heap := { next := Nat.add n k, t := roTree L, fam := .nil }

/-- The numbers from n on: places that are only pointed to. -/
def adRho (n : Nat) (as : List Addr) : Rho := fun c => if c < n then none else match as[c - n]? with | some a => some ⟨a.block, a.off, 0, true, false⟩ | none => none

/-- The world holds these cells in these blocks. -/
structure HoldsAt (w : World) (n : Nat) (L : List (Nat × List Value)) (as : List Addr) : Prop where
  cells : ∀ p ∈ L, ∃ cs t fr, w.heap[p.1]? = some (.cells cs t fr) ∧ ∀ (i : Nat) v, p.2[i]? = some v → ∃ v', cs[i]? = some v' ∧ VR (adRho n as) v v'
  size : n ≤ w.heap.size
  ads : ∀ a ∈ as, a.block < w.heap.size

def Holds (w : World) (n k : Nat) (L : List (Nat × List Value)) : Prop := ∃ as, as.length = k ∧ HoldsAt w n L as

theorem holds_cells {ρ : Rho} {l : List Value} {cs : Array Value} (h : VRs ρ l cs.toList) : ∀ (i : Nat) v, l[i]? = some v → ∃ v', cs[i]? = some v' ∧ VR ρ v v' := by
  intro i v hi
  obtain ⟨v', h1, h2⟩ := h.get hi
  exact ⟨v', by simpa using h1, h2⟩

theorem Holds.below {w w' : World} {n k : Nat} {L : List (Nat × List Value)} (h : Holds w n k L) (hb : Below w.heap.size w w') : Holds w' n k L := by
  obtain ⟨as, hk, h, hs, ha⟩ := h
  refine ⟨as, hk, ?_, Nat.le_trans hs hb.size, fun a hm => Nat.lt_of_lt_of_le (ha a hm) hb.size⟩
  intro p hp
  obtain ⟨cs, t, fr, h1, h2⟩ := h p hp
  refine ⟨cs, t, fr, ?_, h2⟩
  rw [hb.block p.1 ?_, h1]
  rcases Nat.lt_or_ge p.1 w.heap.size with h' | h'
  · exact h'
  · rw [Array.getElem?_eq_none h'] at h1; cases h1

theorem roTree_get : ∀ (L : List (Nat × List Value)) (c : Nat) (o : CObj), (roTree L).get c = some o → ∃ p ∈ L, p.1 = c ∧ o = roBlk p.2 p.1 := by
  intro L
  induction L with
  | nil => intro c o h; rw [show roTree [] = .nil from rfl, Tr.get_nil] at h; cases h
  | cons p L ih =>
    intro c o h
    rw [show roTree (p :: L) = setF (roBlk p.2 p.1) (roTree L) p.1 from rfl, setF_eq, Tr.get_set] at h
    split at h
    · rename_i e
      simp at h
      exact ⟨p, by simp, e.symm, h.symm⟩
    · obtain ⟨q, h1, h2⟩ := ih c o h
      exact ⟨q, by simp [h1], h2⟩

/-- Where the world holds them. -/
def roRho (w : World) (n : Nat) (as : List Addr) : Rho := fun c => if c < n then some ⟨c, 0, (match w.heap[c]? with | some (.cells cs _ _) => cs.size | _ => 0), true, false⟩ else adRho n as c

theorem roRho_ext (w : World) (n : Nat) (as : List Addr) : Ext (adRho n as) (roRho w n as) := by
  intro c rb h
  unfold roRho
  by_cases hc : c < n
  · unfold adRho at h; rw [if_pos hc] at h; cases h
  · rw [if_neg hc]; exact h

theorem roRho_inv {w : World} {n c : Nat} {as : List Addr} {rb : RB} (h : roRho w n as c = some rb) :
    (c < n ∧ rb = ⟨c, 0, (match w.heap[c]? with | some (.cells cs _ _) => cs.size | _ => 0), true, false⟩) ∨ (n ≤ c ∧ ∃ a, as[c - n]? = some a ∧ rb = ⟨a.block, a.off, 0, true, false⟩) := by
  unfold roRho at h
  split at h
  · rename_i hc
    simp at h; exact .inl ⟨hc, h.symm⟩
  · rename_i hc
    unfold adRho at h
    rw [if_neg hc] at h
    split at h
    · rename_i a ha
      simp at h; exact .inr ⟨by omega, a, ha, h.symm⟩
    · cases h

theorem roRho_ro {w : World} {n c : Nat} {as : List Addr} {rb : RB} (h : roRho w n as c = some rb) : rb.ro = true := by
  rcases roRho_inv h with ⟨_, e⟩ | ⟨_, a, _, e⟩ <;> rw [e]

theorem roRel {w : World} {n : Nat} {L : List (Nat × List Value)} {as : List Addr} (h : HoldsAt w n L as) (hL : ∀ p ∈ L, p.1 < n) : Rel (roRho w n as) (roHeap n as.length L) w := by
  obtain ⟨h, hn, has⟩ := h
  have get : ∀ c b, (roHeap n as.length L).t.get c = some (.cells b) → ∃ p ∈ L, p.1 = c ∧ b = { cells := p.2, elem := 0, fam := p.1, ver := 0, ro := true, frz := 0, strish := false, exact := false } := by
    intro c b hb
    obtain ⟨p, h1, h2, h3⟩ := roTree_get L c _ hb
    refine ⟨p, h1, h2, ?_⟩
    unfold roBlk at h3
    injection h3
  have notro : ∀ c b, (roHeap n as.length L).t.get c = some (.cells b) → b.ro = true := by
    intro c b hb
    obtain ⟨p, _, _, e⟩ := get c b hb
    rw [e]
  refine ⟨⟨?_, ?_, ?_, ?_, ?_⟩, ?_, ?_, ?_, ?_, ?_⟩
  · intro c o ho
    obtain ⟨p, h1, h2, _⟩ := roTree_get L c o ho
    rw [← h2]; exact Nat.lt_of_lt_of_le (hL p h1) (Nat.le_add_right _ _)
  · intro f x hf
    rw [show (roHeap n as.length L).fam = .nil from rfl, Tr.get_nil] at hf; cases hf
  · intro c b hb hro; rw [notro c b hb] at hro; cases hro
  · intro c d b b' hb hb' hro; rw [notro c b hb] at hro; cases hro
  · intro c d b b' hb hb' hro; rw [notro c b hb] at hro; cases hro
  · intro c rb hc
    show c < n + as.length ∧ _
    rcases roRho_inv hc with ⟨h1, h2⟩ | ⟨h1, a, h2, h3⟩
    · rw [h2]; exact ⟨by omega, by simp; omega⟩
    · rw [h3]
      obtain ⟨hlt, _⟩ := List.getElem?_eq_some_iff.1 h2
      exact ⟨by omega, has a (List.mem_of_getElem? h2)⟩
  · intro c rb b hc hb
    obtain ⟨p, hp, hpc, hbe⟩ := get c b hb
    rcases roRho_inv hc with ⟨h1, h2⟩ | ⟨h1, _⟩
    · obtain ⟨cs, t, fr, hw, hv⟩ := h p hp
      rw [hpc] at hw
      refine ⟨cs, t, fr, ?_⟩
      subst h2; subst hbe
      refine ⟨rfl, rfl, hw, ?_, ?_, ?_, ?_, ?_⟩
      · simp [hw]
      · intro hx; simp at hx
      · intro hx; simp at hx
      · intro _ i v hi
        obtain ⟨v', h3, h4⟩ := hv i v hi
        refine ⟨v', ?_, h4.mono (roRho_ext _ _ _)⟩
        simpa using h3
      · intro hx; simp at hx
    · have := hL p hp; omega
  · intro c rb es hc he
    obtain ⟨p, _, _, e⟩ := roTree_get L c _ he
    unfold roBlk at e; cases e
  · intro c rb s pos hc he
    obtain ⟨p, _, _, e⟩ := roTree_get L c _ he
    unfold roBlk at e; cases e
  · intro c d rc rd hc hd _ _
    exact .inl ⟨roRho_ro hc, roRho_ro hd⟩

theorem roGR {P : Program} {w : World} {n : Nat} {as : List Addr} (hn : P.globals.size = n) : GR P (roRho w n as) := by
  intro g hg
  exact ⟨_, if_pos (by omega), rfl, rfl⟩

theorem below_of_post {ρ ρ' : Rho} {H H' : Heap} {w w' : World} (h : Post ρ H w ρ' H' w') (hro : ∀ c rb, ρ c = some rb → rb.ro = true) : Below w.heap.size w w' :=
  ⟨h.os, h.tape, h.output, h.size, fun k hk => h.frame k hk fun c rb hc _ => hro c rb hc⟩

/-- A CALL THAT THE INTERPRETER RUNS. -/
theorem calls_closed {P : Program} (hP : okProg P = true) {bad : List Nat} (hB : drawsProg P bad = true) {n N k : Nat} {L : List (Nat × List Value)} {f : FuncId} {args : Array Value} {v : Value} {H' : Heap}
    (hN : P.globals.size = N) (hL : ∀ p ∈ L, p.1 < N) (hc : callF P bad n f args (roHeap N k L) = some (.ret v, H')) (ha : flatL args.toList = true) (hv : flat v = true)
    {w : World} (h : Holds w N k L) : Calls P f args w fun e w' => e = .returned v ∧ Below w.heap.size w w' := by
  have hc := callF_sound P bad n f args _ _ hc
  obtain ⟨as, hk, h⟩ := h
  subst hk
  refine (call_sound hP hB n f args _ _ _ hc (roRho w N as) w args (roGR hN) (roRel h hL) (VRs.of_flatL _ ha)).mono ?_
  rintro e w' ⟨ρ', hp, v', he, hr⟩
  refine ⟨?_, below_of_post hp fun c rb hx => roRho_ro hx⟩
  rw [he, hr.eq_of_flat hv]

/-- .. whose answer alone is asked. -/
def retIs (r : Option (End × Heap)) (p : Value → Bool) : Bool :=
  match r with
  | some (.ret v, _) => p v
  | _ => false

def isTrue : Value → Bool
  | .bool true => true
  | _ => false

theorem calls_true {P : Program} (hP : okProg P = true) {bad : List Nat} (hB : drawsProg P bad = true) {n N k : Nat} {L : List (Nat × List Value)} {f : FuncId} {args : Array Value}
    (hN : P.globals.size = N) (hL : ∀ p ∈ L, p.1 < N) (hc : retIs (callF P bad n f args (roHeap N k L)) isTrue = true) (ha : flatL args.toList = true)
    {w : World} (h : Holds w N k L) : Calls P f args w fun e w' => e = .returned (.bool true) ∧ Below w.heap.size w w' := by
  unfold retIs at hc
  split at hc
  · rename_i v H' hr
    unfold isTrue at hc
    split at hc
    · exact calls_closed hP hB hN hL hr ha rfl h
    · cases hc
  · cases hc

end Go.Can
