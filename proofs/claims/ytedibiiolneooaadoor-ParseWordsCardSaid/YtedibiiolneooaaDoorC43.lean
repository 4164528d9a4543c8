/- Loops: activations of one shape; a loop's round as a fact of its own. -/
import Derived.Test.YtedibiiolneooaaDoorC42

namespace Go.Can
open Go Go.RowKit

/-- A tree that holds these keys. -/
noncomputable def mkT (x : Nat → Value) (keys : List Nat) : Tr Value :=
  List.rec (motive := fun _ => Tr Value) .nil (fun k _ t => setF (x k) t k) keys

noncomputable def actK (x : Nat → Value) (keys : List Nat) : CAct := { t := mkT x keys, defers := [] }

noncomputable def upd (l : List (Nat × Value)) (x : Nat → Value) : Nat → Value := fun k =>
  List.rec (motive := fun _ => Value) (x k) (fun p _ ih => match Nat.beq p.1 k with | true => p.2 | false => ih) l

noncomputable def outA (r : Option (X × CAct × Heap × List Prop)) : CAct :=
  match r with
  | some (_, a, _, _) => a
  | none => { t := .nil, defers := [] }

noncomputable def xOf (a : CAct) : Nat → Value := fun k => evF a.t (.tmp k)

/-- The run ends so, in an activation of this shape. -/
abbrev Ends (r : Option (X × CAct × Heap × List Prop)) (x : X) (keys : List Nat) (H : Heap) (obs : List Prop) : Prop := r = some (x, actK (xOf (outA r)) keys, H, obs)

theorem upd_self2 {y : Nat → Value} {k1 k2 : Nat} {v1 v2 : Value} (h1 : y k1 = v1) (h2 : y k2 = v2) : y = upd [(k1, v1), (k2, v2)] y := by
  funext k
  show y k = (match Nat.beq k1 k with | true => v1 | false => (match Nat.beq k2 k with | true => v2 | false => y k))
  rw [beq_dec, beq_dec]
  by_cases e1 : k1 = k
  · subst e1; simp [h1]
  · by_cases e2 : k2 = k
    · subst e2; simp [e1, h2]
    · simp [e1, e2]

theorem upd_self3 {y : Nat → Value} {k1 k2 k3 : Nat} {v1 v2 v3 : Value} (h1 : y k1 = v1) (h2 : y k2 = v2) (h3 : y k3 = v3) : y = upd [(k1, v1), (k2, v2), (k3, v3)] y := by
  funext k
  show y k = (match Nat.beq k1 k with | true => v1 | false => (match Nat.beq k2 k with | true => v2 | false => (match Nat.beq k3 k with | true => v3 | false => y k)))
  rw [beq_dec, beq_dec, beq_dec]
  by_cases e1 : k1 = k
  · subst e1; simp [h1]
  · by_cases e2 : k2 = k
    · subst e2; simp [e1, h2]
    · by_cases e3 : k3 = k
      · subst e3; simp [e1, e2, h3]
      · simp [e1, e2, e3]

/-! ## Parts of code -/

def Code.lft : Code → Code
  | .seq x _ => x
  | _ => .skip
def Code.rgt : Code → Code
  | .seq _ y => y
  | _ => .skip
def Code.inner : Code → Code
  | .block _ b => b
  | .loop b => b
  | _ => .skip

theorem exec_seq {P : Program} {cal : Cal} {k : Nat} {x y : Code} {a a' : CAct} {H H' : Heap} (h : exec P cal k x a H = some (.normal, a', H')) : exec P cal k (.seq x y) a H = exec P cal k y a' H' := by
  simp only [exec, h]

theorem exec_seq_stop {P : Program} {cal : Cal} {k : Nat} {x y : Code} {a a' : CAct} {H H' : Heap} {z : X} (h : exec P cal k x a H = some (z, a', H')) (hz : z ≠ .normal) : exec P cal k (.seq x y) a H = some (z, a', H') := by
  simp only [exec, h]
  cases z <;> first | exact absurd rfl hz | rfl

theorem exec_block_ret {P : Program} {cal : Cal} {k id : Nat} {b : Code} {a a' : CAct} {H H' : Heap} (h : exec P cal k b a H = some (.ret, a', H')) : exec P cal k (.block id b) a H = some (.ret, a', H') := by
  simp only [exec, h]

theorem exec_block_exit {P : Program} {cal : Cal} {k id : Nat} {b : Code} {a a' : CAct} {H H' : Heap} (h : exec P cal k b a H = some (.exit id, a', H')) : exec P cal k (.block id b) a H = some (.normal, a', H') := by
  simp only [exec, h, if_true]

theorem iter_more {st : CAct → Heap → Option (X × CAct × Heap)} {k : Nat} {a a' : CAct} {H H' : Heap} (h : st a H = some (.normal, a', H')) : iter st (k + 1) a H = iter st k a' H' := by
  simp only [iter, h]

theorem iter_stop {st : CAct → Heap → Option (X × CAct × Heap)} {k : Nat} {a a' : CAct} {H H' : Heap} {z : X} (h : st a H = some (z, a', H')) (hz : z ≠ .normal) : iter st (k + 1) a H = some (z, a', H') := by
  simp only [iter, h]
  cases z <;> first | exact absurd rfl hz | rfl

/-- A call, its code told from outside. -/
theorem callW_ret {P : Program} {bad : List Nat} {cal : Cal} {k : Nat} {f : FuncId} {fn : Func} {c : Code} {args : Array Value} {a : CAct} {H H' : Heap} {v : Value} {t : Tmp}
    (hb : bad.contains f = false) (hf : P.funcs[f]? = some fn) (hc : fn.body = some c) (hr : fn.results = #[.tmp t]) (he : exec P cal k c (initAct args) H = some (.ret, a, H')) (hd : a.defers = []) (hv : evF a.t (.tmp t) = v) :
    callW P bad cal k f args H = some (.ret v, H') := by
  simp only [callW, hb, hf, hc, he, hd, leave, resultsC, hr]
  have e : a.get t = v := by
    have := congrFun (evF_eq a) (.tmp t)
    rw [hv] at this
    exact this.symm
  simp [resultC, e]

theorem calls_callW {P : Program} (hP : okProg P = true) {bad : List Nat} (hB : drawsProg P bad = true) {n k : Nat} {L : List (Nat × List Value)} {S : FuncId → List Value → Option Value} {fuel d : Nat}
    {f : FuncId} {args : Array Value} {v : Value} {H' : Heap} (hN : P.globals.size = n) (h0 : 0 < n) (hL : ∀ p ∈ L, p.1 < n) (hS : SpecOk P n k L S)
    (hc : callW P bad (calW P n k L S bad 400 d) fuel f args (roHeap n k L) = some (.ret v, H')) (ha : flatL args.toList = true) (hv : flat v = true)
    {w : World} (h : Holds w n k L) : Calls P f args w fun e w' => e = .returned v ∧ Below w.heap.size w w' := by
  obtain ⟨ad, hk, h⟩ := h
  subst hk
  refine (callW_sound hP hB (calW_sound hP hB hN h0 hL hS 400 d) fuel f args _ _ _ hc (roRho w n ad) w args (roGR hN) (roRel h hL) (VRs.of_flatL _ ha)).mono ?_
  rintro e w' ⟨ρ', hp, v', he, hr⟩
  exact ⟨by rw [he, hr.eq_of_flat hv], below_of_post hp fun c rb hx => roRho_ro hx⟩

end Go.Can
