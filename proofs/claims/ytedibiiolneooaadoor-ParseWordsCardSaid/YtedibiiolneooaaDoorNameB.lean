/- Whether a text is a name, any text: the program's answer and the document's. -/
import Derived.Test.YtedibiiolneooaaDoorNameA

namespace Go.Proofs.YtedibiiolneooaaDoor
open Go Go.Can Go.RowKit
set_option maxRecDepth 100000

theorem low_all : ((List.range 256).all fun m => decide (lb m = (decide (97 ≤ m ||| 32) && decide (m ||| 32 ≤ 122))) && decide (m ||| 32 ≤ 255)) = true := by decide +kernel
theorem low_is {m : Nat} (h : m < 256) : lb m = (decide (97 ≤ m ||| 32) && decide (m ||| 32 ≤ 122)) ∧ m ||| 32 ≤ 255 := by
  have := List.all_eq_true.mp low_all m (List.mem_range.2 h)
  rw [Bool.and_eq_true] at this
  exact ⟨of_decide_eq_true this.1, of_decide_eq_true this.2⟩

theorem or_low {m : Nat} (h : m < 256) : binF .or (.int .u8 (Int.ofNat m)) (.int .u8 32) = some (.int .u8 (Int.ofNat (m ||| 32))) := by
  have h1 : Nat.ble m 255 = true := Nat.ble_eq_true_of_le (by omega)
  have e : binF .or (.int .u8 (Int.ofNat m)) (.int .u8 32) = (match Nat.ble m 255, Nat.ble 32 255 with | true, true => some (Value.int .u8 (wrapF .u8 (.ofNat (Nat.lor m 32)))) | _, _ => none) := rfl
  rw [e, h1]
  show some (Value.int .u8 (wrapF .u8 (.ofNat (m ||| 32)))) = _
  rw [wrapF_small (by simp only [maxN]; exact (low_is h).2)]

noncomputable abbrev A12 (x : Nat → Value) (s : ByteArray) (n i : Nat) (keys : List Nat) : CAct := actK (upd [(0, .string s), (18, .int .i64 (Int.ofNat n)), (19, .int .i64 (Int.ofNat i))] x) keys

noncomputable def st12 (K : Nat) : CAct → Heap → Option (X × CAct × Heap) := exec Tryd.prog (calW Tryd.prog 6 2 laidL nameT [7] 400 3) K b12
def On12 (K : Nat) (a : CAct) (s : ByteArray) (n i : Nat) : Prop := ∃ x', st12 K a H0 = some (.normal, A12 x' s n (i + 1) mN, H0)
def No12 (K : Nat) (a : CAct) : Prop := ∃ a', st12 K a H0 = some (.ret, a', H0) ∧ a'.defers = [] ∧ xOf a' 2 = .bool false

theorem on12_of {K : Nat} {A : Tmp → Option Value} {a : CAct} {s : ByteArray} {n i : Nat} {q : List Prop} {r : Option (X × CAct × Heap × List Prop)} (h0 : r = q12 K A a) (h : r = some (.normal, actK (xOf (outA r)) mN, H0, q)) (hq : AllP q)
    (h1 : xOf (outA r) 0 = .string s) (h2 : xOf (outA r) 18 = .int .i64 (Int.ofNat n)) (h3 : xOf (outA r) 19 = .int .i64 (Int.ofNat (i + 1))) : On12 K a s n i := by
  subst h0
  refine ⟨xOf (outA (q12 K A a)), ?_⟩
  have e := exec12_of h hq
  rw [upd_self3 h1 h2 h3] at e
  exact e

theorem no12_of {K : Nat} {A : Tmp → Option Value} {a : CAct} {q : List Prop} {r : Option (X × CAct × Heap × List Prop)} (h0 : r = q12 K A a) (h : r = some (.ret, outA r, H0, q)) (hq : AllP q)
    (h1 : (outA r).defers = []) (h2 : xOf (outA r) 2 = .bool false) : No12 K a := by
  subst h0
  exact ⟨_, exec12_of h hq, h1, h2⟩

theorem exit12_of {K : Nat} {A : Tmp → Option Value} {a : CAct} {q : List Prop} {r : Option (X × CAct × Heap × List Prop)} (h0 : r = q12 K A a) (h : r = some (.exit 0, actK (xOf (outA r)) mN, H0, q)) (hq : AllP q) :
    ∃ x', st12 K a H0 = some (.exit 0, actK x' mN, H0) := by
  subst h0
  exact ⟨_, exec12_of h hq⟩

section
variable {K : Nat} {x : Nat → Value} {s : ByteArray} {n i : Nat} {b : UInt8}

theorem name_first_on (h : s.data.toList[0]? = some b) (hn : 0 < n) (hb : lb b.toNat = true) : On12 K (A12 x s n 0 m0) s n 0 := by
  have hm := byte_lt b
  obtain ⟨hl, _⟩ := low_is hm
  rw [hl, Bool.and_eq_true, decide_eq_true_eq, decide_eq_true_eq] at hb
  exact on12_of rfl (uLa K x s n 0 b.toNat (b.toNat ||| 32)) (allP_cons (lt_t 0 n .i64 hn) (allP_cons (idx_at h) (allP_cons (or_low hm) (allP_cons (ge_t _ 97 .u8 hb.1) (allP_cons (le_t _ 122 .u8 hb.2) (allP_cons (add_one (by unfold big; omega)) allP_nil))))))
    (uLa0 K x s n 0 b.toNat (b.toNat ||| 32)) (uLa18 K x s n 0 b.toNat (b.toNat ||| 32)) (uLa19 K x s n 0 b.toNat (b.toNat ||| 32))

theorem name_first_no (h : s.data.toList[0]? = some b) (hn : 0 < n) (hb : lb b.toNat = false) : No12 K (A12 x s n 0 m0) := by
  have hm := byte_lt b
  obtain ⟨hl, _⟩ := low_is hm
  rw [hl, Bool.and_eq_false_iff, decide_eq_false_iff_not, decide_eq_false_iff_not] at hb
  by_cases h97 : b.toNat ||| 32 < 97
  · exact no12_of rfl (uZa K x s n 0 b.toNat (b.toNat ||| 32)) (allP_cons (lt_t 0 n .i64 hn) (allP_cons (idx_at h) (allP_cons (or_low hm) (allP_cons (ge_f _ 97 .u8 h97) (allP_cons (eq_t 0 0 .i64 rfl) allP_nil)))))
      (uZad K x s n 0 b.toNat (b.toNat ||| 32)) (uZa2 K x s n 0 b.toNat (b.toNat ||| 32))
  · exact no12_of rfl (uYa K x s n 0 b.toNat (b.toNat ||| 32)) (allP_cons (lt_t 0 n .i64 hn) (allP_cons (idx_at h) (allP_cons (or_low hm) (allP_cons (ge_t _ 97 .u8 (by omega)) (allP_cons (le_f _ 122 .u8 (by omega)) (allP_cons (eq_t 0 0 .i64 rfl) allP_nil))))))
      (uYad K x s n 0 b.toNat (b.toNat ||| 32)) (uYa2 K x s n 0 b.toNat (b.toNat ||| 32))

theorem name_later_on (h : s.data.toList[i]? = some b) (hn : i < n) (hi : 1 ≤ i) (hB : i ≤ big) (hb : inner b.toNat = true) : On12 K (A12 x s n i mN) s n i := by
  have hm := byte_lt b
  obtain ⟨hl, _⟩ := low_is hm
  have hidx := idx_at h
  cases hL : lb b.toNat with
  | true =>
    rw [hl, Bool.and_eq_true, decide_eq_true_eq, decide_eq_true_eq] at hL
    exact on12_of rfl (uLb K x s n i b.toNat (b.toNat ||| 32)) (allP_cons (lt_t i n .i64 hn) (allP_cons hidx (allP_cons (or_low hm) (allP_cons (ge_t _ 97 .u8 hL.1) (allP_cons (le_t _ 122 .u8 hL.2) (allP_cons (add_one hB) allP_nil))))))
      (uLb0 K x s n i b.toNat (b.toNat ||| 32)) (uLb18 K x s n i b.toNat (b.toNat ||| 32)) (uLb19 K x s n i b.toNat (b.toNat ||| 32))
  | false =>
    simp only [inner, hL, Bool.false_or, Bool.or_eq_true, Bool.and_eq_true, decide_eq_true_eq] at hb
    rw [hl, Bool.and_eq_false_iff, decide_eq_false_iff_not, decide_eq_false_iff_not] at hL
    by_cases h97 : b.toNat ||| 32 < 97
    · by_cases h95 : b.toNat = 95
      · exact on12_of rfl (uUp K x s n i b.toNat (b.toNat ||| 32)) (allP_cons (lt_t i n .i64 hn) (allP_cons hidx (allP_cons (or_low hm) (allP_cons (ge_f _ 97 .u8 h97) (allP_cons (eq_f i 0 .i64 (by omega)) (allP_cons hidx (allP_cons (ne_f _ 95 .u8 h95) (allP_cons (add_one hB) allP_nil))))))))
          (uUp0 K x s n i b.toNat (b.toNat ||| 32)) (uUp18 K x s n i b.toNat (b.toNat ||| 32)) (uUp19 K x s n i b.toNat (b.toNat ||| 32))
      · have hd : 48 ≤ b.toNat ∧ b.toNat ≤ 57 := by rcases hb with hb | hb; exact absurd hb h95; exact hb
        exact on12_of rfl (uDp K x s n i b.toNat (b.toNat ||| 32)) (allP_cons (lt_t i n .i64 hn) (allP_cons hidx (allP_cons (or_low hm) (allP_cons (ge_f _ 97 .u8 h97) (allP_cons (eq_f i 0 .i64 (by omega)) (allP_cons hidx (allP_cons (ne_t _ 95 .u8 h95)
          (allP_cons hidx (allP_cons (lt_f _ 48 .u8 (by omega)) (allP_cons hidx (allP_cons (gt_f _ 57 .u8 (by omega)) (allP_cons (add_one hB) allP_nil))))))))))))
          (uDp0 K x s n i b.toNat (b.toNat ||| 32)) (uDp18 K x s n i b.toNat (b.toNat ||| 32)) (uDp19 K x s n i b.toNat (b.toNat ||| 32))
    · by_cases h95 : b.toNat = 95
      · exact on12_of rfl (uUq K x s n i b.toNat (b.toNat ||| 32)) (allP_cons (lt_t i n .i64 hn) (allP_cons hidx (allP_cons (or_low hm) (allP_cons (ge_t _ 97 .u8 (by omega)) (allP_cons (le_f _ 122 .u8 (by omega)) (allP_cons (eq_f i 0 .i64 (by omega)) (allP_cons hidx (allP_cons (ne_f _ 95 .u8 h95) (allP_cons (add_one hB) allP_nil)))))))))
          (uUq0 K x s n i b.toNat (b.toNat ||| 32)) (uUq18 K x s n i b.toNat (b.toNat ||| 32)) (uUq19 K x s n i b.toNat (b.toNat ||| 32))
      · have hd : 48 ≤ b.toNat ∧ b.toNat ≤ 57 := by rcases hb with hb | hb; exact absurd hb h95; exact hb
        exact on12_of rfl (uDq K x s n i b.toNat (b.toNat ||| 32)) (allP_cons (lt_t i n .i64 hn) (allP_cons hidx (allP_cons (or_low hm) (allP_cons (ge_t _ 97 .u8 (by omega)) (allP_cons (le_f _ 122 .u8 (by omega)) (allP_cons (eq_f i 0 .i64 (by omega)) (allP_cons hidx (allP_cons (ne_t _ 95 .u8 h95)
          (allP_cons hidx (allP_cons (lt_f _ 48 .u8 (by omega)) (allP_cons hidx (allP_cons (gt_f _ 57 .u8 (by omega)) (allP_cons (add_one hB) allP_nil)))))))))))))
          (uDq0 K x s n i b.toNat (b.toNat ||| 32)) (uDq18 K x s n i b.toNat (b.toNat ||| 32)) (uDq19 K x s n i b.toNat (b.toNat ||| 32))

theorem name_later_no (h : s.data.toList[i]? = some b) (hn : i < n) (hi : 1 ≤ i) (hb : inner b.toNat = false) : No12 K (A12 x s n i mN) := by
  have hm := byte_lt b
  obtain ⟨hl, _⟩ := low_is hm
  have hidx := idx_at h
  simp only [inner, Bool.or_eq_false_iff, Bool.and_eq_false_iff, decide_eq_false_iff_not] at hb
  obtain ⟨hL, h95, hd⟩ := hb
  rw [hl, Bool.and_eq_false_iff, decide_eq_false_iff_not, decide_eq_false_iff_not] at hL
  by_cases h97 : b.toNat ||| 32 < 97
  · by_cases h48 : b.toNat < 48
    · exact no12_of rfl (uBp K x s n i b.toNat (b.toNat ||| 32)) (allP_cons (lt_t i n .i64 hn) (allP_cons hidx (allP_cons (or_low hm) (allP_cons (ge_f _ 97 .u8 h97) (allP_cons (eq_f i 0 .i64 (by omega)) (allP_cons hidx (allP_cons (ne_t _ 95 .u8 h95)
        (allP_cons hidx (allP_cons (lt_t _ 48 .u8 h48) allP_nil))))))))) (uBpd K x s n i b.toNat (b.toNat ||| 32)) (uBp2 K x s n i b.toNat (b.toNat ||| 32))
    · exact no12_of rfl (uCp K x s n i b.toNat (b.toNat ||| 32)) (allP_cons (lt_t i n .i64 hn) (allP_cons hidx (allP_cons (or_low hm) (allP_cons (ge_f _ 97 .u8 h97) (allP_cons (eq_f i 0 .i64 (by omega)) (allP_cons hidx (allP_cons (ne_t _ 95 .u8 h95)
        (allP_cons hidx (allP_cons (lt_f _ 48 .u8 h48) (allP_cons hidx (allP_cons (gt_t _ 57 .u8 (by omega)) allP_nil))))))))))) (uCpd K x s n i b.toNat (b.toNat ||| 32)) (uCp2 K x s n i b.toNat (b.toNat ||| 32))
  · by_cases h48 : b.toNat < 48
    · exact no12_of rfl (uBq K x s n i b.toNat (b.toNat ||| 32)) (allP_cons (lt_t i n .i64 hn) (allP_cons hidx (allP_cons (or_low hm) (allP_cons (ge_t _ 97 .u8 (by omega)) (allP_cons (le_f _ 122 .u8 (by omega)) (allP_cons (eq_f i 0 .i64 (by omega)) (allP_cons hidx (allP_cons (ne_t _ 95 .u8 h95)
        (allP_cons hidx (allP_cons (lt_t _ 48 .u8 h48) allP_nil)))))))))) (uBqd K x s n i b.toNat (b.toNat ||| 32)) (uBq2 K x s n i b.toNat (b.toNat ||| 32))
    · exact no12_of rfl (uCq K x s n i b.toNat (b.toNat ||| 32)) (allP_cons (lt_t i n .i64 hn) (allP_cons hidx (allP_cons (or_low hm) (allP_cons (ge_t _ 97 .u8 (by omega)) (allP_cons (le_f _ 122 .u8 (by omega)) (allP_cons (eq_f i 0 .i64 (by omega)) (allP_cons hidx (allP_cons (ne_t _ 95 .u8 h95)
        (allP_cons hidx (allP_cons (lt_f _ 48 .u8 h48) (allP_cons hidx (allP_cons (gt_t _ 57 .u8 (by omega)) allP_nil)))))))))))) (uCqd K x s n i b.toNat (b.toNat ||| 32)) (uCq2 K x s n i b.toNat (b.toNat ||| 32))

theorem name_last (hn : n ≤ i) : ∃ x', st12 K (A12 x s n i mN) H0 = some (.exit 0, actK x' mN, H0) :=
  exit12_of rfl (uE K x s n i) (allP_cons (lt_f i n .i64 (by omega)) allP_nil)
end

theorem name_loop {s : ByteArray} (hB : s.data.toList.length ≤ big) {K : Nat} : ∀ (rest : List UInt8) (i : Nat) (x : Nat → Value) (k : Nat), s.data.toList.drop i = rest → i ≤ s.data.toList.length → 1 ≤ i → rest.length < k →
    (rest.all (fun c => inner c.toNat) = true → ∃ x', iter (st12 K) k (A12 x s s.data.toList.length i mN) H0 = some (.exit 0, actK x' mN, H0)) ∧
    (rest.all (fun c => inner c.toNat) = false → ∃ a', iter (st12 K) k (A12 x s s.data.toList.length i mN) H0 = some (.ret, a', H0) ∧ a'.defers = [] ∧ xOf a' 2 = .bool false) := by
  intro rest
  induction rest with
  | nil =>
    intro i x k hr hle hi hk
    obtain ⟨k, rfl⟩ : ∃ j, k = j + 1 := ⟨k - 1, by omega⟩
    have hlen : s.data.toList.length ≤ i := by
      have := congrArg List.length hr; simp at this; simp; omega
    refine ⟨fun _ => ?_, fun h => by simp at h⟩
    obtain ⟨x', he⟩ := name_last (K := K) (x := x) (s := s) hlen
    exact ⟨x', iter_stop he (by simp)⟩
  | cons b rest ih =>
    intro i x k hr hle hi hk
    obtain ⟨k, rfl⟩ : ∃ j, k = j + 1 := ⟨k - 1, by omega⟩
    have hlt : i < s.data.toList.length := by
      rcases Nat.lt_or_ge i s.data.toList.length with h' | h'
      · exact h'
      · rw [List.drop_eq_nil_of_le h'] at hr; cases hr
    have hd := List.drop_eq_getElem_cons hlt
    rw [hr] at hd
    injection hd with hd1 hd2
    have hb : s.data.toList[i]? = some b := by rw [List.getElem?_eq_getElem hlt, hd1]
    cases hin : inner b.toNat with
    | true =>
      obtain ⟨x', he⟩ := name_later_on (K := K) (x := x) hb hlt hi (by omega) hin
      have hi2 := ih (i + 1) x' k hd2.symm (by omega) (by omega) (by simp at hk; omega)
      have hm : iter (st12 K) (k + 1) (A12 x s s.data.toList.length i mN) H0 = iter (st12 K) k (A12 x' s s.data.toList.length (i + 1) mN) H0 := iter_more he
      rw [hm]
      simpa [hin] using hi2
    | false =>
      refine ⟨fun h => by simp [hin] at h, fun _ => ?_⟩
      obtain ⟨a', he, h1, h2⟩ := name_later_no (K := K) (x := x) hb hlt hi hin
      exact ⟨a', iter_stop he (by simp), h1, h2⟩

/-! ## The functions -/

def nameB (l : List UInt8) : Bool := shapedB l && decide (l.length ≤ 24) && !wordB l
def nameV (l : List UInt8) : Value := .bool (nameB l)

theorem f12_some : ∃ fn, Tryd.prog.funcs[12]? = some fn ∧ fn.body = some c12 ∧ fn.results = #[.tmp 2] :=
  ⟨Tryd.f12, Tryd.func12, by kernel_rfl, by kernel_rfl⟩

theorem seql_nil {s : ByteArray} (h : s.data.toList ≠ []) : binF .eql (.string s) (.string ⟨#[]⟩) = some (.bool false) := by
  rw [binF_seql]
  show some (Value.bool (s.data.toList == ([] : List UInt8))) = _
  rw [beq_eq_false_iff_ne.mpr h]

theorem len_gt {s : ByteArray} {m : Nat} (h : m < s.data.toList.length) : binF .gtr (goInt (Int.ofNat (lenF s.data.toList (nat_lit 0)))) (.int .i64 (Int.ofNat m)) = some (.bool true) := by
  show binF .gtr (.int .i64 (Int.ofNat (lenF s.data.toList 0))) (.int .i64 (Int.ofNat m)) = _
  rw [int_gtr, lenF_eq, decide_eq_true (by omega)]
theorem len_ngt {s : ByteArray} {m : Nat} (h : ¬ m < s.data.toList.length) : binF .gtr (goInt (Int.ofNat (lenF s.data.toList (nat_lit 0)))) (.int .i64 (Int.ofNat m)) = some (.bool false) := by
  show binF .gtr (.int .i64 (Int.ofNat (lenF s.data.toList 0))) (.int .i64 (Int.ofNat m)) = _
  rw [int_gtr, lenF_eq, decide_eq_false (by omega)]
theorem len_le {s : ByteArray} {m : Nat} (h : s.data.toList.length ≤ m) : binF .leq (goInt (Int.ofNat (lenF s.data.toList (nat_lit 0)))) (.int .i64 (Int.ofNat m)) = some (.bool true) := by
  show binF .leq (.int .i64 (Int.ofNat (lenF s.data.toList 0))) (.int .i64 (Int.ofNat m)) = _
  rw [int_leq, lenF_eq, decide_eq_false (by omega)]; rfl
theorem len_nle {s : ByteArray} {m : Nat} (h : ¬ s.data.toList.length ≤ m) : binF .leq (goInt (Int.ofNat (lenF s.data.toList (nat_lit 0)))) (.int .i64 (Int.ofNat m)) = some (.bool false) := by
  show binF .leq (.int .i64 (Int.ofNat (lenF s.data.toList 0))) (.int .i64 (Int.ofNat m)) = _
  rw [int_leq, lenF_eq, decide_eq_true (by omega)]; rfl

theorem name_run (s : ByteArray) (hB : s.size ≤ big) (hne : s.data.toList ≠ []) (hs24 : s.data.toList.length ≤ 24) (hw : wordB s.data.toList = false) :
    callW Tryd.prog [7] (calW Tryd.prog 6 2 laidL nameT [7] 400 3) (s.size + 2) 12 #[.string s] H0 = some (.ret (.bool (shapedB s.data.toList)), H0) := by
  obtain ⟨fn, hf, hc, hr⟩ := f12_some
  have hB0 := hB
  rw [Lib.size_eq] at hB ⊢
  obtain ⟨K, hK⟩ : ∃ K, K = s.data.toList.length + 2 := ⟨_, rfl⟩
  rw [← hK]
  have e0 : exec Tryd.prog (calW Tryd.prog 6 2 laidL nameT [7] 400 3) K (Code.lft c12) (initAct #[.string s]) H0 = some (.normal, outA (pa0 K s), H0) := by
    have := exec12_of (tg0 K s) allP_nil
    rw [init_eq] at this
    exact this
  have e1 : exec Tryd.prog (calW Tryd.prog 6 2 laidL nameT [7] 400 3) K (Code.lft (Code.rgt c12)) (outA (pa0 K s)) H0 = some (.normal, outA (pa1 K s), H0) :=
    exec12_of (tg1 K s) (allP_cons (seql_nil hne) (allP_cons (len_ngt (m := 24) (by omega)) (allP_cons (by
      show textSB 10 wordV 10 [.string s] = _
      rw [textSB_at hB0]; unfold wordV; rw [hw]) allP_nil)))
  have e2 : exec Tryd.prog (calW Tryd.prog 6 2 laidL nameT [7] 400 3) K (Code.lft (Code.lft (Code.rgt (Code.rgt c12)))) (outA (pa1 K s)) H0 = some (.normal, A12 (xOf (outA (pa2 K s))) s s.data.toList.length 0 m0, H0) := by
    have := exec12_of (tg2 K s) allP_nil
    have h18 := tg218 K s
    rw [lenF_eq, Nat.zero_add] at h18
    rw [upd_self3 (tg20 K s) h18 (tg219 K s)] at this
    exact this
  cases hl : s.data.toList with
  | nil => exact absurd hl hne
  | cons b rest =>
    have hlt : 0 < s.data.toList.length := by rw [hl]; simp
    have hb : s.data.toList[0]? = some b := by rw [hl]; rfl
    have hdrop : s.data.toList.drop 1 = rest := by rw [hl]; rfl
    have hlen : s.data.toList.length = rest.length + 1 := by rw [hl]; simp
    have key : (shapedB (b :: rest) = true → ∃ x', iter (st12 K) K (A12 (xOf (outA (pa2 K s))) s s.data.toList.length 0 m0) H0 = some (.exit 0, actK x' mN, H0)) ∧
        (shapedB (b :: rest) = false → ∃ a', iter (st12 K) K (A12 (xOf (outA (pa2 K s))) s s.data.toList.length 0 m0) H0 = some (.ret, a', H0) ∧ a'.defers = [] ∧ xOf a' 2 = .bool false) := by
      obtain ⟨j, hj⟩ : ∃ j, K = j + 1 := ⟨K - 1, by omega⟩
      rw [show iter (st12 K) K = iter (st12 K) (j + 1) by rw [← hj]]
      cases hin : lb b.toNat with
      | true =>
        obtain ⟨x', he⟩ := name_first_on (K := K) (x := xOf (outA (pa2 K s))) hb hlt hin
        have hm : iter (st12 K) (j + 1) (A12 (xOf (outA (pa2 K s))) s s.data.toList.length 0 m0) H0 = iter (st12 K) j (A12 x' s s.data.toList.length 1 mN) H0 := iter_more he
        rw [hm]
        have := name_loop hB (K := K) rest 1 x' j hdrop (by omega) (Nat.le_refl _) (by omega)
        simpa [shapedB, hin] using this
      | false =>
        refine ⟨fun h => by simp [shapedB, hin] at h, fun _ => ?_⟩
        obtain ⟨a', he, h1, h2⟩ := name_first_no (K := K) (x := xOf (outA (pa2 K s))) hb hlt hin
        exact ⟨a', iter_stop he (by simp), h1, h2⟩
    cases hsh : shapedB (b :: rest) with
    | true =>
      obtain ⟨x', he⟩ := key.1 hsh
      have e3 := exec12_of (uF K x') allP_nil
      refine callW_ret (by decide) hf hc hr ?_ (uFd K x') (uF2 K x')
      rw [c12_eq, exec_seq e0, exec_seq e1, exec_seq (a' := actK x' mN) (H' := H0) ?_]
      · exact e3
      · rw [exec_seq e2]
        exact exec_block_exit he
    | false =>
      obtain ⟨a', he, h1, h2⟩ := key.2 hsh
      refine callW_ret (by decide) hf hc hr ?_ h1 h2
      rw [c12_eq, exec_seq e0, exec_seq e1, exec_seq_stop (z := .ret) (a' := a') (H' := H0) ?_ (by simp)]
      rw [exec_seq e2]
      exact exec_block_ret he

theorem name_calls : TextIsB 12 nameV := by
  intro s w hb h
  by_cases hs : s.data.toList = []
  · have e : s = ⟨#[]⟩ := by
      have : (⟨⟨s.data.toList⟩⟩ : ByteArray) = ⟨⟨[]⟩⟩ := by rw [hs]
      exact this
    rw [e]
    exact calls_eq nameT_good name_empty rfl rfl h
  · by_cases h24 : 24 < s.data.toList.length
    · have e : nameV s.data.toList = .bool false := by
        unfold nameV nameB
        rw [decide_eq_false (by omega), Bool.and_false, Bool.false_and]
      rw [e]
      exact calls_run nameT_good (name_long s) (allP2 (seql_nil hs) (len_gt (m := 24) h24)) rfl rfl h
    · cases hw : wordB s.data.toList with
      | true =>
        have e : nameV s.data.toList = .bool false := by
          unfold nameV nameB
          rw [hw, Bool.not_true, Bool.and_false]
        rw [e]
        refine calls_run nameT_good (name_word s) (allP3 (seql_nil hs) (len_ngt (m := 24) h24) ?_) rfl rfl h
        show textSB 10 wordV 10 [.string s] = _
        rw [textSB_at hb]; unfold wordV; rw [hw]
      | false =>
        have e : nameV s.data.toList = .bool (shapedB s.data.toList) := by
          unfold nameV nameB
          rw [hw, decide_eq_true (by omega), Bool.and_true, Bool.not_false, Bool.and_true]
        rw [e]
        exact calls_callW okP okB nGlobals (by omega) laidLt nameT_good (name_run s hb hs (by omega) hw) rfl rfl h

theorem rname_calls : TextIsB 13 nameV := by
  intro s w hb h
  have h32 : rnameT 32 [.string s] = some (.bool (shapedB s.data.toList)) := orS_left (by rw [textSB_at hb]; rfl)
  have h11 : rnameT 11 [.string s] = some (.bool (wordB s.data.toList)) := orS_right (textSB_ne (by decide)) (by rw [textSB_at hb]; rfl)
  cases hsh : shapedB s.data.toList with
  | false =>
    have e : nameV s.data.toList = .bool false := by unfold nameV nameB; rw [hsh]; rfl
    rw [e]
    exact calls_run rnameT_good (rname_a s) (allP_cons (by rw [h32, hsh]) allP_nil) rfl rfl h
  | true =>
    by_cases h24 : s.data.toList.length ≤ 24
    · cases hw : wordB s.data.toList with
      | true =>
        have e : nameV s.data.toList = .bool false := by unfold nameV nameB; rw [hw, Bool.not_true, Bool.and_false]
        rw [e]
        exact calls_run rnameT_good (rname_c s) (allP3 (by rw [h32, hsh]) (len_le (m := 24) h24) (by rw [h11, hw])) rfl rfl h
      | false =>
        have e : nameV s.data.toList = .bool true := by unfold nameV nameB; rw [hsh, hw, decide_eq_true h24]; rfl
        rw [e]
        exact calls_run rnameT_good (rname_d s) (allP3 (by rw [h32, hsh]) (len_le (m := 24) h24) (by rw [h11, hw])) rfl rfl h
    · have e : nameV s.data.toList = .bool false := by unfold nameV nameB; rw [decide_eq_false h24, Bool.and_false, Bool.false_and]
      rw [e]
      exact calls_run rnameT_good (rname_b s) (allP2 (by rw [h32, hsh]) (len_nle (m := 24) h24)) rfl rfl h

end Go.Proofs.YtedibiiolneooaaDoor
