/- Whether a text has a name's letters: the document's function, any text. -/
import Derived.Test.YtedibiiolneooaaDoorShapedA

namespace Go.Proofs.YtedibiiolneooaaDoor
open Go Go.Can Go.RowKit
set_option maxRecDepth 100000

def inner (m : Nat) : Bool := lb m || (decide (m = 95) || (decide (48 ≤ m) && decide (m ≤ 57)))
def shapedB : List UInt8 → Bool
  | [] => false
  | b :: r => lb b.toNat && r.all fun c => inner c.toNat

theorem wrapF_small {k : IntKind} {m : Nat} (h : m ≤ maxN k) : wrapF k (Int.ofNat m) = Int.ofNat m := by
  show Bool.rec (motive := fun _ => Int) (k.wrap (.ofNat m)) (succF m .ofNat) (Nat.ble m (maxN k)) = _
  rw [Nat.ble_eq_true_of_le h]
  exact succF_eq m _

theorem add_one {i : Nat} (h : i ≤ big) : binF .add (.int .i64 (Int.ofNat i)) (.int .i64 1) = some (.int .i64 (Int.ofNat (i + 1))) := by
  show some (Value.int .i64 (wrapF .i64 (Int.ofNat (i + 1)))) = _
  rw [wrapF_small (by unfold big at h; simp only [maxN]; omega)]

theorem idx_at {s : ByteArray} {i : Nat} {b : UInt8} (h : s.data.toList[i]? = some b) : idxV (.string s) (.int .i64 (Int.ofNat i)) = some (.int .u8 (Int.ofNat b.toNat)) := by
  show (match nthF s.data.toList i with | some b => some (Value.int .u8 (Int.ofNat b.toNat)) | none => none) = _
  rw [nthF_eq, h]

theorem int_eq (m n : Nat) (k : IntKind) : binF .eql (.int k (Int.ofNat m)) (.int k (Int.ofNat n)) = some (.bool (decide (m = n))) := by
  rw [binF_eql, decide_eq_decide.mpr (show Int.ofNat m = Int.ofNat n ↔ m = n by simp only [Int.ofNat_eq_natCast]; omega)]
theorem int_neq (m n : Nat) (k : IntKind) : binF .neq (.int k (Int.ofNat m)) (.int k (Int.ofNat n)) = some (.bool (!decide (m = n))) := by
  rw [binF_neq, decide_eq_decide.mpr (show Int.ofNat m = Int.ofNat n ↔ m = n by simp only [Int.ofNat_eq_natCast]; omega)]
theorem int_lss (m n : Nat) (k : IntKind) : binF .lss (.int k (Int.ofNat m)) (.int k (Int.ofNat n)) = some (.bool (decide (m < n))) := by
  rw [binF_lss, decide_eq_decide.mpr (show Int.ofNat m < Int.ofNat n ↔ m < n by simp only [Int.ofNat_eq_natCast]; omega)]
theorem int_gtr (m n : Nat) (k : IntKind) : binF .gtr (.int k (Int.ofNat m)) (.int k (Int.ofNat n)) = some (.bool (decide (n < m))) := by
  rw [binF_gtr, decide_eq_decide.mpr (show Int.ofNat n < Int.ofNat m ↔ n < m by simp only [Int.ofNat_eq_natCast]; omega)]
theorem int_geq (m n : Nat) (k : IntKind) : binF .geq (.int k (Int.ofNat m)) (.int k (Int.ofNat n)) = some (.bool (!decide (m < n))) := by
  rw [binF_geq, decide_eq_decide.mpr (show Int.ofNat m < Int.ofNat n ↔ m < n by simp only [Int.ofNat_eq_natCast]; omega)]
theorem int_leq (m n : Nat) (k : IntKind) : binF .leq (.int k (Int.ofNat m)) (.int k (Int.ofNat n)) = some (.bool (!decide (n < m))) := by
  rw [binF_leq, decide_eq_decide.mpr (show Int.ofNat n < Int.ofNat m ↔ n < m by simp only [Int.ofNat_eq_natCast]; omega)]
theorem lt_len {s : ByteArray} {i : Nat} (h : i < s.data.toList.length) : binF .lss (.int .i64 (Int.ofNat i)) (goInt (Int.ofNat (lenF s.data.toList (nat_lit 0)))) = some (.bool true) := by
  show binF .lss (.int .i64 (Int.ofNat i)) (.int .i64 (Int.ofNat (lenF s.data.toList 0))) = _
  rw [int_lss, lenF_eq, decide_eq_true (by omega)]

theorem ge_len {s : ByteArray} {i : Nat} (h : s.data.toList.length ≤ i) : binF .lss (.int .i64 (Int.ofNat i)) (goInt (Int.ofNat (lenF s.data.toList (nat_lit 0)))) = some (.bool false) := by
  show binF .lss (.int .i64 (Int.ofNat i)) (.int .i64 (Int.ofNat (lenF s.data.toList 0))) = _
  rw [int_lss, lenF_eq, decide_eq_false (by omega)]

theorem eq_t (m n : Nat) (k : IntKind) (h : m = n) : binF .eql (.int k (Int.ofNat m)) (.int k (Int.ofNat n)) = some (.bool true) := by rw [int_eq]; simp [h]
theorem eq_f (m n : Nat) (k : IntKind) (h : m ≠ n) : binF .eql (.int k (Int.ofNat m)) (.int k (Int.ofNat n)) = some (.bool false) := by rw [int_eq]; simp [h]
theorem ne_t (m n : Nat) (k : IntKind) (h : m ≠ n) : binF .neq (.int k (Int.ofNat m)) (.int k (Int.ofNat n)) = some (.bool true) := by rw [int_neq]; simp [h]
theorem ne_f (m n : Nat) (k : IntKind) (h : m = n) : binF .neq (.int k (Int.ofNat m)) (.int k (Int.ofNat n)) = some (.bool false) := by rw [int_neq]; simp [h]
theorem lt_t (m n : Nat) (k : IntKind) (h : m < n) : binF .lss (.int k (Int.ofNat m)) (.int k (Int.ofNat n)) = some (.bool true) := by rw [int_lss]; simp [h]
theorem lt_f (m n : Nat) (k : IntKind) (h : ¬ m < n) : binF .lss (.int k (Int.ofNat m)) (.int k (Int.ofNat n)) = some (.bool false) := by rw [int_lss]; simp [h]
theorem gt_t (m n : Nat) (k : IntKind) (h : n < m) : binF .gtr (.int k (Int.ofNat m)) (.int k (Int.ofNat n)) = some (.bool true) := by rw [int_gtr]; simp [h]
theorem gt_f (m n : Nat) (k : IntKind) (h : ¬ n < m) : binF .gtr (.int k (Int.ofNat m)) (.int k (Int.ofNat n)) = some (.bool false) := by rw [int_gtr]; simp [h]
theorem ge_t (m n : Nat) (k : IntKind) (h : n ≤ m) : binF .geq (.int k (Int.ofNat m)) (.int k (Int.ofNat n)) = some (.bool true) := by rw [int_geq]; simp [h]
theorem ge_f (m n : Nat) (k : IntKind) (h : m < n) : binF .geq (.int k (Int.ofNat m)) (.int k (Int.ofNat n)) = some (.bool false) := by rw [int_geq]; simp [h]
theorem le_t (m n : Nat) (k : IntKind) (h : m ≤ n) : binF .leq (.int k (Int.ofNat m)) (.int k (Int.ofNat n)) = some (.bool true) := by rw [int_leq]; simp [h]
theorem le_f (m n : Nat) (k : IntKind) (h : n < m) : binF .leq (.int k (Int.ofNat m)) (.int k (Int.ofNat n)) = some (.bool false) := by rw [int_leq]; simp [h]

theorem allP_nil : AllP [] := fun _ h => by cases h

theorem byte_lt (b : UInt8) : b.toNat < 256 := b.toNat_lt

noncomputable abbrev A32 (x : Nat → Value) (s : ByteArray) (i : Nat) (keys : List Nat) : CAct := actK (upd [(0, .string s), (3, .int .i64 (Int.ofNat i))] x) keys

/-- A round goes on. -/
def On (K : Nat) (a : CAct) (s : ByteArray) (i : Nat) : Prop := ∃ x', e32 K a = some (.normal, A32 x' s (i + 1) kN, H0)
/-- A round answers false. -/
def No (K : Nat) (a : CAct) : Prop := ∃ a', e32 K a = some (.ret, a', H0) ∧ a'.defers = [] ∧ xOf a' 2 = .bool false

theorem on_of {K : Nat} {A : Tmp → Option Value} {a : CAct} {s : ByteArray} {i : Nat} {q : List Prop} {r : Option (X × CAct × Heap × List Prop)} (h0 : r = q32 K A a) (h : r = some (.normal, actK (xOf (outA r)) kN, H0, q)) (hq : AllP q)
    (h1 : xOf (outA r) 0 = .string s) (h2 : xOf (outA r) 3 = .int .i64 (Int.ofNat (i + 1))) : On K a s i := by
  subst h0
  refine ⟨xOf (outA (q32 K A a)), ?_⟩
  have e := e32_of h hq
  rw [upd_self2 h1 h2] at e
  exact e

theorem no_of {K : Nat} {A : Tmp → Option Value} {a : CAct} {q : List Prop} {r : Option (X × CAct × Heap × List Prop)} (h0 : r = q32 K A a) (h : r = some (.ret, outA r, H0, q)) (hq : AllP q)
    (h1 : (outA r).defers = []) (h2 : xOf (outA r) 2 = .bool false) : No K a := by
  subst h0
  exact ⟨_, e32_of h hq, h1, h2⟩

theorem first_on {K : Nat} {x : Nat → Value} {s : ByteArray} {b : UInt8} (h : s.data.toList[0]? = some b) (hl : 0 < s.data.toList.length) (hb : lb b.toNat = true) : On K (A32 x s 0 k0) s 0 :=
  on_of rfl (tLa K x s 0 b.toNat) (allP_cons (lt_len hl) (allP_cons (idx_at h) (allP_cons (by rw [letS_at (byte_lt b), hb]) (allP_cons (add_one (by unfold big; omega)) allP_nil)))) (tLa0 K x s 0 b.toNat) (tLa3 K x s 0 b.toNat)

theorem first_no {K : Nat} {x : Nat → Value} {s : ByteArray} {b : UInt8} (h : s.data.toList[0]? = some b) (hl : 0 < s.data.toList.length) (hb : lb b.toNat = false) : No K (A32 x s 0 k0) :=
  no_of rfl (tZa K x s 0 b.toNat) (allP_cons (lt_len hl) (allP_cons (idx_at h) (allP_cons (by rw [letS_at (byte_lt b), hb]) (allP_cons (eq_t 0 0 .i64 rfl) allP_nil)))) (tZad K x s 0 b.toNat) (tZa2 K x s 0 b.toNat)

theorem later_on {K : Nat} {x : Nat → Value} {s : ByteArray} {i : Nat} {b : UInt8} (h : s.data.toList[i]? = some b) (hl : i < s.data.toList.length) (hi : 1 ≤ i) (hB : i ≤ big) (hb : inner b.toNat = true) : On K (A32 x s i kN) s i := by
  have hlet := letS_at (byte_lt b)
  have hidx := idx_at h
  cases hL : lb b.toNat with
  | true =>
    exact on_of rfl (tLb K x s i b.toNat) (allP_cons (lt_len hl) (allP_cons hidx (allP_cons (by rw [hlet, hL]) (allP_cons (add_one hB) allP_nil)))) (tLb0 K x s i b.toNat) (tLb3 K x s i b.toNat)
  | false =>
    simp only [inner, hL, Bool.false_or, Bool.or_eq_true, Bool.and_eq_true, decide_eq_true_eq] at hb
    by_cases h95 : b.toNat = 95
    · exact on_of rfl (tUb K x s i b.toNat) (allP_cons (lt_len hl) (allP_cons hidx (allP_cons (by rw [hlet, hL]) (allP_cons (eq_f i 0 .i64 (by omega)) (allP_cons hidx (allP_cons (ne_f _ 95 .u8 h95) (allP_cons (add_one hB) allP_nil)))))))
        (tUb0 K x s i b.toNat) (tUb3 K x s i b.toNat)
    · have hd : 48 ≤ b.toNat ∧ b.toNat ≤ 57 := by rcases hb with hb | hb; exact absurd hb h95; exact hb
      exact on_of rfl (tDb K x s i b.toNat) (allP_cons (lt_len hl) (allP_cons hidx (allP_cons (by rw [hlet, hL]) (allP_cons (eq_f i 0 .i64 (by omega)) (allP_cons hidx (allP_cons (ne_t _ 95 .u8 h95)
        (allP_cons hidx (allP_cons (lt_f _ 48 .u8 (by omega)) (allP_cons hidx (allP_cons (gt_f _ 57 .u8 (by omega)) (allP_cons (add_one hB) allP_nil)))))))))))
        (tDb0 K x s i b.toNat) (tDb3 K x s i b.toNat)

theorem later_no {K : Nat} {x : Nat → Value} {s : ByteArray} {i : Nat} {b : UInt8} (h : s.data.toList[i]? = some b) (hl : i < s.data.toList.length) (hi : 1 ≤ i) (hb : inner b.toNat = false) : No K (A32 x s i kN) := by
  have hlet := letS_at (byte_lt b)
  have hidx := idx_at h
  simp only [inner, Bool.or_eq_false_iff, Bool.and_eq_false_iff, decide_eq_false_iff_not] at hb
  obtain ⟨hL, h95, hd⟩ := hb
  by_cases h48 : b.toNat < 48
  · exact no_of rfl (tBb K x s i b.toNat) (allP_cons (lt_len hl) (allP_cons hidx (allP_cons (by rw [hlet, hL]) (allP_cons (eq_f i 0 .i64 (by omega)) (allP_cons hidx (allP_cons (ne_t _ 95 .u8 h95)
      (allP_cons hidx (allP_cons (lt_t _ 48 .u8 h48) allP_nil)))))))) (tBbd K x s i b.toNat) (tBb2 K x s i b.toNat)
  · have h57 : 57 < b.toNat := by omega
    exact no_of rfl (tCb K x s i b.toNat) (allP_cons (lt_len hl) (allP_cons hidx (allP_cons (by rw [hlet, hL]) (allP_cons (eq_f i 0 .i64 (by omega)) (allP_cons hidx (allP_cons (ne_t _ 95 .u8 h95)
      (allP_cons hidx (allP_cons (lt_f _ 48 .u8 (by omega)) (allP_cons hidx (allP_cons (gt_t _ 57 .u8 h57) allP_nil)))))))))) (tCbd K x s i b.toNat) (tCb2 K x s i b.toNat)

theorem last_out {K : Nat} {x : Nat → Value} {s : ByteArray} {i : Nat} (h : s.data.toList.length ≤ i) : ∃ x', e32 K (A32 x s i kN) = some (.exit 0, actK (upd [(0, .string s)] x') kN, H0) := by
  refine ⟨xOf (outA (rE K x s i)), ?_⟩
  have e := e32_of (tE K x s i) (allP_cons (ge_len h) allP_nil)
  show e32 K _ = _
  rw [show e32 K (A32 x s i kN) = some (.exit 0, actK (xOf (outA (rE K x s i))) kN, H0) from e]
  have h0 := tE0 K x s i
  have : xOf (outA (rE K x s i)) = upd [(0, .string s)] (xOf (outA (rE K x s i))) := by
    funext k
    show _ = (match Nat.beq 0 k with | true => Value.string s | false => _)
    rw [beq_dec]
    by_cases e : 0 = k
    · subst e; simpa using h0
    · simp [e]
  rw [← this]

/-! ## The loop -/

noncomputable def st32 (K : Nat) : CAct → Heap → Option (X × CAct × Heap) := exec Tryd.prog (calW Tryd.prog 6 2 laidL letS [7] 400 3) K b32

theorem loop_later {s : ByteArray} (hB : s.data.toList.length ≤ big) {K : Nat} : ∀ (rest : List UInt8) (i : Nat) (x : Nat → Value) (k : Nat), s.data.toList.drop i = rest → i ≤ s.data.toList.length → 1 ≤ i → rest.length < k →
    (rest.all (fun c => inner c.toNat) = true → ∃ x', iter (st32 K) k (A32 x s i kN) H0 = some (.exit 0, actK (upd [(0, .string s)] x') kN, H0)) ∧
    (rest.all (fun c => inner c.toNat) = false → ∃ a', iter (st32 K) k (A32 x s i kN) H0 = some (.ret, a', H0) ∧ a'.defers = [] ∧ xOf a' 2 = .bool false) := by
  intro rest
  induction rest with
  | nil =>
    intro i x k hr hle hi hk
    obtain ⟨k, rfl⟩ : ∃ j, k = j + 1 := ⟨k - 1, by omega⟩
    have hlen : s.data.toList.length ≤ i := by
      have := congrArg List.length hr; simp at this; simp; omega
    refine ⟨fun _ => ?_, fun h => by simp at h⟩
    obtain ⟨x', he⟩ := last_out (K := K) (x := x) hlen
    exact ⟨x', iter_stop he (by simp)⟩
  | cons b rest ih =>
    intro i x k hr hle hi hk
    obtain ⟨k, rfl⟩ : ∃ j, k = j + 1 := ⟨k - 1, by omega⟩
    have hlt : i < s.data.toList.length := by
      rcases Nat.lt_or_ge i s.data.toList.length with h' | h'
      · exact h'
      · rw [List.drop_eq_nil_of_le h'] at hr; cases hr
    have hd := List.drop_eq_getElem_cons hlt
    rw [hr] at hd
    injection hd with hd1 hd2
    have hb : s.data.toList[i]? = some b := by rw [List.getElem?_eq_getElem hlt, hd1]
    cases hin : inner b.toNat with
    | true =>
      obtain ⟨x', he⟩ := later_on (K := K) (x := x) hb hlt hi (by omega) hin
      have hi2 := ih (i + 1) x' k hd2.symm (by omega) (by omega) (by simp at hk; omega)
      have hm : iter (st32 K) (k + 1) (A32 x s i kN) H0 = iter (st32 K) k (A32 x' s (i + 1) kN) H0 := iter_more he
      rw [hm]
      simpa [hin] using hi2
    | false =>
      refine ⟨fun h => by simp [hin] at h, fun _ => ?_⟩
      obtain ⟨a', he, h1, h2⟩ := later_no (K := K) (x := x) hb hlt hi hin
      exact ⟨a', iter_stop he (by simp), h1, h2⟩

/-! ## The function -/

noncomputable def q32p (K : Nat) (c : Code) (A : Tmp → Option Value) (a : CAct) : Option (X × CAct × Heap × List Prop) :=
  execQ Tryd.prog 6 2 laidL letS (callQ Tryd.prog 6 2 laidL letS [7] noAns 400 3) A K c a H0

theorem c32_eq : c32 = .seq (Code.lft c32) (.seq (.seq (Code.lft (Code.lft (Code.rgt c32))) (.block 0 (.loop b32))) (Code.rgt (Code.rgt c32))) := by kernel_rfl

noncomputable def p0 (K : Nat) (s : ByteArray) := q32p K (Code.lft c32) (ansT []) { t := initF [.string s] (nat_lit 0) .nil, defers := [] }
theorem tp0 (K : Nat) (s : ByteArray) : p0 K s = some (.normal, outA (p0 K s), H0, []) := by kernel_rfl
noncomputable def p1 (K : Nat) (s : ByteArray) := q32p K (Code.lft (Code.lft (Code.rgt c32))) (ansT []) (outA (p0 K s))
theorem tp1 (K : Nat) (s : ByteArray) : p1 K s = some (.normal, actK (xOf (outA (p1 K s))) k0, H0, []) := by kernel_rfl
theorem tp10 (K : Nat) (s : ByteArray) : xOf (outA (p1 K s)) 0 = .string s := by kernel_rfl
theorem tp13 (K : Nat) (s : ByteArray) : xOf (outA (p1 K s)) 3 = .int .i64 (Int.ofNat 0) := by kernel_rfl
noncomputable def p2 (K : Nat) (x : Nat → Value) (s : ByteArray) := q32p K (Code.rgt (Code.rgt c32)) (ansT [(39, .bool true)]) (actK (upd [(0, .string s)] x) kN)
theorem tp2 (K : Nat) (x : Nat → Value) (s : ByteArray) : p2 K x s = some (.ret, outA (p2 K x s), H0, [binF .gtr (goInt (Int.ofNat (lenF s.data.toList (nat_lit 0)))) (.int .i64 0) = some (.bool true)]) := by kernel_rfl
theorem tp2d (K : Nat) (x : Nat → Value) (s : ByteArray) : (outA (p2 K x s)).defers = [] := by kernel_rfl
theorem tp22 (K : Nat) (x : Nat → Value) (s : ByteArray) : xOf (outA (p2 K x s)) 2 = .bool true := by kernel_rfl

theorem shaped_empty : retEq (runS letS noAns 32 #[.string ⟨#[]⟩]) (.bool false) = true := by decide +kernel
theorem f32_some : ∃ fn, Tryd.prog.funcs[32]? = some fn ∧ fn.body = some c32 ∧ fn.results = #[.tmp 2] :=
  ⟨Tryd.f32, Tryd.func32, by kernel_rfl, by kernel_rfl⟩

theorem init_eq (l : List Value) : ({ t := initF l (nat_lit 0) .nil, defers := [] } : CAct) = initAct l.toArray := by
  rw [initF_eq]; rfl

theorem exec_of {K : Nat} {c : Code} {A : Tmp → Option Value} {a a' : CAct} {x : X} {q : List Prop} (h : q32p K c A a = some (x, a', H0, q)) (hq : AllP q) :
    exec Tryd.prog (calW Tryd.prog 6 2 laidL letS [7] 400 3) K c a H0 = some (x, a', H0) :=
  execQ_sound (callQ_sub 3) (calW_keeps 3) _ _ _ _ _ _ _ h hq

theorem shaped_run (s : ByteArray) (hB : s.size ≤ big) (hne : s.data.toList ≠ []) : callW Tryd.prog [7] (calW Tryd.prog 6 2 laidL letS [7] 400 3) (s.size + 2) 32 #[.string s] H0 = some (.ret (.bool (shapedB s.data.toList)), H0) := by
  obtain ⟨fn, hf, hc, hr⟩ := f32_some
  rw [Lib.size_eq] at hB ⊢
  obtain ⟨K, hK⟩ : ∃ K, K = s.data.toList.length + 2 := ⟨_, rfl⟩
  rw [← hK]
  have e0 : exec Tryd.prog (calW Tryd.prog 6 2 laidL letS [7] 400 3) K (Code.lft c32) (initAct #[.string s]) H0 = some (.normal, outA (p0 K s), H0) := by
    have := exec_of (tp0 K s) allP_nil
    rw [init_eq] at this
    exact this
  have e1 : exec Tryd.prog (calW Tryd.prog 6 2 laidL letS [7] 400 3) K (Code.lft (Code.lft (Code.rgt c32))) (outA (p0 K s)) H0 = some (.normal, A32 (xOf (outA (p1 K s))) s 0 k0, H0) := by
    have := exec_of (tp1 K s) allP_nil
    rw [upd_self2 (tp10 K s) (tp13 K s)] at this
    exact this
  cases hl : s.data.toList with
  | nil => exact absurd hl hne
  | cons b rest =>
    have hlt : 0 < s.data.toList.length := by rw [hl]; simp
    have hb : s.data.toList[0]? = some b := by rw [hl]; rfl
    have hdrop : s.data.toList.drop 1 = rest := by rw [hl]; rfl
    have hlen : s.data.toList.length = rest.length + 1 := by rw [hl]; simp
    -- the loop, from its first round
    have key : (shapedB (b :: rest) = true → ∃ x', iter (st32 K) K (A32 (xOf (outA (p1 K s))) s 0 k0) H0 = some (.exit 0, actK (upd [(0, .string s)] x') kN, H0)) ∧
        (shapedB (b :: rest) = false → ∃ a', iter (st32 K) K (A32 (xOf (outA (p1 K s))) s 0 k0) H0 = some (.ret, a', H0) ∧ a'.defers = [] ∧ xOf a' 2 = .bool false) := by
      obtain ⟨j, hj⟩ : ∃ j, K = j + 1 := ⟨K - 1, by omega⟩
      rw [show iter (st32 K) K = iter (st32 K) (j + 1) by rw [← hj]]
      cases hin : lb b.toNat with
      | true =>
        obtain ⟨x', he⟩ := first_on (K := K) (x := xOf (outA (p1 K s))) hb hlt hin
        have hm : iter (st32 K) (j + 1) (A32 (xOf (outA (p1 K s))) s 0 k0) H0 = iter (st32 K) j (A32 x' s 1 kN) H0 := iter_more he
        rw [hm]
        have := loop_later hB (K := K) rest 1 x' j hdrop (by omega) (Nat.le_refl _) (by omega)
        simpa [shapedB, hin] using this
      | false =>
        refine ⟨fun h => by simp [shapedB, hin] at h, fun _ => ?_⟩
        obtain ⟨a', he, h1, h2⟩ := first_no (K := K) (x := xOf (outA (p1 K s))) hb hlt hin
        exact ⟨a', iter_stop he (by simp), h1, h2⟩
    cases hsh : shapedB (b :: rest) with
    | true =>
      obtain ⟨x', he⟩ := key.1 hsh
      have e2 := exec_of (tp2 K x' s) (allP_cons (by
        show binF .gtr (.int .i64 (Int.ofNat (lenF s.data.toList 0))) (.int .i64 (Int.ofNat 0)) = _
        rw [int_gtr, lenF_eq, decide_eq_true (by omega)]) allP_nil)
      refine callW_ret (by decide) hf hc hr ?_ (tp2d K x' s) (tp22 K x' s)
      rw [c32_eq, exec_seq e0, exec_seq (a' := actK (upd [(0, .string s)] x') kN) (H' := H0) ?_]
      · exact e2
      · rw [exec_seq e1]
        exact exec_block_exit he
    | false =>
      obtain ⟨a', he, h1, h2⟩ := key.2 hsh
      refine callW_ret (by decide) hf hc hr ?_ h1 h2
      rw [c32_eq, exec_seq e0, exec_seq_stop (z := .ret) (a' := a') (H' := H0) ?_ (by simp)]
      rw [exec_seq e1]
      exact exec_block_ret he

def shapedV (l : List UInt8) : Value := .bool (shapedB l)

theorem shaped_calls : TextIsB 32 shapedV := by
  intro s w hb h
  by_cases hs : s.data.toList = []
  · have e : s = ⟨#[]⟩ := by
      have : (⟨⟨s.data.toList⟩⟩ : ByteArray) = ⟨⟨[]⟩⟩ := by rw [hs]
      exact this
    rw [e]
    exact calls_eq letS_good shaped_empty rfl rfl h
  · exact calls_callW okP okB nGlobals (by omega) laidLt letS_good (shaped_run s hb hs) rfl rfl h

end Go.Proofs.YtedibiiolneooaaDoor
