/- Which register a text is. -/
import Derived.Test.YtedibiiolneooaaDoorOp
import Derived.Test.YtedibiiolneooaaDoorShelf

namespace Go.Proofs.YtedibiiolneooaaDoor
open Go Go.Can Go.RowKit
set_option maxRecDepth 100000

/-! ## The library's CutPrefix and ParseUint -/

def cutS : Spec := fun f args =>
  match Nat.beq f 44, args with
  | true, [.string s, .string p] => some (.tuple #[.string ⟨(Lib.trimPrefix s.data.toList p.data.toList).toArray⟩, .bool (Lib.hasPrefix s.data.toList p.data.toList)])
  | _, _ => none

theorem cutS_good : SpecGood cutS := by
  intro f args u hu
  unfold cutS at hu
  split at hu
  · rename_i s p hf
    simp only [Option.some.injEq] at hu; subst hu
    have e := Nat.eq_of_beq_eq_true hf
    subst e
    refine ⟨rfl, fun w hw => (Tryd.strings_CutPrefix s p w).mono ?_⟩
    rintro e w' ⟨rfl, rfl⟩
    exact ⟨⟨_, rfl, VR.of_flat _ _ rfl⟩, Below.refl _ _⟩
  · cases hu

/-- What ParseUint gives: the number, or an error. -/
def puV (s : ByteArray) : Value :=
  match Lib.parseUintB 8 s.data.toList with
  | .ok u => .tuple #[.int .u64 (Int.ofNat u), .nilIface]
  | .range => .tuple #[.int .u64 255, .iface 134 unk]
  | _ => .tuple #[.int .u64 0, .iface 134 unk]

def big : Nat := 140737488355328

def puS : Spec := fun f args =>
  match Nat.beq f 45, args with
  | true, [.string s, .int .i64 a, .int .i64 b] => if s.size ≤ big ∧ a = 10 ∧ b = 8 then some (puV s) else none
  | _, _ => none

theorem holds_err {w : World} (h : Holds w 6 2 laidL) (g : Nat) (c : Nat) (hg : (g, [Value.iface 149 (.pointer (some ⟨c, 0, none⟩))]) ∈ laidL) : ∃ ev, w.cell? ⟨g, 0, none⟩ = some ev ∧ (ev = .nilIface ∨ ∃ te pe, ev = .iface te pe) := by
  obtain ⟨ad, _, h, _, _⟩ := h
  obtain ⟨cs, t, fr, h1, h2⟩ := h _ hg
  obtain ⟨v', h3, h4⟩ := h2 0 _ rfl
  refine ⟨v', ?_, ?_⟩
  · simp only [World.cell?, h1]
    simpa using h3
  · cases h4 with
    | iface _ _ => exact .inr ⟨_, _, rfl⟩

theorem tup_err {n : Int} {N : Nat} : VR (fun _ => none) (.tuple #[.int .u64 n, .iface 134 unk]) (.tuple #[.int .u64 n, .iface 134 (.pointer (some ⟨N, 0, none⟩))]) :=
  VR.tuple [.int .u64 n, .iface 134 unk] [.int .u64 n, .iface 134 (.pointer (some ⟨N, 0, none⟩))] rfl
    (VRs.cons (.int _ _) (VRs.cons (.iface _ (.unk _ _ rfl)) (VRs.nil _))).at_

theorem puS_good : SpecGood puS := by
  intro f args u hu
  unfold puS at hu
  split at hu
  · rename_i s a b hf
    split at hu
    · rename_i hc
      obtain ⟨hs, rfl, rfl⟩ := hc
      simp only [Option.some.injEq] at hu; subst hu
      have e := Nat.eq_of_beq_eq_true hf
      subst e
      refine ⟨rfl, fun w hw => ?_⟩
      unfold big at hs
      unfold puV
      cases hp : Lib.parseUintB 8 s.data.toList with
      | ok u =>
        refine (Tryd.strconv_ParseUint_10_at8_ok s (by omega) u hp w).mono ?_
        rintro e w' ⟨rfl, hb⟩
        refine ⟨⟨_, rfl, VR.of_flat _ _ rfl⟩, ?_⟩
        rcases hb with rfl | rfl
        · exact Below.refl _ _
        · exact Lib.bytesWorld_below _ _ _
      | range =>
        obtain ⟨ev, h1, h2⟩ := holds_err hw 1 7 (by simp [laidL])
        refine (Tryd.strconv_ParseUint_10_at8_range s (by omega) hp ev w h1 h2).mono ?_
        rintro e w' ⟨N, rfl, _, _, hb⟩
        exact ⟨⟨_, rfl, tup_err⟩, hb⟩
      | _ =>
        obtain ⟨ev, h1, h2⟩ := holds_err hw 0 6 (by simp [laidL])
        refine (Any.strconv_ParseUint_10_at8_syntax Tryd.laysPu14 s (by omega) hp ev w h1 h2).mono ?_
        rintro e w' ⟨N, rfl, _, _, hb⟩
        exact ⟨⟨_, rfl, tup_err⟩, hb⟩
    · cases hu
  · cases hu

def regT : Spec := orS cutS puS
theorem regT_good : SpecGood regT := orS_good cutS_good puS_good

theorem regT44 (s : ByteArray) : regT 44 [.string s, .string ⟨#[114]⟩] = some (.tuple #[.string ⟨(Lib.trimPrefix s.data.toList [114]).toArray⟩, .bool (Lib.hasPrefix s.data.toList [114])]) := rfl
theorem regT45 (s : ByteArray) (h : s.size ≤ big) : regT 45 [.string s, .int .i64 10, .int .i64 8] = some (puV s) := by
  have e : regT 45 [.string s, .int .i64 10, .int .i64 8] = puS 45 [.string s, .int .i64 10, .int .i64 8] := rfl
  rw [e]
  unfold puS
  simp [h]

/-! ## Registers -/

def regWords : List (List UInt8) := [[114, 48], [114, 49], [114, 50], [114, 51], [114, 52], [114, 53], [114, 54], [114, 55], [114, 56], [114, 57], [114, 49, 48], [114, 49, 49], [114, 49, 50], [114, 49, 51], [114, 49, 52], [114, 49, 53]]

def regV (l : List UInt8) : Value := .int .i64 (Int.ofNat (place regWords l) - 1)

theorem reg_in : (regWords.all fun l => retEq (runS regT noAns 27 #[.string ⟨⟨l⟩⟩]) (regV l)) = true := by decide +kernel
theorem rreg_in : (regWords.all fun l => retEq (runS noSpec noAns 30 #[.string ⟨⟨l⟩⟩]) (regV l)) = true := by decide +kernel
theorem rreg_out (s : ByteArray) : runS noSpec (ans [(30, 12, .bool false)]) 30 #[.string s] = some (.int .i64 (-1), regWords.map fun w => (binF .eql (.string s) (.string ⟨⟨w⟩⟩) = some (.bool false))) := by kernel_rfl
theorem reg_no (s : ByteArray) (n : Int) (e : Value) : runS regT (ans [(27, 9, .tuple #[.string s, .bool false]), (27, 14, .tuple #[.int .u64 n, e])]) 27 #[.string s] = some (.int .i64 (-1), [regT 44 [.string s, .string ⟨#[114]⟩] = some (.tuple #[.string s, .bool false]), regT 45 [.string s, .int .i64 10, .int .i64 8] = some (.tuple #[.int .u64 n, e])]) := by kernel_rfl
theorem reg_err (s d : ByteArray) (n : Int) : runS regT (ans [(27, 9, .tuple #[.string d, .bool true]), (27, 14, .tuple #[.int .u64 n, .iface 134 unk])]) 27 #[.string s] = some (.int .i64 (-1), [regT 44 [.string s, .string ⟨#[114]⟩] = some (.tuple #[.string d, .bool true]), regT 45 [.string d, .int .i64 10, .int .i64 8] = some (.tuple #[.int .u64 n, .iface 134 unk])]) := by kernel_rfl
theorem reg_ge (s d : ByteArray) (n : Int) : runS regT (ans [(27, 9, .tuple #[.string d, .bool true]), (27, 14, .tuple #[.int .u64 n, .nilIface]), (27, 25, .bool true)]) 27 #[.string s] = some (.int .i64 (-1), [regT 44 [.string s, .string ⟨#[114]⟩] = some (.tuple #[.string d, .bool true]), regT 45 [.string d, .int .i64 10, .int .i64 8] = some (.tuple #[.int .u64 n, .nilIface]), binF .geq (.int .u64 n) (.int .u64 16) = some (.bool true)]) := by kernel_rfl
theorem reg_lt0 (s d : ByteArray) : runS regT (ans [(27, 9, .tuple #[.string d, .bool true]), (27, 14, .tuple #[.int .u64 0, .nilIface]), (27, 32, .bool true)]) 27 #[.string s] = some (.int .i64 (-1), [regT 44 [.string s, .string ⟨#[114]⟩] = some (.tuple #[.string d, .bool true]), regT 45 [.string d, .int .i64 10, .int .i64 8] = some (.tuple #[.int .u64 0, .nilIface]), binF .neq (.string ⟨⟨[48]⟩⟩) (.string d) = some (.bool true)]) := by kernel_rfl
theorem reg_lt1 (s d : ByteArray) : runS regT (ans [(27, 9, .tuple #[.string d, .bool true]), (27, 14, .tuple #[.int .u64 1, .nilIface]), (27, 32, .bool true)]) 27 #[.string s] = some (.int .i64 (-1), [regT 44 [.string s, .string ⟨#[114]⟩] = some (.tuple #[.string d, .bool true]), regT 45 [.string d, .int .i64 10, .int .i64 8] = some (.tuple #[.int .u64 1, .nilIface]), binF .neq (.string ⟨⟨[49]⟩⟩) (.string d) = some (.bool true)]) := by kernel_rfl
theorem reg_lt2 (s d : ByteArray) : runS regT (ans [(27, 9, .tuple #[.string d, .bool true]), (27, 14, .tuple #[.int .u64 2, .nilIface]), (27, 32, .bool true)]) 27 #[.string s] = some (.int .i64 (-1), [regT 44 [.string s, .string ⟨#[114]⟩] = some (.tuple #[.string d, .bool true]), regT 45 [.string d, .int .i64 10, .int .i64 8] = some (.tuple #[.int .u64 2, .nilIface]), binF .neq (.string ⟨⟨[50]⟩⟩) (.string d) = some (.bool true)]) := by kernel_rfl
theorem reg_lt3 (s d : ByteArray) : runS regT (ans [(27, 9, .tuple #[.string d, .bool true]), (27, 14, .tuple #[.int .u64 3, .nilIface]), (27, 32, .bool true)]) 27 #[.string s] = some (.int .i64 (-1), [regT 44 [.string s, .string ⟨#[114]⟩] = some (.tuple #[.string d, .bool true]), regT 45 [.string d, .int .i64 10, .int .i64 8] = some (.tuple #[.int .u64 3, .nilIface]), binF .neq (.string ⟨⟨[51]⟩⟩) (.string d) = some (.bool true)]) := by kernel_rfl
theorem reg_lt4 (s d : ByteArray) : runS regT (ans [(27, 9, .tuple #[.string d, .bool true]), (27, 14, .tuple #[.int .u64 4, .nilIface]), (27, 32, .bool true)]) 27 #[.string s] = some (.int .i64 (-1), [regT 44 [.string s, .string ⟨#[114]⟩] = some (.tuple #[.string d, .bool true]), regT 45 [.string d, .int .i64 10, .int .i64 8] = some (.tuple #[.int .u64 4, .nilIface]), binF .neq (.string ⟨⟨[52]⟩⟩) (.string d) = some (.bool true)]) := by kernel_rfl
theorem reg_lt5 (s d : ByteArray) : runS regT (ans [(27, 9, .tuple #[.string d, .bool true]), (27, 14, .tuple #[.int .u64 5, .nilIface]), (27, 32, .bool true)]) 27 #[.string s] = some (.int .i64 (-1), [regT 44 [.string s, .string ⟨#[114]⟩] = some (.tuple #[.string d, .bool true]), regT 45 [.string d, .int .i64 10, .int .i64 8] = some (.tuple #[.int .u64 5, .nilIface]), binF .neq (.string ⟨⟨[53]⟩⟩) (.string d) = some (.bool true)]) := by kernel_rfl
theorem reg_lt6 (s d : ByteArray) : runS regT (ans [(27, 9, .tuple #[.string d, .bool true]), (27, 14, .tuple #[.int .u64 6, .nilIface]), (27, 32, .bool true)]) 27 #[.string s] = some (.int .i64 (-1), [regT 44 [.string s, .string ⟨#[114]⟩] = some (.tuple #[.string d, .bool true]), regT 45 [.string d, .int .i64 10, .int .i64 8] = some (.tuple #[.int .u64 6, .nilIface]), binF .neq (.string ⟨⟨[54]⟩⟩) (.string d) = some (.bool true)]) := by kernel_rfl
theorem reg_lt7 (s d : ByteArray) : runS regT (ans [(27, 9, .tuple #[.string d, .bool true]), (27, 14, .tuple #[.int .u64 7, .nilIface]), (27, 32, .bool true)]) 27 #[.string s] = some (.int .i64 (-1), [regT 44 [.string s, .string ⟨#[114]⟩] = some (.tuple #[.string d, .bool true]), regT 45 [.string d, .int .i64 10, .int .i64 8] = some (.tuple #[.int .u64 7, .nilIface]), binF .neq (.string ⟨⟨[55]⟩⟩) (.string d) = some (.bool true)]) := by kernel_rfl
theorem reg_lt8 (s d : ByteArray) : runS regT (ans [(27, 9, .tuple #[.string d, .bool true]), (27, 14, .tuple #[.int .u64 8, .nilIface]), (27, 32, .bool true)]) 27 #[.string s] = some (.int .i64 (-1), [regT 44 [.string s, .string ⟨#[114]⟩] = some (.tuple #[.string d, .bool true]), regT 45 [.string d, .int .i64 10, .int .i64 8] = some (.tuple #[.int .u64 8, .nilIface]), binF .neq (.string ⟨⟨[56]⟩⟩) (.string d) = some (.bool true)]) := by kernel_rfl
theorem reg_lt9 (s d : ByteArray) : runS regT (ans [(27, 9, .tuple #[.string d, .bool true]), (27, 14, .tuple #[.int .u64 9, .nilIface]), (27, 32, .bool true)]) 27 #[.string s] = some (.int .i64 (-1), [regT 44 [.string s, .string ⟨#[114]⟩] = some (.tuple #[.string d, .bool true]), regT 45 [.string d, .int .i64 10, .int .i64 8] = some (.tuple #[.int .u64 9, .nilIface]), binF .neq (.string ⟨⟨[57]⟩⟩) (.string d) = some (.bool true)]) := by kernel_rfl
theorem reg_lt10 (s d : ByteArray) : runS regT (ans [(27, 9, .tuple #[.string d, .bool true]), (27, 14, .tuple #[.int .u64 10, .nilIface]), (27, 32, .bool true)]) 27 #[.string s] = some (.int .i64 (-1), [regT 44 [.string s, .string ⟨#[114]⟩] = some (.tuple #[.string d, .bool true]), regT 45 [.string d, .int .i64 10, .int .i64 8] = some (.tuple #[.int .u64 10, .nilIface]), binF .neq (.string ⟨⟨[49,48]⟩⟩) (.string d) = some (.bool true)]) := by kernel_rfl
theorem reg_lt11 (s d : ByteArray) : runS regT (ans [(27, 9, .tuple #[.string d, .bool true]), (27, 14, .tuple #[.int .u64 11, .nilIface]), (27, 32, .bool true)]) 27 #[.string s] = some (.int .i64 (-1), [regT 44 [.string s, .string ⟨#[114]⟩] = some (.tuple #[.string d, .bool true]), regT 45 [.string d, .int .i64 10, .int .i64 8] = some (.tuple #[.int .u64 11, .nilIface]), binF .neq (.string ⟨⟨[49,49]⟩⟩) (.string d) = some (.bool true)]) := by kernel_rfl
theorem reg_lt12 (s d : ByteArray) : runS regT (ans [(27, 9, .tuple #[.string d, .bool true]), (27, 14, .tuple #[.int .u64 12, .nilIface]), (27, 32, .bool true)]) 27 #[.string s] = some (.int .i64 (-1), [regT 44 [.string s, .string ⟨#[114]⟩] = some (.tuple #[.string d, .bool true]), regT 45 [.string d, .int .i64 10, .int .i64 8] = some (.tuple #[.int .u64 12, .nilIface]), binF .neq (.string ⟨⟨[49,50]⟩⟩) (.string d) = some (.bool true)]) := by kernel_rfl
theorem reg_lt13 (s d : ByteArray) : runS regT (ans [(27, 9, .tuple #[.string d, .bool true]), (27, 14, .tuple #[.int .u64 13, .nilIface]), (27, 32, .bool true)]) 27 #[.string s] = some (.int .i64 (-1), [regT 44 [.string s, .string ⟨#[114]⟩] = some (.tuple #[.string d, .bool true]), regT 45 [.string d, .int .i64 10, .int .i64 8] = some (.tuple #[.int .u64 13, .nilIface]), binF .neq (.string ⟨⟨[49,51]⟩⟩) (.string d) = some (.bool true)]) := by kernel_rfl
theorem reg_lt14 (s d : ByteArray) : runS regT (ans [(27, 9, .tuple #[.string d, .bool true]), (27, 14, .tuple #[.int .u64 14, .nilIface]), (27, 32, .bool true)]) 27 #[.string s] = some (.int .i64 (-1), [regT 44 [.string s, .string ⟨#[114]⟩] = some (.tuple #[.string d, .bool true]), regT 45 [.string d, .int .i64 10, .int .i64 8] = some (.tuple #[.int .u64 14, .nilIface]), binF .neq (.string ⟨⟨[49,52]⟩⟩) (.string d) = some (.bool true)]) := by kernel_rfl
theorem reg_lt15 (s d : ByteArray) : runS regT (ans [(27, 9, .tuple #[.string d, .bool true]), (27, 14, .tuple #[.int .u64 15, .nilIface]), (27, 32, .bool true)]) 27 #[.string s] = some (.int .i64 (-1), [regT 44 [.string s, .string ⟨#[114]⟩] = some (.tuple #[.string d, .bool true]), regT 45 [.string d, .int .i64 10, .int .i64 8] = some (.tuple #[.int .u64 15, .nilIface]), binF .neq (.string ⟨⟨[49,53]⟩⟩) (.string d) = some (.bool true)]) := by kernel_rfl

/-- A text that no list holds, either way round. -/
theorem none_of' {l : List (List UInt8)} {s : ByteArray} (h : s.data.toList ∉ l) : AllP (l.map fun w => (binF .eql (.string s) (.string ⟨⟨w⟩⟩) = some (.bool false))) := by
  intro p hp
  obtain ⟨w, hw, rfl⟩ := List.mem_map.1 hp
  rw [binF_seql]
  have : ¬ (s.data.toList = w) := fun e => h (e ▸ hw)
  simp [this]

theorem regV_out {l : List UInt8} (h : l ∉ regWords) : regV l = .int .i64 (-1) := by
  unfold regV; rw [(place_zero _ _).2 h]; rfl

/-- What a function of a text, of no great length, gives. -/
def TextIsB (g : FuncId) (v : List UInt8 → Value) : Prop := ∀ (s : ByteArray) (w : World), s.size ≤ big → Holds w 6 2 laidL → Calls Tryd.prog g #[.string s] w fun e w' => e = .returned (v s.data.toList) ∧ Below w.heap.size w w'

theorem rreg_calls : TextIsB 30 regV := by
  intro s w _ h
  by_cases hs : s.data.toList ∈ regWords
  · exact calls_eq noSpec_good (List.all_eq_true.mp rreg_in _ hs) rfl rfl h
  · rw [regV_out hs]
    exact calls_run noSpec_good (rreg_out s) (none_of' hs) rfl rfl h

theorem allP2 {a b : Prop} (ha : a) (hb : b) : AllP [a, b] := by
  intro p hp; simp only [List.mem_cons, List.not_mem_nil, or_false] at hp
  rcases hp with rfl | rfl
  · exact ha
  · exact hb
theorem allP3 {a b c : Prop} (ha : a) (hb : b) (hc : c) : AllP [a, b, c] := by
  intro p hp; simp only [List.mem_cons, List.not_mem_nil, or_false] at hp
  rcases hp with rfl | rfl | rfl
  · exact ha
  · exact hb
  · exact hc

theorem trim_no {l : List UInt8} (h : Lib.hasPrefix l [114] = false) : Lib.trimPrefix l [114] = l := by simp [Lib.trimPrefix, h]
theorem trim_yes {l : List UInt8} (h : Lib.hasPrefix l [114] = true) : l = 114 :: Lib.trimPrefix l [114] := by
  cases l with
  | nil => simp [Lib.hasPrefix] at h
  | cons c l =>
    simp [Lib.hasPrefix] at h
    subst h
    simp [Lib.trimPrefix, Lib.hasPrefix]

theorem neq_of {s d : ByteArray} {m : List UInt8} (hd : s.data.toList = 114 :: d.data.toList) (hs : s.data.toList ∉ regWords) (hm : 114 :: m ∈ regWords) : binF .neq (.string ⟨⟨m⟩⟩) (.string d) = some (.bool true) := by
  rw [binF_sneq]
  have : ¬ (m = d.data.toList) := fun e => hs (by rw [hd, ← e]; exact hm)
  simp [this]

theorem reg_calls : TextIsB 27 regV := by
  intro s w hb h
  by_cases hs : s.data.toList ∈ regWords
  · exact calls_eq regT_good (List.all_eq_true.mp reg_in _ hs) rfl rfl h
  · rw [regV_out hs]
    cases hp : Lib.hasPrefix s.data.toList [114] with
    | false =>
      have h44 : regT 44 [.string s, .string ⟨#[114]⟩] = some (.tuple #[.string s, .bool false]) := by
        rw [regT44, hp, trim_no hp]
      cases hu : Lib.parseUintB 8 s.data.toList with
      | ok u => exact calls_run regT_good (reg_no s (Int.ofNat u) .nilIface) (allP2 h44 (by rw [regT45 s hb]; simp [puV, hu])) rfl rfl h
      | range => exact calls_run regT_good (reg_no s 255 (.iface 134 unk)) (allP2 h44 (by rw [regT45 s hb]; simp [puV, hu])) rfl rfl h
      | _ => exact calls_run regT_good (reg_no s 0 (.iface 134 unk)) (allP2 h44 (by rw [regT45 s hb]; simp [puV, hu])) rfl rfl h
    | true =>
      obtain ⟨d, hd⟩ : ∃ d : ByteArray, d = ⟨(Lib.trimPrefix s.data.toList [114]).toArray⟩ := ⟨_, rfl⟩
      have hsd : s.data.toList = 114 :: d.data.toList := by rw [hd]; exact trim_yes hp
      have h44 : regT 44 [.string s, .string ⟨#[114]⟩] = some (.tuple #[.string d, .bool true]) := by
        rw [regT44, hp, hd]
      have hdb : d.size ≤ big := by
        rw [Lib.size_eq] at hb ⊢
        rw [hsd, List.length_cons] at hb
        omega
      cases hu : Lib.parseUintB 8 d.data.toList with
      | range => exact calls_run regT_good (reg_err s d 255) (allP2 h44 (by rw [regT45 d hdb]; simp [puV, hu])) rfl rfl h
      | ok u =>
        have h45 : regT 45 [.string d, .int .i64 10, .int .i64 8] = some (.tuple #[.int .u64 (Int.ofNat u), .nilIface]) := by rw [regT45 d hdb]; simp [puV, hu]
        by_cases h16 : 16 ≤ u
        · refine calls_run regT_good (reg_ge s d (Int.ofNat u)) (allP3 h44 h45 ?_) rfl rfl h
          rw [binF_geq]
          have : ¬ ((Int.ofNat u) < 16) := by simp; omega
          simp only [this, decide_false, Bool.not_false]
        · have hc : u = 0 ∨ u = 1 ∨ u = 2 ∨ u = 3 ∨ u = 4 ∨ u = 5 ∨ u = 6 ∨ u = 7 ∨ u = 8 ∨ u = 9 ∨ u = 10 ∨ u = 11 ∨ u = 12 ∨ u = 13 ∨ u = 14 ∨ u = 15 := by omega
          rcases hc with rfl | rfl | rfl | rfl | rfl | rfl | rfl | rfl | rfl | rfl | rfl | rfl | rfl | rfl | rfl | rfl
          · exact calls_run regT_good (reg_lt0 s d) (allP3 h44 h45 (neq_of hsd hs (by decide))) rfl rfl h
          · exact calls_run regT_good (reg_lt1 s d) (allP3 h44 h45 (neq_of hsd hs (by decide))) rfl rfl h
          · exact calls_run regT_good (reg_lt2 s d) (allP3 h44 h45 (neq_of hsd hs (by decide))) rfl rfl h
          · exact calls_run regT_good (reg_lt3 s d) (allP3 h44 h45 (neq_of hsd hs (by decide))) rfl rfl h
          · exact calls_run regT_good (reg_lt4 s d) (allP3 h44 h45 (neq_of hsd hs (by decide))) rfl rfl h
          · exact calls_run regT_good (reg_lt5 s d) (allP3 h44 h45 (neq_of hsd hs (by decide))) rfl rfl h
          · exact calls_run regT_good (reg_lt6 s d) (allP3 h44 h45 (neq_of hsd hs (by decide))) rfl rfl h
          · exact calls_run regT_good (reg_lt7 s d) (allP3 h44 h45 (neq_of hsd hs (by decide))) rfl rfl h
          · exact calls_run regT_good (reg_lt8 s d) (allP3 h44 h45 (neq_of hsd hs (by decide))) rfl rfl h
          · exact calls_run regT_good (reg_lt9 s d) (allP3 h44 h45 (neq_of hsd hs (by decide))) rfl rfl h
          · exact calls_run regT_good (reg_lt10 s d) (allP3 h44 h45 (neq_of hsd hs (by decide))) rfl rfl h
          · exact calls_run regT_good (reg_lt11 s d) (allP3 h44 h45 (neq_of hsd hs (by decide))) rfl rfl h
          · exact calls_run regT_good (reg_lt12 s d) (allP3 h44 h45 (neq_of hsd hs (by decide))) rfl rfl h
          · exact calls_run regT_good (reg_lt13 s d) (allP3 h44 h45 (neq_of hsd hs (by decide))) rfl rfl h
          · exact calls_run regT_good (reg_lt14 s d) (allP3 h44 h45 (neq_of hsd hs (by decide))) rfl rfl h
          · exact calls_run regT_good (reg_lt15 s d) (allP3 h44 h45 (neq_of hsd hs (by decide))) rfl rfl h
      | _ => exact calls_run regT_good (reg_err s d 0) (allP2 h44 (by rw [regT45 d hdb]; simp [puV, hu])) rfl rfl h

end Go.Proofs.YtedibiiolneooaaDoor
