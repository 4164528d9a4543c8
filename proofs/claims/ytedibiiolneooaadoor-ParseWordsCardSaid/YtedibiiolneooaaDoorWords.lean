/- ParseWords: the law's own function, any text and any number. -/
import Derived.Test.YtedibiiolneooaaDoorNameB
import Derived.Test.YtedibiiolneooaaDoorLives

namespace Go.Proofs.YtedibiiolneooaaDoor
open Go Go.Can Go.RowKit
set_option maxRecDepth 100000

def livesS : Spec := fun f args =>
  match Nat.beq f 16, args with
  | true, [] => some (.bool true)
  | _, _ => none

theorem livesS_good : SpecGood livesS := by
  intro f args u hu
  unfold livesS at hu
  split at hu
  · rename_i hf
    simp only [Option.some.injEq] at hu; subst hu
    have e := Nat.eq_of_beq_eq_true hf
    subst e
    refine ⟨rfl, fun w hw => (lives_true hw).mono ?_⟩
    rintro e w' ⟨rfl, hb⟩
    exact ⟨⟨_, rfl, VR.of_flat _ _ rfl⟩, hb⟩
  · cases hu

def pwT : Spec := orS formS (orS livesS (orS (textSB 10 wordV) (orS (textSB 11 wordV) (orS (textSB 12 nameV) (orS (textSB 13 nameV) (orS (textSB 14 opV) (textSB 15 opV)))))))
theorem pwT_good : SpecGood pwT :=
  orS_good formS_good (orS_good livesS_good (orS_good (textSB_good (fun _ => rfl) word_calls) (orS_good (textSB_good (fun _ => rfl) rword_calls) (orS_good (textSB_good (fun _ => rfl) name_calls)
    (orS_good (textSB_good (fun _ => rfl) rname_calls) (orS_good (textSB_good (fun _ => rfl) op_callsB) (textSB_good (fun _ => rfl) rop_callsB)))))))

noncomputable def pwA (w f : ByteArray) (wb nb : Bool) (o : Int) : FuncId → Tmp → Option Value :=
  ans [(3, 11, .tuple #[.string w, .string f]), (3, 16, .tuple #[.string w, .string f]), (3, 20, .bool wb), (3, 22, .bool wb), (3, 26, .bool nb), (3, 28, .bool nb), (3, 33, .int .i64 o), (3, 35, .int .i64 o), (3, 36, .bool true), (3, 41, .bool true), (3, 46, .bool true), (3, 49, .bool true)]
def pwO (s w f : ByteArray) (op : Int) (wb nb : Bool) (o : Int) : List Prop :=
  [pwT 8 [.int .i64 op] = some (.tuple #[.string w, .string f]), pwT 9 [.int .i64 op] = some (.tuple #[.string w, .string f]), pwT 10 [.string s] = some (.bool wb), pwT 11 [.string s] = some (.bool wb), pwT 12 [.string s] = some (.bool nb), pwT 13 [.string s] = some (.bool nb),
   pwT 14 [.string s] = some (.int .i64 o), pwT 15 [.string s] = some (.int .i64 o), binF .eql (.int .i64 o) (.int .i64 o) = some (.bool true), binF .eql (.string w) (.string w) = some (.bool true), binF .eql (.string f) (.string f) = some (.bool true), pwT 16 [] = some (.bool true)]
theorem pw_tt (s w f : ByteArray) (op o : Int) : runS pwT (pwA w f true true o) 3 #[.string s, .int .i64 op] = some (.bool true, pwO s w f op true true o) := by kernel_rfl
theorem pw_tf (s w f : ByteArray) (op o : Int) : runS pwT (pwA w f true false o) 3 #[.string s, .int .i64 op] = some (.bool true, pwO s w f op true false o) := by kernel_rfl
theorem pw_ft (s w f : ByteArray) (op o : Int) : runS pwT (pwA w f false true o) 3 #[.string s, .int .i64 op] = some (.bool true, pwO s w f op false true o) := by kernel_rfl
theorem pw_ff (s w f : ByteArray) (op o : Int) : runS pwT (pwA w f false false o) 3 #[.string s, .int .i64 op] = some (.bool true, pwO s w f op false false o) := by kernel_rfl

theorem pw_obs {s : ByteArray} (op : Int) (hb : s.size ≤ big) {wb nb : Bool} (hw : wordB s.data.toList = wb) (hn : nameB s.data.toList = nb) :
    AllP (pwO s ⟨⟨(rowAt op).1⟩⟩ ⟨⟨(rowAt op).2⟩⟩ op wb nb (Int.ofNat (place words s.data.toList))) := by
  have n {f g : FuncId} {v : List UInt8 → Value} {l : List Value} (h : f ≠ g) : textSB g v f l = none := textSB_ne h
  have n0 {f : FuncId} {x : ByteArray} : formS f [.string x] = none := by unfold formS; split <;> simp_all
  have n1 {f : FuncId} {x : ByteArray} : livesS f [.string x] = none := by unfold livesS; split <;> simp_all
  unfold pwO pwT
  refine allP_cons rfl (allP_cons rfl (allP_cons ?_ (allP_cons ?_ (allP_cons ?_ (allP_cons ?_ (allP_cons ?_ (allP_cons ?_ (allP_cons ?_ (allP_cons ?_ (allP_cons ?_ (allP_cons rfl allP_nil)))))))))))
  · refine orS_right n0 (orS_right n1 (orS_left ?_))
    rw [textSB_at hb, ← hw]; rfl
  · refine orS_right n0 (orS_right n1 (orS_right (n (by decide)) (orS_left ?_)))
    rw [textSB_at hb, ← hw]; rfl
  · refine orS_right n0 (orS_right n1 (orS_right (n (by decide)) (orS_right (n (by decide)) (orS_left ?_))))
    rw [textSB_at hb, ← hn]; rfl
  · refine orS_right n0 (orS_right n1 (orS_right (n (by decide)) (orS_right (n (by decide)) (orS_right (n (by decide)) (orS_left ?_)))))
    rw [textSB_at hb, ← hn]; rfl
  · refine orS_right n0 (orS_right n1 (orS_right (n (by decide)) (orS_right (n (by decide)) (orS_right (n (by decide)) (orS_right (n (by decide)) (orS_left ?_))))))
    rw [textSB_at hb]; rfl
  · refine orS_right n0 (orS_right n1 (orS_right (n (by decide)) (orS_right (n (by decide)) (orS_right (n (by decide)) (orS_right (n (by decide)) (orS_right (n (by decide)) ?_))))))
    rw [textSB_at hb]; rfl
  · rw [binF_eql]; simp
  · rw [binF_seql]; simp
  · rw [binF_seql]; simp

/-- THE LAW, of every text of no great length and every number. -/
theorem parseWords_calls (s : ByteArray) (op : Int) (hb : s.size ≤ big) {w : World} (h : Holds w 6 2 laidL) : Calls Tryd.prog 3 #[.string s, .int .i64 op] w fun e w' => e = .returned (.bool true) ∧ Below w.heap.size w w' := by
  cases hw : wordB s.data.toList <;> cases hn : nameB s.data.toList
  · exact calls_run pwT_good (pw_ff s _ _ op _) (pw_obs op hb hw hn) rfl rfl h
  · exact calls_run pwT_good (pw_ft s _ _ op _) (pw_obs op hb hw hn) rfl rfl h
  · exact calls_run pwT_good (pw_tf s _ _ op _) (pw_obs op hb hw hn) rfl rfl h
  · exact calls_run pwT_good (pw_tt s _ _ op _) (pw_obs op hb hw hn) rfl rfl h

end Go.Proofs.YtedibiiolneooaaDoor
