/- StreamHear: both packages' functions, and the law. -/
import Derived.Test.YtkpffcjgjiljeaaXConcat
namespace Go.Proofs.Ytkpffcjgjiljeaa
open Go Go.Vi
set_option linter.unusedVariables false
set_option linter.unusedSimpArgs false
set_option maxRecDepth 100000
def boxOf (l : List Int) : XBox := ⟨(nextMbap l).num, (nextMbap l).unit, (nextMbap l).pdu⟩
def hearGo : Nat → List Int → List XBox × List Int × Int
  | 0, l => ([], l, (nextMbap l).code)
  | f + 1, l => if (nextMbap l).code = 1 then (boxOf l :: (hearGo f (l.drop (nextMbap l).n.toNat)).1, (hearGo f (l.drop (nextMbap l).n.toNat)).2) else ([], l, (nextMbap l).code)
theorem nm_code (l : List Int) (h : (nextMbap l).code = 1) : 8 ≤ (nextMbap l).n ∧ (nextMbap l).n ≤ l.length ∧ ((nextMbap l).pdu.length : Int) = (nextMbap l).n - 7 := by
  cases hb : nmBad l with
  | true => rw [nm_bad hb] at h; cases h
  | false =>
    cases hw : nmWait l with
    | true => rw [nm_wait hb hw] at h; cases h
    | false =>
      obtain ⟨f1, f2, f3, f4⟩ := nm_fact hb hw
      rw [nm_good hb hw]
      simp only [f3]
      exact ⟨by omega, by omega, cutL_len _ _ _ (by omega)⟩
theorem hear_step {f : Nat} {l : List Int} (hf : l.length < f) (h : (nextMbap l).code = 1) : hearGo f l = (boxOf l :: (hearGo (f - 1) (l.drop (nextMbap l).n.toNat)).1, (hearGo (f - 1) (l.drop (nextMbap l).n.toNat)).2) := by
  cases f with
  | zero => omega
  | succ f => simp [hearGo, h]
theorem hear_stop {f : Nat} {l : List Int} (h : (nextMbap l).code ≠ 1) : hearGo f l = ([], l, (nextMbap l).code) := by
  cases f <;> simp [hearGo, h]
def streamOk (s : XStream) : Bool := decide ((s.Buf.length : Int) ≤ 600) && (!s.Shut || decide ((s.Buf.length : Int) = 0))
def streamHear (s : XStream) (b : List Int) : XStream × List XBox :=
  if !streamOk s || s.Shut then (s, []) else
  (if (hearGo ((s.Buf ++ b).length + 1) (s.Buf ++ b)).2.2 = 2 ∨ ((hearGo ((s.Buf ++ b).length + 1) (s.Buf ++ b)).2.1.length : Int) > 600 then ⟨[], true⟩ else ⟨(hearGo ((s.Buf ++ b).length + 1) (s.Buf ++ b)).2.1, false⟩, (hearGo ((s.Buf ++ b).length + 1) (s.Buf ++ b)).1)
theorem s_StreamOk (s : XStream) : PureC Try.prog 55 [s.v] [boolv (streamOk s)] := by
  refine pureC_of (Γ := lookT tbl) (il := ilist) tg dr Try.func55 rfl (by kernel_rfl) rfl (Nat.le_of_ble_eq_true rfl) ?_
  (repeat' ((conv => whnf); first | refine br_i (fun _ => ?_) (fun _ => ?_) | (refine cur_leaf rfl rfl rfl ?_ ?_; · first | assumption | omega | exact hw ‹_›) | refine leaf_i rfl rfl ?_ | refine And.intro rfl ?_ | (refine And.intro ?_ ?_; · decide)))
  all_goals (refine bool_leaf ?_; first | (simp_all [streamOk]; done) | (simp_all [streamOk]; omega))
theorem m_StreamOk (s : XStream) : PureC Try.prog 28 [s.v] [boolv (streamOk s)] := by
  refine pureC_of (Γ := lookT tbl) (il := ilist) tg dr Try.func28 rfl (by kernel_rfl) rfl (Nat.le_of_ble_eq_true rfl) ?_
  (repeat' ((conv => whnf); first | refine br_i (fun _ => ?_) (fun _ => ?_) | (refine cur_leaf rfl rfl rfl ?_ ?_; · first | assumption | omega | exact hw ‹_›) | refine leaf_i rfl rfl ?_ | refine And.intro rfl ?_ | (refine And.intro ?_ ?_; · decide)))
  all_goals (refine bool_leaf ?_; first | (simp_all [streamOk]; done) | (simp_all [streamOk]; omega))
end Go.Proofs.Ytkpffcjgjiljeaa
