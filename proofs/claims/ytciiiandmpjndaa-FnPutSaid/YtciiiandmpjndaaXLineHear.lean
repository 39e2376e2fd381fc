/- LineHear: both packages' functions, and the law. -/
import Derived.Test.YtciiiandmpjndaaXLine
namespace Go.Proofs.Ytciiiandmpjndaa
open Go Go.Vi
set_option linter.unusedVariables false
set_option linter.unusedSimpArgs false
set_option maxRecDepth 100000
def freeL (l : XLine) : XLine := { l with Busy := false, Call := XCall.zero, Number := 0, Due := 0, Left := 0 }
def hearOk (l : XLine) (n u : Int) (a : XResp) : Bool := lineOk l && l.Busy && decide (l.Number = n) && decide (l.Call.Unit = u) && suits l.Call.Req a
def lineHear (l : XLine) (n u : Int) (a : XResp) : XLine × List XDone := if hearOk l n u a then (freeL l, [⟨l.Call.Id, l.Call.Part, a⟩]) else (l, [])
theorem hear_no {l : XLine} {n u : Int} {a : XResp} (h : hearOk l n u a = false) : lineHear l n u a = (l, []) := by simp [lineHear, h]
theorem hear_yes {l : XLine} {n u : Int} {a : XResp} (h : hearOk l n u a = true) : lineHear l n u a = (freeL l, [⟨l.Call.Id, l.Call.Part, a⟩]) := by simp [lineHear, h]
theorem p_free : PassC Try.prog 81 17 [.arg 0, .val (.pv (.bool false)), .val (.pv (.int .i64 0)), .val (.pv (.int .i64 0)), .val (.pv (.int .i64 0)), .val (.pv (.int .i64 0)), .val (.pv (.int .i64 0)), .val (.pv (.int .i64 0)), .val (.nil 1), .val (.nil 1), .val (.pv (.int .i64 0)), .val (.pv (.int .i64 0)), .val (.pv (.int .i64 0)), .val (.pv (.int .i64 0)), .arg 14, .arg 15, .arg 16] := by
  refine passC_of (Γ := lookT tbl) (il := ilist) tg dr Try.func81 rfl (by kernel_rfl) rfl (Nat.le_of_ble_eq_true rfl) (Nat.le_of_ble_eq_true rfl) rfl ?_
  conv => whnf
  exact ⟨rfl, rfl⟩
theorem s_LineHear (l : XLine) (n u : Int) (a : XResp) (h : l.tot ≤ 1048576) (h2 : a.tot ≤ 1048576) : PureC Try.prog 60 [l.v, i64v n, i64v u, a.v] [(lineHear l n u a).1.v, XDone.sV (lineHear l n u a).2] := by
  refine pureC_of (Γ := lookT tbl) (il := ilist) tg dr Try.func60 rfl (by kernel_rfl) rfl (Nat.le_of_ble_eq_true rfl) ?_
  (repeat' ((conv => whnf); first | refine br_i (fun _ => ?_) (fun _ => ?_) | (refine cur_leaf rfl rfl rfl ?_ ?_; · first | assumption | omega | exact hw ‹_›) | refine leaf_i rfl rfl ?_ | refine And.intro rfl ?_ | refine call_i (s_l12Copy l h) ?_ | (refine Or.inl ?_; (conv => whnf); refine call_i (s_l12Copy l h) ?_) | refine call_i (s_LineOk l) ?_ | (refine Or.inl ?_; (conv => whnf); refine call_i (s_LineOk l) ?_) | refine call_i (s_Suits l.Call.Req a) ?_ | (refine Or.inl ?_; (conv => whnf); refine call_i (s_Suits l.Call.Req a) ?_) | refine call_i (s_l12CopyResp a h2) ?_ | (refine Or.inl ?_; (conv => whnf); refine call_i (s_l12CopyResp a h2) ?_) | (refine Or.inr ⟨_, _, ⟨p_free, rfl⟩, ?_⟩) | (refine And.intro ?_ ?_; · decide)))
  all_goals first | (rw [hear_no (by (first | (simp_all [hearOk]; done) | (simp_all [hearOk]; omega)))]; rfl) | (rw [hear_yes (by (first | (simp_all [hearOk]; done) | (simp_all [hearOk]; omega)))]; rfl)
theorem m_LineHear (l : XLine) (n u : Int) (a : XResp) (h : l.tot ≤ 1048576) (h2 : a.tot ≤ 1048576) : PureC Try.prog 14 [l.v, i64v n, i64v u, a.v] [(lineHear l n u a).1.v, XDone.sV (lineHear l n u a).2] := by
  refine pureC_of (Γ := lookT tbl) (il := ilist) tg dr Try.func14 rfl (by kernel_rfl) rfl (Nat.le_of_ble_eq_true rfl) ?_
  (repeat' ((conv => whnf); first | refine br_i (fun _ => ?_) (fun _ => ?_) | (refine cur_leaf rfl rfl rfl ?_ ?_; · first | assumption | omega | exact hw ‹_›) | refine leaf_i rfl rfl ?_ | refine And.intro rfl ?_ | refine call_i (m_cloneLine l h) ?_ | (refine Or.inl ?_; (conv => whnf); refine call_i (m_cloneLine l h) ?_) | refine call_i (m_LineOk l) ?_ | (refine Or.inl ?_; (conv => whnf); refine call_i (m_LineOk l) ?_) | refine call_i (m_Suits l.Call.Req a) ?_ | (refine Or.inl ?_; (conv => whnf); refine call_i (m_Suits l.Call.Req a) ?_) | refine call_i (m_cloneResp a h2) ?_ | (refine Or.inl ?_; (conv => whnf); refine call_i (m_cloneResp a h2) ?_) | (refine inl_of (Γ := lookT tbl) (il := ilist) tg dr Try.func42 rfl (by kernel_rfl) rfl (ts := [87]) (Nat.le_of_ble_eq_true rfl) ?_) | (refine And.intro ?_ ?_; · decide)))
  all_goals first | (rw [hear_no (by (first | (simp_all [hearOk]; done) | (simp_all [hearOk]; omega)))]; rfl) | (rw [hear_yes (by (first | (simp_all [hearOk]; done) | (simp_all [hearOk]; omega)))]; rfl)
end Go.Proofs.Ytciiiandmpjndaa
