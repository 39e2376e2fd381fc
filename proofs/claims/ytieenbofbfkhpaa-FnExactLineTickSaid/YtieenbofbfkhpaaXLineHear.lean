/- LineHear: both packages' functions, and the law. -/
import Derived.Test.YtieenbofbfkhpaaXLine
namespace Go.Proofs.Ytieenbofbfkhpaa
open Go Go.Vi
set_option linter.unusedVariables false
set_option linter.unusedSimpArgs false
set_option maxRecDepth 100000
def freeL (l : XLine) : XLine := { l with Busy := false, Call := XCall.zero, Number := 0, Due := 0, Left := 0 }
def hearOk (l : XLine) (n u : Int) (a : XResp) : Bool := lineOk l && l.Busy && decide (l.Number = n) && decide (l.Call.Unit = u) && suits l.Call.Req a
def lineHear (l : XLine) (n u : Int) (a : XResp) : XLine × List XDone := if hearOk l n u a then (freeL l, [⟨l.Call.Id, l.Call.Part, a⟩]) else (l, [])
theorem hear_no {l : XLine} {n u : Int} {a : XResp} (h : hearOk l n u a = false) : lineHear l n u a = (l, []) := by simp [lineHear, h]
theorem hear_yes {l : XLine} {n u : Int} {a : XResp} (h : hearOk l n u a = true) : lineHear l n u a = (freeL l, [⟨l.Call.Id, l.Call.Part, a⟩]) := by simp [lineHear, h]
theorem p_free : PassC Try.prog 52 17 [.arg 0, .val (.pv (.bool false)), .val (.pv (.int .i64 0)), .val (.pv (.int .i64 0)), .val (.pv (.int .i64 0)), .val (.pv (.int .i64 0)), .val (.pv (.int .i64 0)), .val (.pv (.int .i64 0)), .val (.nil 1), .val (.nil 1), .val (.pv (.int .i64 0)), .val (.pv (.int .i64 0)), .val (.pv (.int .i64 0)), .val (.pv (.int .i64 0)), .arg 14, .arg 15, .arg 16] := by
  refine passC_of (Γ := lookT tbl) (il := ilist) tg dr Try.func52 rfl (by kernel_rfl) rfl (Nat.le_of_ble_eq_true rfl) (Nat.le_of_ble_eq_true rfl) rfl ?_
  conv => whnf
  exact ⟨rfl, rfl⟩
theorem s_LineHear (l : XLine) (n u : Int) (a : XResp) (h : l.tot ≤ 1048576) (h2 : a.tot ≤ 1048576) : PureC Try.prog 18 [l.v, i64v n, i64v u, a.v] [(lineHear l n u a).1.v, XDone.sV (lineHear l n u a).2] := by
  refine pureC_of (Γ := lookT tbl) (il := ilist) tg dr Try.func18 rfl (by kernel_rfl) rfl (Nat.le_of_ble_eq_true rfl) ?_
  (repeat' ((conv => whnf); first | refine br_i (fun _ => ?_) (fun _ => ?_) | (refine cur_leaf rfl rfl rfl ?_ ?_; · first | assumption | omega | exact hw ‹_›) | refine leaf_i rfl rfl ?_ | refine And.intro rfl ?_ | refine call_i (s_l12Copy l h) ?_ | (refine Or.inl ?_; (conv => whnf); refine call_i (s_l12Copy l h) ?_) | refine call_i (s_LineOk l) ?_ | (refine Or.inl ?_; (conv => whnf); refine call_i (s_LineOk l) ?_) | refine call_i (s_Suits l.Call.Req a) ?_ | (refine Or.inl ?_; (conv => whnf); refine call_i (s_Suits l.Call.Req a) ?_) | refine call_i (s_l12CopyResp a h2) ?_ | (refine Or.inl ?_; (conv => whnf); refine call_i (s_l12CopyResp a h2) ?_) | (refine Or.inr ⟨_, _, ⟨p_free, rfl⟩, ?_⟩) | (refine And.intro ?_ ?_; · decide)))
  all_goals first | (rw [hear_no (by (first | (simp_all [hearOk]; done) | (simp_all [hearOk]; omega)))]; rfl) | (rw [hear_yes (by (first | (simp_all [hearOk]; done) | (simp_all [hearOk]; omega)))]; rfl)
theorem m_LineHear (l : XLine) (n u : Int) (a : XResp) (h : l.tot ≤ 1048576) (h2 : a.tot ≤ 1048576) : PureC Try.prog 20 [l.v, i64v n, i64v u, a.v] [(lineHear l n u a).1.v, XDone.sV (lineHear l n u a).2] := by
  refine pureC_of (Γ := lookT tbl) (il := ilist) tg dr Try.func20 rfl (by kernel_rfl) rfl (Nat.le_of_ble_eq_true rfl) ?_
  (repeat' ((conv => whnf); first | refine br_i (fun _ => ?_) (fun _ => ?_) | (refine cur_leaf rfl rfl rfl ?_ ?_; · first | assumption | omega | exact hw ‹_›) | refine leaf_i rfl rfl ?_ | refine And.intro rfl ?_ | refine call_i (m_cloneLine l h) ?_ | (refine Or.inl ?_; (conv => whnf); refine call_i (m_cloneLine l h) ?_) | refine call_i (m_LineOk l) ?_ | (refine Or.inl ?_; (conv => whnf); refine call_i (m_LineOk l) ?_) | refine call_i (m_Suits l.Call.Req a) ?_ | (refine Or.inl ?_; (conv => whnf); refine call_i (m_Suits l.Call.Req a) ?_) | refine call_i (m_cloneResp a h2) ?_ | (refine Or.inl ?_; (conv => whnf); refine call_i (m_cloneResp a h2) ?_) | (refine inl_of (Γ := lookT tbl) (il := ilist) tg dr Try.func57 rfl (by kernel_rfl) rfl (ts := [104]) (Nat.le_of_ble_eq_true rfl) ?_) | (refine And.intro ?_ ?_; · decide)))
  all_goals first | (rw [hear_no (by (first | (simp_all [hearOk]; done) | (simp_all [hearOk]; omega)))]; rfl) | (rw [hear_yes (by (first | (simp_all [hearOk]; done) | (simp_all [hearOk]; omega)))]; rfl)
theorem hear_sc (l : XLine) (n u : Int) (a : XResp) : (lineHear l n u a).1.sc + sumF XDone.mc (lineHear l n u a).2 ≤ 8 * l.tot + 6 + a.tot := by
  have h1 := line_sc l
  unfold lineHear
  split
  · simp only [freeL, XLine.sc, sumF, XDone.mc, XCall.zero, XReq.zero, XResp.tot] at *
    simp
    omega
  · simp [sumF]; omega
theorem law_FnExactLineHear (x : XLine) (_ : x.Ok) (n : Int) (_ : (Lit.int .i64 n).wf = true) (u : Int) (_ : (Lit.int .i64 u).wf = true) (a : XResp) (_ : a.Ok) : PureC Try.prog 4 [x.v, i64v n, i64v u, a.v] [boolv true] := by
  refine pureC_deep (Γ := lookT tbl) (il := ilist) tg drD Try.func4 rfl (by kernel_rfl) rfl (Nat.le_of_ble_eq_true rfl) rfl ?_
  conv => whnf
  refine Or.inl ?_
  conv => whnf
  refine call_i (szLine x 1048576 (by decide) (by decide)) ?_
  conv => whnf
  refine br_i (fun h => ?_) (fun h => ?_)
  · conv => whnf
  have ht := sub_nn (dge h)
  clear h
  conv => whnf
  refine Or.inl ?_
  conv => whnf
  refine call_i (szResp a _ (by omega) (by omega)) ?_
  conv => whnf
  refine br_i (fun h => ?_) (fun h => ?_)
  · conv => whnf
  have hc := sub_nn (dge h)
  clear h
  have h1 : x.tot ≤ 1048576 := by omega
  have h2 : a.tot ≤ 1048576 := by omega
  have hs := s_LineHear x n u a h1 h2
  have hm := m_LineHear x n u a h1 h2
  have e1 : PureC Try.prog 12 [x.v, x.v] [boolv true] := by simpa using eqLine x x
  have e2 : PureC Try.prog 22 [a.v, a.v] [boolv true] := by simpa using eqResp a a
  have hsz := hear_sc x n u a
  have hx := line_sc x
  have has : a.sc = a.tot := by simp [XResp.sc, XResp.tot]
  generalize lineHear x n u a = R at *
  obtain ⟨g, l⟩ := R
  dsimp only at hs hm hsz
  have e3 : PureC Try.prog 12 [g.v, g.v] [boolv true] := by simpa using eqLine g g
  have e4 : PureC Try.prog 21 [XDone.sV l, XDone.sV l] [boolv true] := by simpa using eqDoneS l l
  obtain ⟨a1, a2, a3, A1⟩ := mkLine x 1 (by decide) (by omega)
  obtain ⟨b1, b2, B1⟩ := mkResp a (1 + x.sc) (by omega) (by omega)
  obtain ⟨c1, c2, c3, C1, C2⟩ := mkLine g 1 (by decide) (by omega)
  obtain ⟨d1, D1, D2⟩ := mkDoneS l (1 + g.sc) (by omega) (by omega)
  (repeat' ((conv => whnf); first | exact rfl | (refine br_i ?_ ?_; (· (intro h; exfalso; first | (simp at h; done) | (have := dlt h; omega))); intro _) | (refine br_i ?_ ?_; rotate_left; (· (intro h; exfalso; simp at h; done)); intro _) | refine br_i (fun _ => ?_) (fun _ => ?_) | refine And.intro rfl ?_ | (refine Or.inl ?_; (conv => whnf); refine call_i (hs) ?_) | (refine Or.inl ?_; (conv => whnf); refine call_i (hm) ?_) | (refine Or.inl ?_; (conv => whnf); refine call_i (toLine x h1) ?_) | (refine Or.inl ?_; (conv => whnf); refine call_i (toResp a h2) ?_) | (refine Or.inl ?_; (conv => whnf); refine call_i (e1) ?_) | (refine Or.inl ?_; (conv => whnf); refine call_i (e2) ?_) | (refine Or.inl ?_; (conv => whnf); refine call_i (e3) ?_) | (refine Or.inl ?_; (conv => whnf); refine call_i (e4) ?_) | refine mark_i A1.1 rfl ?_ | refine mark_i B1 rfl ?_ | refine mark_i C1 rfl ?_ | refine mark_i D1 rfl ?_ | (refine Or.inl ?_; (conv => whnf); refine call_i (C2) ?_) | (refine Or.inl ?_; (conv => whnf); refine call_i (D2) ?_) | (refine And.intro ?_ ?_; · decide)); all_goals (try (conv => whnf)))

end Go.Proofs.Ytieenbofbfkhpaa
