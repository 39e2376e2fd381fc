/- LineTick: both packages' functions, and the law. -/
import Derived.Test.YtciiiandmpjndaaXTick
namespace Go.Proofs.Ytciiiandmpjndaa
open Go Go.Vi
set_option linter.unusedVariables false
set_option linter.unusedSimpArgs false
set_option maxRecDepth 100000
def faultOf (q : XReq) (f : Int) : XResp := if specReq q && inB f 1 255 then { XResp.zero with Kind := q.Kind, Fault := f } else XResp.zero
theorem s_FaultOf (q : XReq) (f : Int) : PureC Try.prog 13 [q.v, i64v f] [(faultOf q f).v] := by
  refine pureC_of (Γ := lookT tbl) (il := ilist) tg dr Try.func13 rfl (by kernel_rfl) rfl (Nat.le_of_ble_eq_true rfl) ?_
  (repeat' ((conv => whnf); first | refine br_i (fun _ => ?_) (fun _ => ?_) | (refine cur_leaf rfl rfl rfl ?_ ?_; · first | assumption | omega | exact hw ‹_›) | refine leaf_i rfl rfl ?_ | refine And.intro rfl ?_ | refine call_i (s_ReqOk q) ?_ | (refine Or.inl ?_; (conv => whnf); refine call_i (s_ReqOk q) ?_) | refine call_i (s_in _ _ _) ?_ | (refine Or.inl ?_; (conv => whnf); refine call_i (s_in _ _ _) ?_) | (refine And.intro ?_ ?_; · decide)))
  all_goals first | (rw [show faultOf q f = XResp.zero by simp_all [faultOf]]; rfl) | (rw [show faultOf q f = { XResp.zero with Kind := q.Kind, Fault := f } by simp_all [faultOf]]; rfl)
theorem m_FaultOf (q : XReq) (f : Int) : PureC Try.prog 56 [q.v, i64v f] [(faultOf q f).v] := by
  refine pureC_of (Γ := lookT tbl) (il := ilist) tg dr Try.func56 rfl (by kernel_rfl) rfl (Nat.le_of_ble_eq_true rfl) ?_
  have hR := m_ReqOk q
  rw [implReq_eq] at hR
  (repeat' ((conv => whnf); first | refine br_i (fun _ => ?_) (fun _ => ?_) | (refine cur_leaf rfl rfl rfl ?_ ?_; · first | assumption | omega | exact hw ‹_›) | refine leaf_i rfl rfl ?_ | refine And.intro rfl ?_ | refine call_i (hR) ?_ | (refine Or.inl ?_; (conv => whnf); refine call_i (hR) ?_) | refine call_i (m_in _ _ _) ?_ | (refine Or.inl ?_; (conv => whnf); refine call_i (m_in _ _ _) ?_) | (refine And.intro ?_ ?_; · decide)))
  all_goals first | (rw [show faultOf q f = XResp.zero by simp_all [faultOf]]; rfl) | (rw [show faultOf q f = { XResp.zero with Kind := q.Kind, Fault := f } by simp_all [faultOf]]; rfl)
def orderOf (l : XLine) : XOrder := ⟨l.Number, l.Call.Unit, l.Call.Req⟩
theorem s_Order (l : XLine) (h : l.Call.tot ≤ 1048576) : PureC Try.prog 80 [l.v] [(orderOf l).v] := by
  refine pureC_of (Γ := lookT tbl) (il := ilist) tg dr Try.func80 rfl (by kernel_rfl) rfl (Nat.le_of_ble_eq_true rfl) ?_
  (repeat' ((conv => whnf); first | refine br_i (fun _ => ?_) (fun _ => ?_) | (refine cur_leaf rfl rfl rfl ?_ ?_; · first | assumption | omega | exact hw ‹_›) | refine leaf_i rfl rfl ?_ | refine And.intro rfl ?_ | refine call_i (s_l10CopyReq l.Call.Req h) ?_ | (refine Or.inl ?_; (conv => whnf); refine call_i (s_l10CopyReq l.Call.Req h) ?_) | (refine And.intro ?_ ?_; · decide)))
  all_goals rfl
def tick1 (l : XLine) (now : Int) : XLine × List XOrder × List XDone :=
  if l.Busy && tickDue now l.Due then
    if l.Left > 0 then ({ l with Left := wrap64 (l.Left - 1), Due := tickOn now l.Wait }, [⟨l.Number, l.Call.Unit, l.Call.Req⟩], [])
    else (freeL l, [], [⟨l.Call.Id, l.Call.Part, faultOf l.Call.Req 11⟩])
  else (l, [], [])
def askL (l : XLine) (c : XCall) (q : List XCall) (now : Int) : XLine := { l with Queue := q, Busy := true, Call := c, Number := l.Next, Due := tickOn now l.Wait, Left := l.Tries, Next := (wrap64 (l.Next + 1)).tmod 65536 }
def tick2 (l : XLine) (now : Int) (os : List XOrder) (ds : List XDone) : XLine × List XOrder × List XDone :=
  match l.Queue with
  | [] => (l, os, ds)
  | c :: q => if l.Busy then (l, os, ds) else (askL l c q now, os ++ [orderOf (askL l c q now)], ds)
def lineTickF (l : XLine) (now : Int) : XLine × List XOrder × List XDone := tick2 (tick1 l now).1 now (tick1 l now).2.1 (tick1 l now).2.2
def lineTick (l : XLine) (now : Int) : XLine × List XOrder × List XDone := if lineOk l && tickB now then lineTickF l now else (l, [], [])
theorem one_app (x : List PV) (b : Nat) (hb : b ≤ 1000) : (([] : List (List PV)).length + [x].length) * b ≤ 140737488355328 ∧ ([x] : List (List PV)) = [] ++ [x] := by
  refine ⟨?_, rfl⟩
  simp
  omega
theorem tk_left {l : XLine} {now : Int} (hB : l.Busy = true) (hD : tickDue now l.Due = true) (hL : l.Left > 0) : lineTickF l now = (⟨l.Queue, true, l.Call, l.Number, tickOn now l.Wait, wrap64 (l.Left - 1), l.Next, l.Wait, l.Tries⟩, [⟨l.Number, l.Call.Unit, l.Call.Req⟩], []) := by
  have e : tick1 l now = (⟨l.Queue, true, l.Call, l.Number, tickOn now l.Wait, wrap64 (l.Left - 1), l.Next, l.Wait, l.Tries⟩, [⟨l.Number, l.Call.Unit, l.Call.Req⟩], []) := by simp [tick1, hB, hD, hL]
  simp only [lineTickF, e]
  unfold tick2
  split <;> simp
theorem tk_wait {l : XLine} {now : Int} (hB : l.Busy = true) (hD : tickDue now l.Due = false) : lineTickF l now = (l, [], []) := by
  have e : tick1 l now = (l, [], []) := by simp [tick1, hB, hD]
  simp only [lineTickF, e]
  unfold tick2
  split <;> simp [hB]
def askedL (l : XLine) (c : XCall) (q : List XCall) (now : Int) : XLine := ⟨q, true, c, l.Next, tickOn now l.Wait, l.Tries, (wrap64 (l.Next + 1)).tmod 65536, l.Wait, l.Tries⟩
def freedL (l : XLine) : XLine := ⟨l.Queue, false, XCall.zero, 0, 0, 0, l.Next, l.Wait, l.Tries⟩
theorem tk_fask {l : XLine} {now : Int} {c : XCall} {q : List XCall} (hB : l.Busy = true) (hD : tickDue now l.Due = true) (hL : ¬ l.Left > 0) (hq : l.Queue = c :: q) : lineTickF l now = (askedL l c q now, [⟨l.Next, c.Unit, c.Req⟩], [⟨l.Call.Id, l.Call.Part, faultOf l.Call.Req 11⟩]) := by
  have e : tick1 l now = (freeL l, [], [⟨l.Call.Id, l.Call.Part, faultOf l.Call.Req 11⟩]) := by simp [tick1, hB, hD, hL]
  simp only [lineTickF, e]
  unfold tick2
  simp [freeL, hq, askL, orderOf, askedL]
theorem tk_fnone {l : XLine} {now : Int} (hB : l.Busy = true) (hD : tickDue now l.Due = true) (hL : ¬ l.Left > 0) (hq : l.Queue = []) : lineTickF l now = (freedL l, [], [⟨l.Call.Id, l.Call.Part, faultOf l.Call.Req 11⟩]) := by
  have e : tick1 l now = (freeL l, [], [⟨l.Call.Id, l.Call.Part, faultOf l.Call.Req 11⟩]) := by simp [tick1, hB, hD, hL]
  simp only [lineTickF, e]
  unfold tick2
  simp [freeL, hq, freedL]
theorem tk_ask {l : XLine} {now : Int} {c : XCall} {q : List XCall} (hB : l.Busy = false) (hq : l.Queue = c :: q) : lineTickF l now = (askedL l c q now, [⟨l.Next, c.Unit, c.Req⟩], []) := by
  have e : tick1 l now = (l, [], []) := by simp [tick1, hB]
  simp only [lineTickF, e]
  unfold tick2
  simp [hB, hq, askL, orderOf, askedL]
theorem tk_none {l : XLine} {now : Int} (hB : l.Busy = false) (hq : l.Queue = []) : lineTickF l now = (l, [], []) := by
  have e : tick1 l now = (l, [], []) := by simp [tick1, hB]
  simp only [lineTickF, e]
  unfold tick2
  simp [hq]
theorem q_cons {l : List XCall} (h : decide (((l.map XCall.ps).length : Int) > 0) = true) : ∃ c q, l = c :: q := by
  cases l with
  | nil => simp at h
  | cons c q => exact ⟨c, q, rfl⟩
theorem q_nil {l : List XCall} (h : decide (((l.map XCall.ps).length : Int) > 0) = false) : l = [] := by
  cases l with
  | nil => rfl
  | cons c q => simp at h
theorem q_len {l : List XCall} {c : XCall} {q : List XCall} (h : l = c :: q) : 0 < (l.map XCall.ps).length := by rw [h]; exact Nat.succ_pos _
theorem q_tot {l : XLine} {c : XCall} {q : List XCall} (hq : l.Queue = c :: q) (h : l.tot ≤ 1048576) : c.Req.tot ≤ 1048576 := by
  have h1 := line_tot l
  have h2 : sumF XCall.tot l.Queue = c.tot + sumF XCall.tot q := by rw [hq]; rfl
  have h3 : c.tot = c.Req.tot := rfl
  omega
set_option maxHeartbeats 1000000 in
theorem m_lineTick (l : XLine) (now : Int) (h : l.tot ≤ 1048576) : PureC Try.prog 37 [l.v, i64v now] [(lineTickF l now).1.v, XOrder.sV (lineTickF l now).2.1, XDone.sV (lineTickF l now).2.2] := by
  refine pureC_ofT (Γ := lookT tbl) (il := ilist) tg dr Try.func37 rfl (by kernel_rfl) rfl (Nat.le_of_ble_eq_true rfl) (Nat.le_of_ble_eq_true rfl) ?_
  have hc := m_cloneLine l h
  have hd := m_TickDue now l.Due
  have hf := m_FaultOf l.Call.Req 11
  have ho := m_cloneReq l.Call.Req (by have h1 := line_tot l; have : l.Call.tot = l.Call.Req.tot := rfl; omega)
  have hT := m_TickOn now l.Wait
  conv => whnf
  refine call_i hc ?_
  conv => whnf
  cases hB : l.Busy with
  | true =>
    conv => whnf
    refine call_i hd ?_
    cases hD : tickDue now l.Due with
    | true =>
      conv => whnf
      refine br_i (fun hL => ?_) (fun hL => ?_)
      · (repeat' ((conv => whnf); first | refine br_i (fun _ => ?_) (fun _ => ?_) | (refine cur_leaf rfl rfl rfl ?_ ?_; · first | assumption | omega | exact hw ‹_›) | refine leaf_i rfl rfl ?_ | refine And.intro rfl ?_ | refine call_i (hT) ?_ | (refine Or.inl ?_; (conv => whnf); refine call_i (hT) ?_) | (refine inl_of (Γ := lookT tbl) (il := ilist) tg dr Try.func55 rfl (by kernel_rfl) rfl (ts := [87]) (Nat.le_of_ble_eq_true rfl) ?_) | refine call_i (ho) ?_ | (refine Or.inl ?_; (conv => whnf); refine call_i (ho) ?_) | (refine ⟨_, one_app _ _ (Nat.le_of_ble_eq_true rfl), ?_⟩) | (refine And.intro ?_ ?_; · decide)))
        rw [tk_left hB hD (by simpa using hL)]
        rfl
      · (repeat' ((conv => whnf); first | refine br_i (fun _ => ?_) (fun _ => ?_) | (refine cur_leaf rfl rfl rfl ?_ ?_; · first | assumption | omega | exact hw ‹_›) | refine leaf_i rfl rfl ?_ | refine And.intro rfl ?_ | refine call_i (hf) ?_ | (refine Or.inl ?_; (conv => whnf); refine call_i (hf) ?_) | (refine inl_of (Γ := lookT tbl) (il := ilist) tg dr Try.func42 rfl (by kernel_rfl) rfl (ts := [87]) (Nat.le_of_ble_eq_true rfl) ?_) | (refine ⟨_, one_app _ _ (Nat.le_of_ble_eq_true rfl), ?_⟩) | (refine And.intro ?_ ?_; · decide)))
        · rename_i hb
          obtain ⟨c, q, hq⟩ := q_cons hb
          have hoc := m_cloneReq c.Req (q_tot hq h)
          conv => whnf
          refine ⟨0, ⟨⟨rfl, q_len hq⟩, rfl⟩, ?_⟩
          conv => whnf
          refine ⟨XCall.ps c, q.map XCall.ps, ⟨⟨⟨rfl, by rw [hq]; rfl⟩, rfl, rfl⟩, ⟨rfl, rfl⟩, rfl⟩, ?_⟩
          conv => whnf
          refine And.intro rfl ?_
          conv => whnf
          refine ⟨⟨rfl, rfl⟩, ?_⟩
          (repeat' ((conv => whnf); first | refine br_i (fun _ => ?_) (fun _ => ?_) | (refine cur_leaf rfl rfl rfl ?_ ?_; · first | assumption | omega | exact hw ‹_›) | refine leaf_i rfl rfl ?_ | refine And.intro rfl ?_ | refine call_i (hT) ?_ | (refine Or.inl ?_; (conv => whnf); refine call_i (hT) ?_) | (refine ⟨by decide, ?_⟩) | (refine inl_of (Γ := lookT tbl) (il := ilist) tg dr Try.func55 rfl (by kernel_rfl) rfl (ts := [87]) (Nat.le_of_ble_eq_true rfl) ?_) | refine call_i (hoc) ?_ | (refine Or.inl ?_; (conv => whnf); refine call_i (hoc) ?_) | (refine ⟨_, one_app _ _ (Nat.le_of_ble_eq_true rfl), ?_⟩) | (refine And.intro ?_ ?_; · decide)))
          rw [tk_fask hB hD (by simpa using hL) hq]
          rfl
        · rename_i hb
          rw [tk_fnone hB hD (by simpa using hL) (q_nil hb)]
          rfl
    | false =>
      (repeat' ((conv => whnf); first | refine br_i (fun _ => ?_) (fun _ => ?_) | (refine cur_leaf rfl rfl rfl ?_ ?_; · first | assumption | omega | exact hw ‹_›) | refine leaf_i rfl rfl ?_ | refine And.intro rfl ?_ | (refine And.intro ?_ ?_; · decide)))
      rw [tk_wait hB hD, show l.v = VV.agg _ from rfl]
      simp only [XLine.ps, hB]
      rfl
  | false =>
    (repeat' ((conv => whnf); first | refine br_i (fun _ => ?_) (fun _ => ?_) | (refine cur_leaf rfl rfl rfl ?_ ?_; · first | assumption | omega | exact hw ‹_›) | refine leaf_i rfl rfl ?_ | refine And.intro rfl ?_ | (refine And.intro ?_ ?_; · decide)))
    · rename_i hb
      obtain ⟨c, q, hq⟩ := q_cons hb
      have hoc := m_cloneReq c.Req (q_tot hq h)
      conv => whnf
      refine ⟨0, ⟨⟨rfl, q_len hq⟩, rfl⟩, ?_⟩
      conv => whnf
      refine ⟨XCall.ps c, q.map XCall.ps, ⟨⟨⟨rfl, by rw [hq]; rfl⟩, rfl, rfl⟩, ⟨rfl, rfl⟩, rfl⟩, ?_⟩
      conv => whnf
      refine And.intro rfl ?_
      conv => whnf
      refine ⟨⟨rfl, rfl⟩, ?_⟩
      (repeat' ((conv => whnf); first | refine br_i (fun _ => ?_) (fun _ => ?_) | (refine cur_leaf rfl rfl rfl ?_ ?_; · first | assumption | omega | exact hw ‹_›) | refine leaf_i rfl rfl ?_ | refine And.intro rfl ?_ | refine call_i (hT) ?_ | (refine Or.inl ?_; (conv => whnf); refine call_i (hT) ?_) | (refine ⟨by decide, ?_⟩) | (refine inl_of (Γ := lookT tbl) (il := ilist) tg dr Try.func55 rfl (by kernel_rfl) rfl (ts := [87]) (Nat.le_of_ble_eq_true rfl) ?_) | refine call_i (hoc) ?_ | (refine Or.inl ?_; (conv => whnf); refine call_i (hoc) ?_) | (refine ⟨_, one_app _ _ (Nat.le_of_ble_eq_true rfl), ?_⟩) | (refine And.intro ?_ ?_; · decide)))
      rw [tk_ask hB hq]
      rfl
    · rename_i hb
      rw [tk_none hB (q_nil hb), show l.v = VV.agg _ from rfl]
      simp only [XLine.ps, hB]
      rfl
theorem m_LineTick (l : XLine) (now : Int) (h : l.tot ≤ 1048576) : PureC Try.prog 11 [l.v, i64v now] [(lineTick l now).1.v, XOrder.sV (lineTick l now).2.1, XDone.sV (lineTick l now).2.2] := by
  refine pureC_of (Γ := lookT tbl) (il := ilist) tg dr Try.func11 rfl (by kernel_rfl) rfl (Nat.le_of_ble_eq_true rfl) ?_
  (repeat' ((conv => whnf); first | refine br_i (fun _ => ?_) (fun _ => ?_) | (refine cur_leaf rfl rfl rfl ?_ ?_; · first | assumption | omega | exact hw ‹_›) | refine leaf_i rfl rfl ?_ | refine And.intro rfl ?_ | refine call_i (m_LineOk l) ?_ | (refine Or.inl ?_; (conv => whnf); refine call_i (m_LineOk l) ?_) | refine call_i (m_tick now) ?_ | (refine Or.inl ?_; (conv => whnf); refine call_i (m_tick now) ?_) | refine call_i (m_cloneLine l h) ?_ | (refine Or.inl ?_; (conv => whnf); refine call_i (m_cloneLine l h) ?_) | refine call_i (m_lineTick l now h) ?_ | (refine Or.inl ?_; (conv => whnf); refine call_i (m_lineTick l now h) ?_) | (refine And.intro ?_ ?_; · decide)))
  all_goals first | (rw [show lineTick l now = (l, [], []) by simp_all [lineTick, tickB]]; rfl) | (rw [show lineTick l now = lineTickF l now by simp_all [lineTick, tickB]]; rfl)
theorem tk_no {l : XLine} {now : Int} (h : (!lineOk l) = true ∨ (!inB now 0 4294967295) = true) : lineTick l now = (l, [], []) := by
  unfold lineTick
  rw [if_neg]
  rcases h with h | h
  · simp at h; simp [h]
  · simp at h; simp [tickB, h]
theorem tk_yes {l : XLine} {now : Int} (h : (!lineOk l) = false) (h2 : (!inB now 0 4294967295) = false) : lineTick l now = lineTickF l now := by
  unfold lineTick
  rw [if_pos]
  simp at h h2
  simp [tickB, h, h2]
theorem line_v {l : XLine} {b : Bool} (h : l.Busy = b) : l.v = .agg [XCall.sP l.Queue, .bool b, .int .i64 l.Call.Id, .int .i64 l.Call.Part, .int .i64 l.Call.Unit, .int .i64 l.Call.Req.Kind, .int .i64 l.Call.Req.At, .int .i64 l.Call.Req.N, intsP l.Call.Req.Words, boolsP l.Call.Req.Bits, .int .i64 l.Call.Req.WAt, .int .i64 l.Number, .int .i64 l.Due, .int .i64 l.Left, .int .i64 l.Next, .int .i64 l.Wait, .int .i64 l.Tries] := by
  subst h
  rfl
theorem q_app {l : XLine} {c : XCall} {q : List XCall} (hq : l.Queue = c :: q) (h : l.tot ≤ 1048576) : (([] : List (List PV)).length + (q.map XCall.ps).length) * 104 ≤ 140737488355328 ∧ q.map XCall.ps = [] ++ q.map XCall.ps := by
  have h1 := line_tot l
  have h2 : l.Queue.length = q.length + 1 := by rw [hq]; rfl
  refine ⟨?_, rfl⟩
  rw [List.length_map]
  simp
  omega
set_option maxHeartbeats 1000000 in
theorem s_LineTick (l : XLine) (now : Int) (h : l.tot ≤ 1048576) : PureC Try.prog 59 [l.v, i64v now] [(lineTick l now).1.v, XOrder.sV (lineTick l now).2.1, XDone.sV (lineTick l now).2.2] := by
  refine pureC_ofT (Γ := lookT tbl) (il := ilist) tg dr Try.func59 rfl (by kernel_rfl) rfl (Nat.le_of_ble_eq_true rfl) (Nat.le_of_ble_eq_true rfl) ?_
  have hc := s_l12Copy l h
  have hk := s_LineOk l
  have hn := s_tick now
  have hd := s_TickDue now l.Due
  have hf := s_FaultOf l.Call.Req 11
  have hT := s_TickOn now l.Wait
  have hCt : l.Call.tot ≤ 1048576 := by have h1 := line_tot l; omega
  (repeat' ((conv => whnf); first | refine br_i (fun _ => ?_) (fun _ => ?_) | (refine cur_leaf rfl rfl rfl ?_ ?_; · first | assumption | omega | exact hw ‹_›) | refine leaf_i rfl rfl ?_ | refine And.intro rfl ?_ | refine call_i (hc) ?_ | (refine Or.inl ?_; (conv => whnf); refine call_i (hc) ?_) | refine call_i (hk) ?_ | (refine Or.inl ?_; (conv => whnf); refine call_i (hk) ?_) | refine call_i (hn) ?_ | (refine Or.inl ?_; (conv => whnf); refine call_i (hn) ?_) | (refine And.intro ?_ ?_; · decide)))
  · rename_i h1
    rw [tk_no (.inl h1)]
    rfl
  · rename_i h1 h2
    rw [tk_no (.inr h2)]
    rfl
  · rename_i h1 h2 hB
    rw [tk_yes h1 h2]
    conv => whnf
    refine call_i hd ?_
    cases hD : tickDue now l.Due with
    | true =>
      conv => whnf
      rw [hB]
      refine br_i (fun hL => ?_) (fun hL => ?_)
      · have hO := s_Order ⟨l.Queue, true, l.Call, l.Number, tickOn now l.Wait, wrap64 (l.Left - 1), l.Next, l.Wait, l.Tries⟩ hCt
        (repeat' ((conv => whnf); first | refine br_i (fun _ => ?_) (fun _ => ?_) | (refine cur_leaf rfl rfl rfl ?_ ?_; · first | assumption | omega | exact hw ‹_›) | refine leaf_i rfl rfl ?_ | refine And.intro rfl ?_ | refine call_i (hT) ?_ | (refine Or.inl ?_; (conv => whnf); refine call_i (hT) ?_) | refine call_i (hO) ?_ | (refine Or.inl ?_; (conv => whnf); refine call_i (hO) ?_) | (refine ⟨_, one_app _ _ (Nat.le_of_ble_eq_true rfl), ?_⟩) | (refine And.intro ?_ ?_; · decide)))
        rw [tk_left hB hD (by simpa using hL)]
        rfl
      · (repeat' ((conv => whnf); first | refine br_i (fun _ => ?_) (fun _ => ?_) | (refine cur_leaf rfl rfl rfl ?_ ?_; · first | assumption | omega | exact hw ‹_›) | refine leaf_i rfl rfl ?_ | refine And.intro rfl ?_ | refine call_i (hf) ?_ | (refine Or.inl ?_; (conv => whnf); refine call_i (hf) ?_) | (refine ⟨_, one_app _ _ (Nat.le_of_ble_eq_true rfl), ?_⟩) | (refine Or.inr ⟨_, _, ⟨p_free, rfl⟩, ?_⟩) | (refine And.intro ?_ ?_; · decide)))
        · rename_i hb
          obtain ⟨c, q, hq⟩ := q_cons hb
          conv => whnf
          refine ⟨0, ⟨⟨rfl, q_len hq⟩, rfl⟩, ?_⟩
          conv => whnf
          refine ⟨XCall.ps c, q.map XCall.ps, ⟨⟨⟨rfl, by rw [hq]; rfl⟩, rfl, rfl⟩, ⟨rfl, rfl⟩, rfl⟩, ?_⟩
          conv => whnf
          refine ⟨⟨rfl, rfl⟩, ?_⟩
          conv => whnf
          refine And.intro rfl ?_
          conv => whnf
          refine ⟨_, q_app hq h, ?_⟩
          have hO := s_Order (askedL l c q now) (q_tot hq h)
          (repeat' ((conv => whnf); first | refine br_i (fun _ => ?_) (fun _ => ?_) | (refine cur_leaf rfl rfl rfl ?_ ?_; · first | assumption | omega | exact hw ‹_›) | refine leaf_i rfl rfl ?_ | refine And.intro rfl ?_ | refine call_i (hT) ?_ | (refine Or.inl ?_; (conv => whnf); refine call_i (hT) ?_) | refine call_i (hO) ?_ | (refine Or.inl ?_; (conv => whnf); refine call_i (hO) ?_) | (refine ⟨by decide, ?_⟩) | (refine ⟨_, one_app _ _ (Nat.le_of_ble_eq_true rfl), ?_⟩) | (refine And.intro ?_ ?_; · decide)))
          rw [tk_fask hB hD (by simpa using hL) hq]
          rfl
        · rename_i hb
          rw [tk_fnone hB hD (by simpa using hL) (q_nil hb)]
          rfl
    | false =>
      conv => whnf
      rw [hB]
      (repeat' ((conv => whnf); first | refine br_i (fun _ => ?_) (fun _ => ?_) | (refine cur_leaf rfl rfl rfl ?_ ?_; · first | assumption | omega | exact hw ‹_›) | refine leaf_i rfl rfl ?_ | refine And.intro rfl ?_ | (refine And.intro ?_ ?_; · decide)))
      rw [tk_wait hB hD, line_v hB]
      rfl
  · rename_i h1 h2 hB _ hb
    rw [tk_yes h1 h2]
    obtain ⟨c, q, hq⟩ := q_cons hb
    conv => whnf
    refine ⟨0, ⟨⟨rfl, q_len hq⟩, rfl⟩, ?_⟩
    conv => whnf
    refine ⟨XCall.ps c, q.map XCall.ps, ⟨⟨⟨rfl, by rw [hq]; rfl⟩, rfl, rfl⟩, ⟨rfl, rfl⟩, rfl⟩, ?_⟩
    conv => whnf
    refine ⟨⟨rfl, rfl⟩, ?_⟩
    conv => whnf
    refine And.intro rfl ?_
    conv => whnf
    refine ⟨_, q_app hq h, ?_⟩
    have hO := s_Order (askedL l c q now) (q_tot hq h)
    (repeat' ((conv => whnf); first | refine br_i (fun _ => ?_) (fun _ => ?_) | (refine cur_leaf rfl rfl rfl ?_ ?_; · first | assumption | omega | exact hw ‹_›) | refine leaf_i rfl rfl ?_ | refine And.intro rfl ?_ | refine call_i (hT) ?_ | (refine Or.inl ?_; (conv => whnf); refine call_i (hT) ?_) | refine call_i (hO) ?_ | (refine Or.inl ?_; (conv => whnf); refine call_i (hO) ?_) | (refine ⟨by decide, ?_⟩) | (refine ⟨_, one_app _ _ (Nat.le_of_ble_eq_true rfl), ?_⟩) | (refine And.intro ?_ ?_; · decide)))
    rw [tk_ask hB hq]
    rfl
  · rename_i h1 h2 hB _ hb
    rw [tk_yes h1 h2, tk_none hB (q_nil hb)]
    rfl
  · rename_i h1 h2 hB hB2
    rw [hB] at hB2
    cases hB2
end Go.Proofs.Ytciiiandmpjndaa
