/- Ports: what 'ok' means, what is said; PortSay: both packages' functions, and the law. -/
import Derived.Test.YtoccphgempbdeaaXPut
namespace Go.Proofs.Ytoccphgempbdeaa
open Go Go.Vi
set_option linter.unusedVariables false
set_option linter.unusedSimpArgs false
set_option maxRecDepth 100000
def noR (r : XRtu) : Bool := decide ((r.Buf.length : Int) = 0) && decide (r.Last = 0) && !r.Bad && decide (r.Half = 0) && decide (r.Whole = 0)
def noA (a : XAscii) : Bool := decide ((a.Buf.length : Int) = 0) && !a.Open && decide (a.Last = 0) && decide (a.Wait = 0)
def noS (s : XStream) : Bool := decide ((s.Buf.length : Int) = 0) && !s.Shut
theorem s_noR (r : XRtu) : PureC Try.prog 65 [r.v] [boolv (noR r)] := by
  refine pureC_of (Γ := lookT tbl) (il := ilist) tg dr Try.func65 rfl (by kernel_rfl) rfl (Nat.le_of_ble_eq_true rfl) ?_
  (repeat' ((conv => whnf); first | refine br_i (fun _ => ?_) (fun _ => ?_) | (refine cur_leaf rfl rfl rfl ?_ ?_; · first | assumption | omega | exact hw ‹_›) | refine leaf_i rfl rfl ?_ | refine And.intro rfl ?_ | (refine And.intro ?_ ?_; · decide)))
  all_goals (refine bool_leaf ?_; first | (simp_all [noR]; done) | (simp_all [noR]; omega))
theorem m_noR (r : XRtu) : PureC Try.prog 77 [r.v] [boolv (noR r)] := by
  refine pureC_of (Γ := lookT tbl) (il := ilist) tg dr Try.func77 rfl (by kernel_rfl) rfl (Nat.le_of_ble_eq_true rfl) ?_
  (repeat' ((conv => whnf); first | refine br_i (fun _ => ?_) (fun _ => ?_) | (refine cur_leaf rfl rfl rfl ?_ ?_; · first | assumption | omega | exact hw ‹_›) | refine leaf_i rfl rfl ?_ | refine And.intro rfl ?_ | (refine And.intro ?_ ?_; · decide)))
  all_goals (refine bool_leaf ?_; first | (simp_all [noR]; done) | (simp_all [noR]; omega))
theorem s_noA (a : XAscii) : PureC Try.prog 63 [a.v] [boolv (noA a)] := by
  refine pureC_of (Γ := lookT tbl) (il := ilist) tg dr Try.func63 rfl (by kernel_rfl) rfl (Nat.le_of_ble_eq_true rfl) ?_
  (repeat' ((conv => whnf); first | refine br_i (fun _ => ?_) (fun _ => ?_) | (refine cur_leaf rfl rfl rfl ?_ ?_; · first | assumption | omega | exact hw ‹_›) | refine leaf_i rfl rfl ?_ | refine And.intro rfl ?_ | (refine And.intro ?_ ?_; · decide)))
  all_goals (refine bool_leaf ?_; first | (simp_all [noA]; done) | (simp_all [noA]; omega))
theorem m_noA (a : XAscii) : PureC Try.prog 75 [a.v] [boolv (noA a)] := by
  refine pureC_of (Γ := lookT tbl) (il := ilist) tg dr Try.func75 rfl (by kernel_rfl) rfl (Nat.le_of_ble_eq_true rfl) ?_
  (repeat' ((conv => whnf); first | refine br_i (fun _ => ?_) (fun _ => ?_) | (refine cur_leaf rfl rfl rfl ?_ ?_; · first | assumption | omega | exact hw ‹_›) | refine leaf_i rfl rfl ?_ | refine And.intro rfl ?_ | (refine And.intro ?_ ?_; · decide)))
  all_goals (refine bool_leaf ?_; first | (simp_all [noA]; done) | (simp_all [noA]; omega))
theorem s_noS (s : XStream) : PureC Try.prog 64 [s.v] [boolv (noS s)] := by
  refine pureC_of (Γ := lookT tbl) (il := ilist) tg dr Try.func64 rfl (by kernel_rfl) rfl (Nat.le_of_ble_eq_true rfl) ?_
  (repeat' ((conv => whnf); first | refine br_i (fun _ => ?_) (fun _ => ?_) | (refine cur_leaf rfl rfl rfl ?_ ?_; · first | assumption | omega | exact hw ‹_›) | refine leaf_i rfl rfl ?_ | refine And.intro rfl ?_ | (refine And.intro ?_ ?_; · decide)))
  all_goals (refine bool_leaf ?_; first | (simp_all [noS]; done) | (simp_all [noS]; omega))
theorem m_noS (s : XStream) : PureC Try.prog 76 [s.v] [boolv (noS s)] := by
  refine pureC_of (Γ := lookT tbl) (il := ilist) tg dr Try.func76 rfl (by kernel_rfl) rfl (Nat.le_of_ble_eq_true rfl) ?_
  (repeat' ((conv => whnf); first | refine br_i (fun _ => ?_) (fun _ => ?_) | (refine cur_leaf rfl rfl rfl ?_ ?_; · first | assumption | omega | exact hw ‹_›) | refine leaf_i rfl rfl ?_ | refine And.intro rfl ?_ | (refine And.intro ?_ ?_; · decide)))
  all_goals (refine bool_leaf ?_; first | (simp_all [noS]; done) | (simp_all [noS]; omega))
def portOk (p : XPort) : Bool := inB p.Errors 0 1000000 && (if p.Kind = 1 then rtuOk p.R && noA p.A && noS p.S else if p.Kind = 2 then noR p.R && asciiOk p.A && noS p.S else if p.Kind = 3 then noR p.R && noA p.A && streamOk p.S else false)
theorem s_PortOk (p : XPort) : PureC Try.prog 29 [p.v] [boolv (portOk p)] := by
  refine pureC_of (Γ := lookT tbl) (il := ilist) tg dr Try.func29 rfl (by kernel_rfl) rfl (Nat.le_of_ble_eq_true rfl) ?_
  (repeat' ((conv => whnf); first | refine br_i (fun _ => ?_) (fun _ => ?_) | (refine cur_leaf rfl rfl rfl ?_ ?_; · first | assumption | omega | exact hw ‹_›) | refine leaf_i rfl rfl ?_ | refine And.intro rfl ?_ | refine call_i (s_in _ _ _) ?_ | (refine Or.inl ?_; (conv => whnf); refine call_i (s_in _ _ _) ?_) | refine call_i (s_RtuOk p.R) ?_ | (refine Or.inl ?_; (conv => whnf); refine call_i (s_RtuOk p.R) ?_) | refine call_i (s_AsciiOk p.A) ?_ | (refine Or.inl ?_; (conv => whnf); refine call_i (s_AsciiOk p.A) ?_) | refine call_i (s_StreamOk p.S) ?_ | (refine Or.inl ?_; (conv => whnf); refine call_i (s_StreamOk p.S) ?_) | refine call_i (s_noR p.R) ?_ | (refine Or.inl ?_; (conv => whnf); refine call_i (s_noR p.R) ?_) | refine call_i (s_noA p.A) ?_ | (refine Or.inl ?_; (conv => whnf); refine call_i (s_noA p.A) ?_) | refine call_i (s_noS p.S) ?_ | (refine Or.inl ?_; (conv => whnf); refine call_i (s_noS p.S) ?_) | (refine And.intro ?_ ?_; · decide)))
  all_goals (refine bool_leaf ?_; first | (simp_all [portOk]; done) | (simp_all [portOk]; omega))
theorem m_PortOk (p : XPort) : PureC Try.prog 36 [p.v] [boolv (portOk p)] := by
  refine pureC_of (Γ := lookT tbl) (il := ilist) tg dr Try.func36 rfl (by kernel_rfl) rfl (Nat.le_of_ble_eq_true rfl) ?_
  (repeat' ((conv => whnf); first | refine br_i (fun _ => ?_) (fun _ => ?_) | (refine cur_leaf rfl rfl rfl ?_ ?_; · first | assumption | omega | exact hw ‹_›) | refine leaf_i rfl rfl ?_ | refine And.intro rfl ?_ | refine call_i (m_in _ _ _) ?_ | (refine Or.inl ?_; (conv => whnf); refine call_i (m_in _ _ _) ?_) | refine call_i (m_RtuOk p.R) ?_ | (refine Or.inl ?_; (conv => whnf); refine call_i (m_RtuOk p.R) ?_) | refine call_i (m_AsciiOk p.A) ?_ | (refine Or.inl ?_; (conv => whnf); refine call_i (m_AsciiOk p.A) ?_) | refine call_i (m_StreamOk p.S) ?_ | (refine Or.inl ?_; (conv => whnf); refine call_i (m_StreamOk p.S) ?_) | refine call_i (m_noR p.R) ?_ | (refine Or.inl ?_; (conv => whnf); refine call_i (m_noR p.R) ?_) | refine call_i (m_noA p.A) ?_ | (refine Or.inl ?_; (conv => whnf); refine call_i (m_noA p.A) ?_) | refine call_i (m_noS p.S) ?_ | (refine Or.inl ?_; (conv => whnf); refine call_i (m_noS p.S) ?_) | (refine And.intro ?_ ?_; · decide)))
  all_goals (refine bool_leaf ?_; first | (simp_all [portOk]; done) | (simp_all [portOk]; omega))
def portSay (p : XPort) (x : XBox) : List Int := if !portOk p then [] else if p.Kind = 1 then putRtu x.Unit x.Pdu else if p.Kind = 2 then putAscii x.Unit x.Pdu else putMbap x.Number x.Unit x.Pdu
theorem s_PortSay (p : XPort) (x : XBox) (hb : isBytes x.Pdu) : PureC Try.prog 7 [p.v, x.v] [bytesV (portSay p x)] := by
  refine pureC_of (Γ := lookT tbl) (il := ilist) tg dr Try.func7 rfl (by kernel_rfl) rfl (Nat.le_of_ble_eq_true rfl) ?_
  (repeat' ((conv => whnf); first | refine br_i (fun _ => ?_) (fun _ => ?_) | (refine cur_leaf rfl rfl rfl ?_ ?_; · first | assumption | omega | exact hw ‹_›) | refine leaf_i rfl rfl ?_ | refine And.intro rfl ?_ | refine call_i (s_PortOk p) ?_ | (refine Or.inl ?_; (conv => whnf); refine call_i (s_PortOk p) ?_) | refine call_i (s_PutRtu x.Unit x.Pdu hb) ?_ | (refine Or.inl ?_; (conv => whnf); refine call_i (s_PutRtu x.Unit x.Pdu hb) ?_) | refine call_i (s_PutAscii x.Unit x.Pdu hb) ?_ | (refine Or.inl ?_; (conv => whnf); refine call_i (s_PutAscii x.Unit x.Pdu hb) ?_) | refine call_i (s_PutMbap x.Number x.Unit x.Pdu hb) ?_ | (refine Or.inl ?_; (conv => whnf); refine call_i (s_PutMbap x.Number x.Unit x.Pdu hb) ?_) | (refine And.intro ?_ ?_; · decide)))
  all_goals first | (rw [show portSay p x = [] by (first | (simp_all [portSay]; done) | (simp_all [portSay]; omega))]; rfl) | (rw [show portSay p x = putRtu x.Unit x.Pdu by (first | (simp_all [portSay]; done) | (simp_all [portSay]; omega))]; rfl) | (rw [show portSay p x = putAscii x.Unit x.Pdu by (first | (simp_all [portSay]; done) | (simp_all [portSay]; omega))]; rfl) | (rw [show portSay p x = putMbap x.Number x.Unit x.Pdu by (first | (simp_all [portSay]; done) | (simp_all [portSay]; omega))]; rfl)
theorem m_PortSay (p : XPort) (x : XBox) (hb : isBytes x.Pdu) : PureC Try.prog 10 [p.v, x.v] [bytesV (portSay p x)] := by
  refine pureC_of (Γ := lookT tbl) (il := ilist) tg dr Try.func10 rfl (by kernel_rfl) rfl (Nat.le_of_ble_eq_true rfl) ?_
  (repeat' ((conv => whnf); first | refine br_i (fun _ => ?_) (fun _ => ?_) | (refine cur_leaf rfl rfl rfl ?_ ?_; · first | assumption | omega | exact hw ‹_›) | refine leaf_i rfl rfl ?_ | refine And.intro rfl ?_ | refine call_i (m_PortOk p) ?_ | (refine Or.inl ?_; (conv => whnf); refine call_i (m_PortOk p) ?_) | refine call_i (m_PutRtu x.Unit x.Pdu hb) ?_ | (refine Or.inl ?_; (conv => whnf); refine call_i (m_PutRtu x.Unit x.Pdu hb) ?_) | refine call_i (m_PutAscii x.Unit x.Pdu hb) ?_ | (refine Or.inl ?_; (conv => whnf); refine call_i (m_PutAscii x.Unit x.Pdu hb) ?_) | refine call_i (m_PutMbap x.Number x.Unit x.Pdu hb) ?_ | (refine Or.inl ?_; (conv => whnf); refine call_i (m_PutMbap x.Number x.Unit x.Pdu hb) ?_) | (refine And.intro ?_ ?_; · decide)))
  all_goals first | (rw [show portSay p x = [] by (first | (simp_all [portSay]; done) | (simp_all [portSay]; omega))]; rfl) | (rw [show portSay p x = putRtu x.Unit x.Pdu by (first | (simp_all [portSay]; done) | (simp_all [portSay]; omega))]; rfl) | (rw [show portSay p x = putAscii x.Unit x.Pdu by (first | (simp_all [portSay]; done) | (simp_all [portSay]; omega))]; rfl) | (rw [show portSay p x = putMbap x.Number x.Unit x.Pdu by (first | (simp_all [portSay]; done) | (simp_all [portSay]; omega))]; rfl)
theorem say_len (p : XPort) (x : XBox) : (portSay p x).length ≤ 2 * x.Pdu.length + 20 := by
  unfold portSay
  split
  · simp
  split
  · unfold putRtu; split <;> simp; omega
  split
  · unfold putAscii
    split
    · have := hexL_len (bodyA x.Unit x.Pdu)
      have h2 : (bodyA x.Unit x.Pdu).length = x.Pdu.length + 2 := by simp [bodyA]
      simp; omega
    · simp
  · unfold putMbap; split <;> simp [wordL]; omega
theorem law_FnExactPortSay (x : XPort) (hx : x.Ok) (y : XBox) (hy : y.Ok) : PureC Try.prog 3 [x.v, y.v] [boolv true] := by
  refine pureC_deep (Γ := lookT tbl) (il := ilist) tg drD Try.func3 rfl (by kernel_rfl) rfl (Nat.le_of_ble_eq_true rfl) rfl ?_
  conv => whnf
  refine Or.inl ?_
  conv => whnf
  refine call_i (szPort x 1048576 (by decide) (by decide)) ?_
  conv => whnf
  refine br_i (fun h => ?_) (fun h => ?_)
  · conv => whnf
  have ht := sub_nn (dge h)
  clear h
  conv => whnf
  refine Or.inl ?_
  conv => whnf
  refine call_i (szBox y _ (by omega) (by omega)) ?_
  conv => whnf
  refine br_i (fun h => ?_) (fun h => ?_)
  · conv => whnf
  have hc := sub_nn (dge h)
  clear h
  have h1 : x.tot ≤ 1048576 := by omega
  have h2 : y.tot ≤ 1048576 := by omega
  have hb : isBytes y.Pdu := fun q hq => wf_u8 (hy.2.2 q hq)
  have hs := s_PortSay x y hb
  have hm := m_PortSay x y hb
  have e1 : PureC Try.prog 12 [x.v, x.v] [boolv true] := by simpa using eqPort x x
  have e2 : PureC Try.prog 13 [y.v, y.v] [boolv true] := by simpa using eqBox y y
  have hsz := say_len x y
  have hxs : x.sc = x.tot := by simp [XPort.sc, XPort.tot, XRtu.tot, XAscii.tot, XStream.tot]
  have hys : y.sc = y.tot := by simp [XBox.sc, XBox.tot]
  have hyl : y.Pdu.length = y.tot := rfl
  generalize portSay x y = R at *
  have e3 : PureC Try.prog 11 [bytesV R, bytesV R] [boolv true] := by simpa using eqByteS R R
  obtain ⟨a1, a2, a3, A1⟩ := mkPort x 1 (by decide) (by omega)
  obtain ⟨b1, B1⟩ := mkBox y (1 + x.sc) (by omega) (by omega)
  obtain ⟨c1, C1, C2⟩ := mkByteS R 1 (by decide) (by omega)
  (repeat' ((conv => whnf); first | exact rfl | (refine br_i ?_ ?_; (· (intro h; exfalso; first | (simp at h; done) | (have := dlt h; omega))); intro _) | (refine br_i ?_ ?_; rotate_left; (· (intro h; exfalso; simp at h; done)); intro _) | refine br_i (fun _ => ?_) (fun _ => ?_) | refine And.intro rfl ?_ | (refine Or.inl ?_; (conv => whnf); refine call_i (hs) ?_) | (refine Or.inl ?_; (conv => whnf); refine call_i (hm) ?_) | (refine Or.inl ?_; (conv => whnf); refine call_i (toPort x h1) ?_) | (refine Or.inl ?_; (conv => whnf); refine call_i (toBox y h2) ?_) | (refine Or.inl ?_; (conv => whnf); refine call_i (e1) ?_) | (refine Or.inl ?_; (conv => whnf); refine call_i (e2) ?_) | (refine Or.inl ?_; (conv => whnf); refine call_i (e3) ?_) | refine mark_i A1.1 rfl ?_ | refine mark_i B1.1 rfl ?_ | refine mark_i A1 rfl ?_ | refine mark_i B1 rfl ?_ | refine mark_i C1 rfl ?_ | (refine Or.inl ?_; (conv => whnf); refine call_i (C2) ?_) | (refine And.intro ?_ ?_; · decide)); all_goals (try (conv => whnf)))

end Go.Proofs.Ytoccphgempbdeaa
