/- A drawn line: what ticks make of it in the end. -/
import Derived.Test.YtciiiandmpjndaaXBig
namespace Go.Proofs.Ytciiiandmpjndaa
open Go Go.Vi
set_option linter.unusedVariables false
set_option linter.unusedSimpArgs false
set_option maxRecDepth 100000
def sizeF (n : Nat) (most : Int) : Int := if (3 + ((n / 12 : Nat) : Int)) > most then most else 3 + ((n / 12 : Nat) : Int)
theorem size_b {n : Nat} {most : Int} (h : 3 ≤ most) : 3 ≤ sizeF n most ∧ sizeF n most ≤ most := by
  unfold sizeF
  split <;> omega
theorem s_Size (code : List Int) (hl : code.length ≤ 1048576) (most : Int) : PureC Try.prog 18 [bytesV code, i64v most] [i64v (sizeF code.length most)] := by
  refine pureC_of (Γ := lookT tbl) (il := ilist) tg dr Try.func18 rfl (by kernel_rfl) rfl (Nat.le_of_ble_eq_true rfl) ?_
  have e : IntKind.i64.wrap (3 + IntKind.i64.wrap (((code.map byteEl).length : Int).tdiv 12)) = 3 + ((code.length / 12 : Nat) : Int) := by
    rw [List.length_map, Int.tdiv_eq_ediv_of_nonneg (by omega)]
    rw [wrap_ok (x := (code.length : Int) / 12) (by omega) (by omega), wrap_ok (by omega) (by omega)]
    omega
  (repeat' ((conv => whnf); first | refine br_i (fun _ => ?_) (fun _ => ?_) | (refine cur_leaf rfl rfl rfl ?_ ?_; · first | assumption | omega | exact hw ‹_›) | refine leaf_i rfl rfl ?_ | refine And.intro rfl ?_ | (refine And.intro (show (12 : Int) ≠ 0 by decide) ?_) | (refine And.intro ?_ ?_; · decide)))
  · rename_i h
    rw [e] at h
    rw [show sizeF code.length most = most by unfold sizeF; rw [if_pos (by simpa using h)]]
    rfl
  · rename_i h
    rw [e] at h
    rw [e, show sizeF code.length most = 3 + ((code.length / 12 : Nat) : Int) by unfold sizeF; rw [if_neg (by simpa using h)]]
    rfl
theorem d_DrawLine (code : List Int) (hl : code.length ≤ 1048576) : NdC Try.prog 12 [bytesV code] (fun rs => ∃ l now, rs = [XLine.v l, i64v now] ∧ DL l now 20) := by
  refine ndC_of (Γ := lookT tbl) (il := ilist) tg dr Try.func12 rfl (by kernel_rfl) rfl (Nat.le_of_ble_eq_true rfl) ?_
  have hS := s_Size code hl 20
  have hs := size_b (n := code.length) (most := 20) (by decide)
  have hD := d_Line code (by omega) (sizeF code.length 20) (by omega) (by omega)
  have newI := fun {k : Nat} (hb : (k : Int) < (code.map byteEl).length) => newI (L := code.map byteEl) (code := code) hb rfl
  have hL : (code.map byteEl).length ≤ 1048576 := by rw [List.length_map]; exact hl
  unfold bytesV bytesP at *
  generalize code.map byteEl = L at *
  conv => whnf
  refine inl_of (Γ := lookT tbl) (il := ilist) tg dr Try.func16 rfl (by kernel_rfl) rfl (ts := [22]) (Nat.le_of_ble_eq_true rfl) ?_
  conv => whnf
  refine loop_i (fun s : Nat × Int => ⟨envL [(0, .c (.pv (.sl 1 L))), (3, .c (.pv (.int .i64 s.2))), (4, .c (.pv (.int .i64 s.1)))], resL [(0, .box [.nil 9, .pv (.bool false), .pv (.int .i64 0), .pv (.int .i64 0), .pv (.int .i64 0), .pv (.int .i64 0), .pv (.int .i64 0), .pv (.int .i64 0), .nil 1, .nil 1, .pv (.int .i64 0), .pv (.int .i64 0), .pv (.int .i64 0), .pv (.int .i64 0), .pv (.int .i64 0), .pv (.int .i64 0), .pv (.int .i64 0)]), (3072, .env [(0, .c (.pv (.sl 1 L))), (2, .c (.ptr 0 0))])], 3072 + 1, 32⟩) (fun s => s.1 ≤ L.length) (fun s => L.length - s.1) (0, _) (Nat.zero_le _) (le_mk [] rfl ⟨⟨rfl, rfl⟩, ⟨rfl, rfl⟩, ⟨rfl, rfl⟩, trivial⟩ ⟨⟨rfl, rfl⟩, ⟨⟨rfl, rfl⟩, _, rfl, ⟨rfl, rfl⟩, ⟨rfl, rfl⟩, trivial⟩, trivial⟩ rfl) ?_
  rintro ⟨k, h⟩ hk
  dsimp only at hk
  conv => whnf
  refine br_i (fun hb => ?_) (fun hb => ?_)
  focus
    have hb : (k : Int) < L.length := by simpa using hb
    conv => whnf
    refine br_i (fun hb2 => ?_) (fun hb2 => ?_)
    focus
      conv => whnf
      refine ⟨_, ⟨⟨by omega, newI hb⟩, rfl⟩, ?_⟩
      conv => whnf
      exact ⟨(k + 1, _), ⟨by show k + 1 ≤ L.length; omega, by show L.length - (k + 1) < L.length - k; omega⟩, le_mk [] rfl ⟨⟨rfl, rfl⟩, ⟨rfl, rfl⟩, ⟨ctr (by omega), rfl⟩, trivial⟩ ⟨⟨rfl, rfl⟩, ⟨⟨rfl, rfl⟩, _, rfl, ⟨rfl, rfl⟩, ⟨rfl, rfl⟩, trivial⟩, trivial⟩ rfl⟩
  all_goals
    conv => whnf
    refine call_i hS ?_
    conv => whnf
    refine inl_cur (Γ := lookT tbl) [3] ?_
    conv => whnf
    refine cur_i hD (by decide) ?_
    rintro _ i h ⟨l, now, rfl, hd⟩ hi
    conv => whnf
    refine leaf_i rfl rfl ?_
    exact ⟨l, now, rfl, hd⟩
theorem hear_num {l : XLine} (h : lineOk l = true) (hb : l.Busy = true) (u : Int) (a : XResp) : lineHear l (IntKind.i64.wrap (l.Number + 1)) u a = (l, []) := by
  obtain ⟨_, _, _, _, _, h6, _⟩ := ok_parts h
  have h7 := (h6 hb).2.1
  rw [hear_no]
  have : ¬ l.Number = IntKind.i64.wrap (l.Number + 1) := by rw [wrap_ok (by omega) (by omega)]; omega
  simp [hearOk, this]
theorem hear_unit {l : XLine} (h : lineOk l = true) (hb : l.Busy = true) (n : Int) (a : XResp) : lineHear l n (IntKind.i64.wrap (l.Call.Unit + 1)) a = (l, []) := by
  obtain ⟨_, _, _, _, _, h6, _⟩ := ok_parts h
  have h7 : 1 ≤ l.Call.Unit ∧ l.Call.Unit ≤ 247 := by
    have := (h6 hb).1
    simp [specCall, inB] at this
    omega
  rw [hear_no]
  have : ¬ l.Call.Unit = IntKind.i64.wrap (l.Call.Unit + 1) := by rw [wrap_ok (by omega) (by omega)]; omega
  simp [hearOk, this]
theorem hear_one {l : XLine} (h : lineOk l = true) (hb : l.Busy = true) : lineHear l l.Number l.Call.Unit (faultOf l.Call.Req 1) = (freeL l, [⟨l.Call.Id, l.Call.Part, faultOf l.Call.Req 1⟩]) := by
  obtain ⟨_, _, _, _, _, h6, _⟩ := ok_parts h
  have h7 : specReq l.Call.Req = true := by
    have := (h6 hb).1
    simp [specCall] at this
    exact this.2
  rw [hear_yes]
  simp [hearOk, h, hb, suits_fault h7 1 (by decide)]
theorem hear_gone (l : XLine) (n u : Int) (a : XResp) : lineHear (freeL l) n u a = (freeL l, []) := by
  rw [hear_no]
  simp [hearOk, freeL]
theorem fault_tot (q : XReq) (f : Int) : (faultOf q f).tot = 0 := by
  unfold faultOf
  split <;> rfl
/-- What holds ahead of each tick. -/
structure LInv (l0 : XLine) (i : Nat) (l : XLine) (now : Int) (done ords : Nat) : Prop where
  lt : i ≤ 400
  fine : Fine l now
  tot : l.tot ≤ 1048576
  wait : l.Wait = l0.Wait
  tries : l.Tries = l0.Tries
  pot : potN l now ≤ 400 - i
  calls : callsN l + done = callsN l0
  ask : askN l + ords = askN l0
theorem linv0 {l : XLine} {now : Int} (h : DL l now 20) : LInv l 0 l now 0 0 :=
  ⟨Nat.zero_le _, h.fine, by have := h.tot; omega, rfl, rfl, pot_le h.fine h.wait h.tries (by have := h.len; omega), rfl, rfl⟩
theorem linv_step {l0 l : XLine} {i : Nat} {now : Int} {done ords : Nat} (h : LInv l0 i l now done ords) (hi : i < 400) : Told l (tickOn now 1) (lineTick l (tickOn now 1)) ∧ LInv l0 (i + 1) (lineTick l (tickOn now 1)).1 (tickOn now 1) (done + (lineTick l (tickOn now 1)).2.2.length) (ords + (lineTick l (tickOn now 1)).2.1.length) := by
  have e2 := (tickOn_b h.fine.tick (show tickB 1 = true by decide)).2
  rw [tick_is h.fine.ok e2]
  obtain ⟨ht, hp⟩ := tick_told h.fine
  refine ⟨ht, hi, ht.fine, Nat.le_trans ht.tot h.tot, by rw [ht.wait]; exact h.wait, by rw [ht.tries]; exact h.tries, ?_, ?_, ?_⟩
  · rw [hp]
    have h1 := h.pot
    by_cases hc : l.Busy = true ∨ l.Queue ≠ []
    · rw [if_pos hc]; omega
    · have hb : l.Busy = false := by simpa using fun hb => hc (.inl hb)
      have hq : l.Queue = [] := by
        cases hq : l.Queue with
        | nil => rfl
        | cons c q => exact absurd (.inr (by rw [hq]; simp)) hc
      have : potN l now = 0 := by simp [potN, hb, hq]
      omega
  · have := h.calls; have := ht.calls; omega
  · have := h.ask; have := ht.ask; omega
theorem law_FnLines (code : List Int) (hw : ∀ q0, q0 ∈ code → (Lit.int .u8 q0).wf = true) : PureC Try.prog 4 [bytesV code] [boolv true] := by
  refine pureC_of (Γ := lookT tbl) (il := ilist) tg dr Try.func4 rfl (by kernel_rfl) rfl (Nat.le_of_ble_eq_true rfl) ?_
  conv => whnf
  refine call_i (l_big code) ?_
  conv => whnf
  refine br_i (fun h => ?_) (fun h => ?_)
  · conv => whnf
    exact leaf_i rfl rfl rfl
  have hlc : code.length ≤ 1048576 := by simp [bigB] at h; omega
  conv => whnf
  refine inl_nd (Γ := lookT tbl) [22] ?_
  conv => whnf
  refine nd_i (d_DrawLine code hlc) ?_
  rintro _ ⟨l, now, rfl, hd⟩
  have hok := hd.fine.ok
  have htot := hd.tot
  have hm := m_LineOk l
  rw [hok] at hm
  conv => whnf
  refine Or.inl ?_
  conv => whnf
  refine call_i hm ?_
  conv => whnf
  refine br_i (fun hB => ?_) (fun hB => ?_)
  · have c1 := m_LineHear l (IntKind.i64.wrap (l.Number + 1)) l.Call.Unit (faultOf l.Call.Req 1) (by omega) (by rw [fault_tot]; omega)
    rw [hear_num hok hB] at c1
    have c2 := m_LineHear l l.Number (IntKind.i64.wrap (l.Call.Unit + 1)) (faultOf l.Call.Req 1) (by omega) (by rw [fault_tot]; omega)
    rw [hear_unit hok hB] at c2
    have c3 := m_LineHear l l.Number l.Call.Unit (faultOf l.Call.Req 1) (by omega) (by rw [fault_tot]; omega)
    rw [hear_one hok hB] at c3
    have c4 := m_LineHear (freeL l) l.Number l.Call.Unit (faultOf l.Call.Req 1) (by have := line_tot l; have := line_tot (freeL l); have : (freeL l).Call.tot = 0 := rfl; have : (freeL l).Queue = l.Queue := rfl; simp_all; omega) (by rw [fault_tot]; omega)
    rw [hear_gone] at c4
    have cf := s_FaultOf l.Call.Req 1
    generalize faultOf l.Call.Req 1 = a at *
    (repeat' ((conv => whnf); first | refine br_i (fun _ => ?_) (fun _ => ?_) | (refine cur_leaf rfl rfl rfl ?_ ?_; · first | assumption | omega | exact hw ‹_›) | refine leaf_i rfl rfl ?_ | refine And.intro rfl ?_ | refine call_i (cf) ?_ | (refine Or.inl ?_; (conv => whnf); refine call_i (cf) ?_) | refine call_i (c1) ?_ | (refine Or.inl ?_; (conv => whnf); refine call_i (c1) ?_) | refine call_i (c2) ?_ | (refine Or.inl ?_; (conv => whnf); refine call_i (c2) ?_) | refine call_i (c3) ?_ | (refine Or.inl ?_; (conv => whnf); refine call_i (c3) ?_) | refine call_i (c4) ?_ | (refine Or.inl ?_; (conv => whnf); refine call_i (c4) ?_) | (refine And.intro ?_ ?_; · decide)))
    · rename_i hx
      rw [show (!(l, ([] : List XDone)).fst.Busy) = !l.Busy from rfl, hB] at hx
      cases hx
    · (repeat' ((conv => whnf); first | refine br_i (fun _ => ?_) (fun _ => ?_) | (refine cur_leaf rfl rfl rfl ?_ ?_; · first | assumption | omega | exact hw ‹_›) | refine leaf_i rfl rfl ?_ | refine And.intro rfl ?_ | (refine ⟨0, ⟨⟨rfl, Nat.succ_pos _⟩, rfl⟩, ?_⟩) | (refine ⟨_, ⟨rfl, rfl⟩, ?_⟩) | (refine And.intro ?_ ?_; · decide)))
      · rename_i hx
        simp at hx
      · conv => whnf
        have hcN : IntKind.i64.wrap (((l.Queue.map XCall.ps).length : Int) + 1) = (callsN l : Nat) := by
          have := hd.len
          rw [List.length_map, wrap_ok (by omega) (by omega)]
          simp [callsN, hB, oneB]
        clear c1 c2 c3 c4 cf
        have hcb : callsN l ≤ 21 := by have := hd.len; unfold callsN oneB; split <;> omega
        have hab : askN l ≤ 21 * 3 := Nat.le_trans (ask_le hok) (Nat.mul_le_mul hcb (by have := hd.tries; omega))
        conv => whnf
        refine loop_i (fun s : Nat × XLine × Int × Nat × Nat => ⟨envL [(3, .c (.ptr 0 0)), (4, .c (.pv (.int .i64 s.2.2.1))), (14, .c (.pv (.int .i64 (callsN l : Nat)))), (15, .c (.pv (.int .i64 s.2.2.2.1))), (16, .c (.pv (.int .i64 s.2.2.2.2))), (17, .c (.pv (.int .i64 s.1)))], resL [(0, .box [.row 1, .pv (.bool s.2.1.Busy), .pv (.int .i64 s.2.1.Call.Id), .pv (.int .i64 s.2.1.Call.Part), .pv (.int .i64 s.2.1.Call.Unit), .pv (.int .i64 s.2.1.Call.Req.Kind), .pv (.int .i64 s.2.1.Call.Req.At), .pv (.int .i64 s.2.1.Call.Req.N), .row 2, .row 3, .pv (.int .i64 s.2.1.Call.Req.WAt), .pv (.int .i64 s.2.1.Number), .pv (.int .i64 s.2.1.Due), .pv (.int .i64 s.2.1.Left), .pv (.int .i64 s.2.1.Next), .pv (.int .i64 s.2.1.Wait), .pv (.int .i64 s.2.1.Tries)]), (1, .row true 9 (s.2.1.Queue.map XCall.ps)), (2, .row true 1 (s.2.1.Call.Req.Words.map intEl)), (3, .row true 1 (s.2.1.Call.Req.Bits.map boolEl))], 4, 199⟩) (fun s => LInv l s.1 s.2.1 s.2.2.1 s.2.2.2.1 s.2.2.2.2) (fun s => 400 - s.1) (0, l, now, 0, 0) (linv0 hd)
          (le_mk [(0, _), (1, _), (2, _), (3, _)] rfl ⟨⟨rfl, rfl⟩, ⟨rfl, rfl⟩, ⟨i64_eq hcN, rfl⟩, ⟨rfl, rfl⟩, ⟨rfl, rfl⟩, ⟨rfl, rfl⟩, trivial⟩ ⟨⟨rfl, rfl⟩, ⟨rfl, rfl⟩, ⟨rfl, rfl⟩, ⟨rfl, rfl⟩, trivial⟩ rfl) ?_
        rintro ⟨i, l2, now2, done, ords⟩ hI
        dsimp only at hI
        conv => whnf
        refine br_i (fun h => ?_) (fun h => ?_)
        · have hi : i < 400 := by simp at h; omega
          obtain ⟨hT, hJ⟩ := linv_step hI hi
          conv => whnf
          refine call_i (m_TickOn now2 1) ?_
          conv => whnf
          refine call_i (m_LineTick l2 (tickOn now2 1) hI.tot) ?_
          generalize lineTick l2 (tickOn now2 1) = R at *
          obtain ⟨l3, o3, d3⟩ := R
          dsimp only at hT hJ
          have hs1 : decide (((o3.map XOrder.ps).length : Int) > 1) = false := by rw [List.length_map]; have := hT.sent; simp at this ⊢; omega
          have hs2 : decide (((d3.map XDone.ps).length : Int) > 1) = false := by rw [List.length_map]; have := hT.told; simp at this ⊢; omega
          have hm3 := m_LineOk l3
          rw [hT.fine.ok] at hm3
          conv => whnf
          refine br_i (fun h => absurd h (by rw [hs1]; decide)) (fun _ => ?_)
          conv => whnf
          refine br_i (fun h => absurd h (by rw [hs2]; decide)) (fun _ => ?_)
          conv => whnf
          refine Or.inl ?_
          conv => whnf
          refine call_i hm3 ?_
          conv => whnf
          refine loop_i (fun k : Nat => ⟨envL [(3, .c (.ptr 0 0)), (4, .c (.pv (.int .i64 (tickOn now2 1)))), (14, .c (.pv (.int .i64 (callsN l : Nat)))), (15, .c (.pv (.int .i64 done))), (16, .c (.pv (.int .i64 ords))), (17, .c (.pv (.int .i64 i))), (18, .c (.ptr 4 0)), (19, .c (.row 8)), (20, .c (.row 9)), (21, .c (.pv (.int .i64 k)))], resL [(0, .box [.row 1, .pv (.bool l2.Busy), .pv (.int .i64 l2.Call.Id), .pv (.int .i64 l2.Call.Part), .pv (.int .i64 l2.Call.Unit), .pv (.int .i64 l2.Call.Req.Kind), .pv (.int .i64 l2.Call.Req.At), .pv (.int .i64 l2.Call.Req.N), .row 2, .row 3, .pv (.int .i64 l2.Call.Req.WAt), .pv (.int .i64 l2.Number), .pv (.int .i64 l2.Due), .pv (.int .i64 l2.Left), .pv (.int .i64 l2.Next), .pv (.int .i64 l2.Wait), .pv (.int .i64 l2.Tries)]), (1, .row true 9 (l2.Queue.map XCall.ps)), (2, .row true 1 (l2.Call.Req.Words.map intEl)), (3, .row true 1 (l2.Call.Req.Bits.map boolEl)), (4, .box [.row 5, .pv (.bool l3.Busy), .pv (.int .i64 l3.Call.Id), .pv (.int .i64 l3.Call.Part), .pv (.int .i64 l3.Call.Unit), .pv (.int .i64 l3.Call.Req.Kind), .pv (.int .i64 l3.Call.Req.At), .pv (.int .i64 l3.Call.Req.N), .row 6, .row 7, .pv (.int .i64 l3.Call.Req.WAt), .pv (.int .i64 l3.Number), .pv (.int .i64 l3.Due), .pv (.int .i64 l3.Left), .pv (.int .i64 l3.Next), .pv (.int .i64 l3.Wait), .pv (.int .i64 l3.Tries)]), (5, .row true 9 (l3.Queue.map XCall.ps)), (6, .row true 1 (l3.Call.Req.Words.map intEl)), (7, .row true 1 (l3.Call.Req.Bits.map boolEl)), (8, .row true 8 (o3.map XOrder.ps)), (9, .row true 8 (d3.map XDone.ps))], 10, 199⟩) (fun k => k ≤ d3.length) (fun k => d3.length - k) 0 (Nat.zero_le _)
            (le_mk [(0, _), (1, _), (2, _), (3, _), (4, _), (5, _), (6, _), (7, _), (8, _), (9, _)] rfl ⟨⟨rfl, rfl⟩, ⟨rfl, rfl⟩, ⟨rfl, rfl⟩, ⟨rfl, rfl⟩, ⟨rfl, rfl⟩, ⟨rfl, rfl⟩, ⟨rfl, rfl⟩, ⟨rfl, rfl⟩, ⟨rfl, rfl⟩, ⟨rfl, rfl⟩, trivial⟩ ⟨⟨rfl, rfl⟩, ⟨rfl, rfl⟩, ⟨rfl, rfl⟩, ⟨rfl, rfl⟩, ⟨rfl, rfl⟩, ⟨rfl, rfl⟩, ⟨rfl, rfl⟩, ⟨rfl, rfl⟩, ⟨rfl, rfl⟩, ⟨rfl, rfl⟩, trivial⟩ rfl) ?_
          intro k hk
          conv => whnf
          refine br_i (fun h => ?_) (fun h => ?_)
          · have hlt : k < d3.length := by simpa using h
            have hd3 : d3.length ≤ 1 := hT.told
            have hlm : k < (d3.map XDone.ps).length := by rw [List.length_map]; exact hlt
            have hget : (d3.map XDone.ps)[k]? = some (XDone.ps d3[k]) := by rw [List.getElem?_map, List.getElem?_eq_getElem hlt]; rfl
            have hf : (d3[k].Resp.Fault != 11) = false := by rw [hT.fault _ (List.getElem_mem hlt)]; rfl
            conv => whnf
            refine ⟨k, ⟨⟨rfl, hlm⟩, rfl⟩, ?_⟩
            conv => whnf
            refine ⟨_, ⟨rfl, hget⟩, ?_⟩
            conv => whnf
            refine br_i (fun h => absurd h (by rw [hf]; decide)) (fun _ => ?_)
            conv => whnf
            exact ⟨k + 1, ⟨hlt, by show d3.length - (k + 1) < d3.length - k; omega⟩, le_mk [] rfl ⟨⟨rfl, rfl⟩, ⟨rfl, rfl⟩, ⟨rfl, rfl⟩, ⟨rfl, rfl⟩, ⟨rfl, rfl⟩, ⟨rfl, rfl⟩, ⟨rfl, rfl⟩, ⟨rfl, rfl⟩, ⟨rfl, rfl⟩, ⟨ctr (by omega), rfl⟩, trivial⟩ ⟨⟨rfl, rfl⟩, ⟨rfl, rfl⟩, ⟨rfl, rfl⟩, ⟨rfl, rfl⟩, ⟨rfl, rfl⟩, ⟨rfl, rfl⟩, ⟨rfl, rfl⟩, ⟨rfl, rfl⟩, ⟨rfl, rfl⟩, ⟨rfl, rfl⟩, trivial⟩ rfl⟩
          · have hk2 : d3.length = k := by simp at h; omega
            have hb1 : IntKind.i64.wrap ((done : Int) + ((d3.map XDone.ps).length : Nat)) = ((done + d3.length : Nat) : Int) := by rw [List.length_map, wrap_ok (by omega) (by have := hJ.calls; have := hcb; omega)]; omega
            have hb2 : IntKind.i64.wrap ((ords : Int) + ((o3.map XOrder.ps).length : Nat)) = ((ords + o3.length : Nat) : Int) := by rw [List.length_map, wrap_ok (by omega) (by have := hJ.ask; have := hab; omega)]; omega
            conv => whnf
            exact ⟨(i + 1, l3, tickOn now2 1, done + d3.length, ords + o3.length), ⟨hJ, by show 400 - (i + 1) < 400 - i; omega⟩, le_mk [(0, _), (1, _), (2, _), (3, _)] rfl ⟨⟨rfl, rfl⟩, ⟨rfl, rfl⟩, ⟨rfl, rfl⟩, ⟨i64_eq hb1, rfl⟩, ⟨i64_eq hb2, rfl⟩, ⟨ctr (by omega), rfl⟩, trivial⟩ ⟨⟨rfl, rfl⟩, ⟨rfl, rfl⟩, ⟨rfl, rfl⟩, ⟨rfl, rfl⟩, trivial⟩ rfl⟩
        · have hi : i = 400 := by have := hI.lt; simp at h; omega
          subst hi
          obtain ⟨hb0, hq0⟩ := pot_zero hI.fine (by have := hI.pot; omega)
          have hc2 : done = callsN l := by have := hI.calls; simp [callsN, hb0, hq0, oneB] at this ⊢; exact this
          have ha2 : ords = askN l := by have := hI.ask; simp [askN, hb0, hq0] at this ⊢; exact this
          have hle := ask_le hok
          have ht2 := hd.tries
          have ht3 := (ok_parts hok).2.1
          have hT1 : IntKind.i64.wrap (l2.Tries + 1) = ((l.Tries.toNat + 1 : Nat) : Int) := by rw [hI.tries, wrap_ok (by omega) (by omega)]; omega
          have hml : callsN l * (l.Tries.toNat + 1) ≤ 21 * 3 := Nat.mul_le_mul hcb (by omega)
          have hT2 : IntKind.i64.wrap (((callsN l : Nat) : Int) * ((l.Tries.toNat + 1 : Nat) : Int)) = ((callsN l * (l.Tries.toNat + 1) : Nat) : Int) := by
            rw [← Int.natCast_mul]
            generalize callsN l * (l.Tries.toNat + 1) = M at *
            exact wrap_ok (by omega) (by omega)
          have e1 : (((done : Nat) : Int) == ((callsN l : Nat) : Int)) = true := by rw [hc2]; simp
          have e2 : (((l2.Queue.map XCall.ps).length : Int) == 0) = true := by rw [hq0]; rfl
          (repeat' ((conv => whnf); first | refine br_i (fun _ => ?_) (fun _ => ?_) | (refine cur_leaf rfl rfl rfl ?_ ?_; · first | assumption | omega | exact hw ‹_›) | refine leaf_i rfl rfl ?_ | refine And.intro rfl ?_ | (refine And.intro ?_ ?_; · decide)))
          · show [VV.one (PV.bool (decide ((ords : Int) ≤ IntKind.i64.wrap (((callsN l : Nat) : Int) * IntKind.i64.wrap (l2.Tries + 1)))))] = _
            rw [hT1, hT2, decide_eq_true (by generalize callsN l * (l.Tries.toNat + 1) = M at *; omega)]
            rfl
          · rename_i hx
            exact absurd (e2.symm.trans hx) (by decide)
          · rename_i hx
            rw [show (!(400, l2, now2, done, ords).snd.fst.Busy) = !l2.Busy from rfl, hb0] at hx
            cases hx
          · rename_i hx
            exact absurd (e1.symm.trans hx) (by decide)
      · rename_i hx
        rw [hB] at hx
        cases hx
  · conv => whnf
    refine br_i (fun h => absurd h (by rw [hB]; decide)) (fun _ => ?_)
    have hcN : ((l.Queue.map XCall.ps).length : Int) = (callsN l : Nat) := by
      rw [List.length_map]
      simp [callsN, hB, oneB]
    have hcb : callsN l ≤ 21 := by have := hd.len; unfold callsN oneB; split <;> omega
    have hab : askN l ≤ 21 * 3 := Nat.le_trans (ask_le hok) (Nat.mul_le_mul hcb (by have := hd.tries; omega))
    conv => whnf
    refine loop_i (fun s : Nat × XLine × Int × Nat × Nat => ⟨envL [(3, .c (.ptr 0 0)), (4, .c (.pv (.int .i64 s.2.2.1))), (14, .c (.pv (.int .i64 (callsN l : Nat)))), (15, .c (.pv (.int .i64 s.2.2.2.1))), (16, .c (.pv (.int .i64 s.2.2.2.2))), (17, .c (.pv (.int .i64 s.1)))], resL [(0, .box [.row 1, .pv (.bool s.2.1.Busy), .pv (.int .i64 s.2.1.Call.Id), .pv (.int .i64 s.2.1.Call.Part), .pv (.int .i64 s.2.1.Call.Unit), .pv (.int .i64 s.2.1.Call.Req.Kind), .pv (.int .i64 s.2.1.Call.Req.At), .pv (.int .i64 s.2.1.Call.Req.N), .row 2, .row 3, .pv (.int .i64 s.2.1.Call.Req.WAt), .pv (.int .i64 s.2.1.Number), .pv (.int .i64 s.2.1.Due), .pv (.int .i64 s.2.1.Left), .pv (.int .i64 s.2.1.Next), .pv (.int .i64 s.2.1.Wait), .pv (.int .i64 s.2.1.Tries)]), (1, .row true 9 (s.2.1.Queue.map XCall.ps)), (2, .row true 1 (s.2.1.Call.Req.Words.map intEl)), (3, .row true 1 (s.2.1.Call.Req.Bits.map boolEl))], 4, 199⟩) (fun s => LInv l s.1 s.2.1 s.2.2.1 s.2.2.2.1 s.2.2.2.2) (fun s => 400 - s.1) (0, l, now, 0, 0) (linv0 hd)
      (le_mk [(0, _), (1, _), (2, _), (3, _)] rfl ⟨⟨rfl, rfl⟩, ⟨rfl, rfl⟩, ⟨i64_eq hcN, rfl⟩, ⟨rfl, rfl⟩, ⟨rfl, rfl⟩, ⟨rfl, rfl⟩, trivial⟩ ⟨⟨rfl, rfl⟩, ⟨rfl, rfl⟩, ⟨rfl, rfl⟩, ⟨rfl, rfl⟩, trivial⟩ rfl) ?_
    rintro ⟨i, l2, now2, done, ords⟩ hI
    dsimp only at hI
    conv => whnf
    refine br_i (fun h => ?_) (fun h => ?_)
    · have hi : i < 400 := by simp at h; omega
      obtain ⟨hT, hJ⟩ := linv_step hI hi
      conv => whnf
      refine call_i (m_TickOn now2 1) ?_
      conv => whnf
      refine call_i (m_LineTick l2 (tickOn now2 1) hI.tot) ?_
      generalize lineTick l2 (tickOn now2 1) = R at *
      obtain ⟨l3, o3, d3⟩ := R
      dsimp only at hT hJ
      have hs1 : decide (((o3.map XOrder.ps).length : Int) > 1) = false := by rw [List.length_map]; have := hT.sent; simp at this ⊢; omega
      have hs2 : decide (((d3.map XDone.ps).length : Int) > 1) = false := by rw [List.length_map]; have := hT.told; simp at this ⊢; omega
      have hm3 := m_LineOk l3
      rw [hT.fine.ok] at hm3
      conv => whnf
      refine br_i (fun h => absurd h (by rw [hs1]; decide)) (fun _ => ?_)
      conv => whnf
      refine br_i (fun h => absurd h (by rw [hs2]; decide)) (fun _ => ?_)
      conv => whnf
      refine Or.inl ?_
      conv => whnf
      refine call_i hm3 ?_
      conv => whnf
      refine loop_i (fun k : Nat => ⟨envL [(3, .c (.ptr 0 0)), (4, .c (.pv (.int .i64 (tickOn now2 1)))), (14, .c (.pv (.int .i64 (callsN l : Nat)))), (15, .c (.pv (.int .i64 done))), (16, .c (.pv (.int .i64 ords))), (17, .c (.pv (.int .i64 i))), (18, .c (.ptr 4 0)), (19, .c (.row 8)), (20, .c (.row 9)), (21, .c (.pv (.int .i64 k)))], resL [(0, .box [.row 1, .pv (.bool l2.Busy), .pv (.int .i64 l2.Call.Id), .pv (.int .i64 l2.Call.Part), .pv (.int .i64 l2.Call.Unit), .pv (.int .i64 l2.Call.Req.Kind), .pv (.int .i64 l2.Call.Req.At), .pv (.int .i64 l2.Call.Req.N), .row 2, .row 3, .pv (.int .i64 l2.Call.Req.WAt), .pv (.int .i64 l2.Number), .pv (.int .i64 l2.Due), .pv (.int .i64 l2.Left), .pv (.int .i64 l2.Next), .pv (.int .i64 l2.Wait), .pv (.int .i64 l2.Tries)]), (1, .row true 9 (l2.Queue.map XCall.ps)), (2, .row true 1 (l2.Call.Req.Words.map intEl)), (3, .row true 1 (l2.Call.Req.Bits.map boolEl)), (4, .box [.row 5, .pv (.bool l3.Busy), .pv (.int .i64 l3.Call.Id), .pv (.int .i64 l3.Call.Part), .pv (.int .i64 l3.Call.Unit), .pv (.int .i64 l3.Call.Req.Kind), .pv (.int .i64 l3.Call.Req.At), .pv (.int .i64 l3.Call.Req.N), .row 6, .row 7, .pv (.int .i64 l3.Call.Req.WAt), .pv (.int .i64 l3.Number), .pv (.int .i64 l3.Due), .pv (.int .i64 l3.Left), .pv (.int .i64 l3.Next), .pv (.int .i64 l3.Wait), .pv (.int .i64 l3.Tries)]), (5, .row true 9 (l3.Queue.map XCall.ps)), (6, .row true 1 (l3.Call.Req.Words.map intEl)), (7, .row true 1 (l3.Call.Req.Bits.map boolEl)), (8, .row true 8 (o3.map XOrder.ps)), (9, .row true 8 (d3.map XDone.ps))], 10, 199⟩) (fun k => k ≤ d3.length) (fun k => d3.length - k) 0 (Nat.zero_le _)
        (le_mk [(0, _), (1, _), (2, _), (3, _), (4, _), (5, _), (6, _), (7, _), (8, _), (9, _)] rfl ⟨⟨rfl, rfl⟩, ⟨rfl, rfl⟩, ⟨rfl, rfl⟩, ⟨rfl, rfl⟩, ⟨rfl, rfl⟩, ⟨rfl, rfl⟩, ⟨rfl, rfl⟩, ⟨rfl, rfl⟩, ⟨rfl, rfl⟩, ⟨rfl, rfl⟩, trivial⟩ ⟨⟨rfl, rfl⟩, ⟨rfl, rfl⟩, ⟨rfl, rfl⟩, ⟨rfl, rfl⟩, ⟨rfl, rfl⟩, ⟨rfl, rfl⟩, ⟨rfl, rfl⟩, ⟨rfl, rfl⟩, ⟨rfl, rfl⟩, ⟨rfl, rfl⟩, trivial⟩ rfl) ?_
      intro k hk
      conv => whnf
      refine br_i (fun h => ?_) (fun h => ?_)
      · have hlt : k < d3.length := by simpa using h
        have hd3 : d3.length ≤ 1 := hT.told
        have hlm : k < (d3.map XDone.ps).length := by rw [List.length_map]; exact hlt
        have hget : (d3.map XDone.ps)[k]? = some (XDone.ps d3[k]) := by rw [List.getElem?_map, List.getElem?_eq_getElem hlt]; rfl
        have hf : (d3[k].Resp.Fault != 11) = false := by rw [hT.fault _ (List.getElem_mem hlt)]; rfl
        conv => whnf
        refine ⟨k, ⟨⟨rfl, hlm⟩, rfl⟩, ?_⟩
        conv => whnf
        refine ⟨_, ⟨rfl, hget⟩, ?_⟩
        conv => whnf
        refine br_i (fun h => absurd h (by rw [hf]; decide)) (fun _ => ?_)
        conv => whnf
        exact ⟨k + 1, ⟨hlt, by show d3.length - (k + 1) < d3.length - k; omega⟩, le_mk [] rfl ⟨⟨rfl, rfl⟩, ⟨rfl, rfl⟩, ⟨rfl, rfl⟩, ⟨rfl, rfl⟩, ⟨rfl, rfl⟩, ⟨rfl, rfl⟩, ⟨rfl, rfl⟩, ⟨rfl, rfl⟩, ⟨rfl, rfl⟩, ⟨ctr (by omega), rfl⟩, trivial⟩ ⟨⟨rfl, rfl⟩, ⟨rfl, rfl⟩, ⟨rfl, rfl⟩, ⟨rfl, rfl⟩, ⟨rfl, rfl⟩, ⟨rfl, rfl⟩, ⟨rfl, rfl⟩, ⟨rfl, rfl⟩, ⟨rfl, rfl⟩, ⟨rfl, rfl⟩, trivial⟩ rfl⟩
      · have hk2 : d3.length = k := by simp at h; omega
        have hb1 : IntKind.i64.wrap ((done : Int) + ((d3.map XDone.ps).length : Nat)) = ((done + d3.length : Nat) : Int) := by rw [List.length_map, wrap_ok (by omega) (by have := hJ.calls; have := hcb; omega)]; omega
        have hb2 : IntKind.i64.wrap ((ords : Int) + ((o3.map XOrder.ps).length : Nat)) = ((ords + o3.length : Nat) : Int) := by rw [List.length_map, wrap_ok (by omega) (by have := hJ.ask; have := hab; omega)]; omega
        conv => whnf
        exact ⟨(i + 1, l3, tickOn now2 1, done + d3.length, ords + o3.length), ⟨hJ, by show 400 - (i + 1) < 400 - i; omega⟩, le_mk [(0, _), (1, _), (2, _), (3, _)] rfl ⟨⟨rfl, rfl⟩, ⟨rfl, rfl⟩, ⟨rfl, rfl⟩, ⟨i64_eq hb1, rfl⟩, ⟨i64_eq hb2, rfl⟩, ⟨ctr (by omega), rfl⟩, trivial⟩ ⟨⟨rfl, rfl⟩, ⟨rfl, rfl⟩, ⟨rfl, rfl⟩, ⟨rfl, rfl⟩, trivial⟩ rfl⟩
    · have hi : i = 400 := by have := hI.lt; simp at h; omega
      subst hi
      obtain ⟨hb0, hq0⟩ := pot_zero hI.fine (by have := hI.pot; omega)
      have hc2 : done = callsN l := by have := hI.calls; simp [callsN, hb0, hq0, oneB] at this ⊢; exact this
      have ha2 : ords = askN l := by have := hI.ask; simp [askN, hb0, hq0] at this ⊢; exact this
      have hle := ask_le hok
      have ht2 := hd.tries
      have ht3 := (ok_parts hok).2.1
      have hT1 : IntKind.i64.wrap (l2.Tries + 1) = ((l.Tries.toNat + 1 : Nat) : Int) := by rw [hI.tries, wrap_ok (by omega) (by omega)]; omega
      have hml : callsN l * (l.Tries.toNat + 1) ≤ 21 * 3 := Nat.mul_le_mul hcb (by omega)
      have hT2 : IntKind.i64.wrap (((callsN l : Nat) : Int) * ((l.Tries.toNat + 1 : Nat) : Int)) = ((callsN l * (l.Tries.toNat + 1) : Nat) : Int) := by
        rw [← Int.natCast_mul]
        generalize callsN l * (l.Tries.toNat + 1) = M at *
        exact wrap_ok (by omega) (by omega)
      have e1 : (((done : Nat) : Int) == ((callsN l : Nat) : Int)) = true := by rw [hc2]; simp
      have e2 : (((l2.Queue.map XCall.ps).length : Int) == 0) = true := by rw [hq0]; rfl
      (repeat' ((conv => whnf); first | refine br_i (fun _ => ?_) (fun _ => ?_) | (refine cur_leaf rfl rfl rfl ?_ ?_; · first | assumption | omega | exact hw ‹_›) | refine leaf_i rfl rfl ?_ | refine And.intro rfl ?_ | (refine And.intro ?_ ?_; · decide)))
      · show [VV.one (PV.bool (decide ((ords : Int) ≤ IntKind.i64.wrap (((callsN l : Nat) : Int) * IntKind.i64.wrap (l2.Tries + 1)))))] = _
        rw [hT1, hT2, decide_eq_true (by generalize callsN l * (l.Tries.toNat + 1) = M at *; omega)]
        rfl
      · rename_i hx
        exact absurd (e2.symm.trans hx) (by decide)
      · rename_i hx
        rw [show (!(400, l2, now2, done, ords).snd.fst.Busy) = !l2.Busy from rfl, hb0] at hx
        cases hx
      · rename_i hx
        exact absurd (e1.symm.trans hx) (by decide)

end Go.Proofs.Ytciiiandmpjndaa
