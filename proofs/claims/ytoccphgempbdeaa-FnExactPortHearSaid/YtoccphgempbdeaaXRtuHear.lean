/- RtuWait and RtuHear: both packages' functions, and the laws. -/
import Derived.Test.YtoccphgempbdeaaXRtu
namespace Go.Proofs.Ytoccphgempbdeaa
open Go Go.Vi
set_option linter.unusedVariables false
set_option linter.unusedSimpArgs false
set_option maxRecDepth 100000
def tickB (n : Int) : Bool := inB n 0 4294967295
def tickGap (a b : Int) : Int := if tickB a && tickB b then (b - a) % 4294967296 else 0
theorem maskB (a : Int) : IntKind.i64.wrap ((BitVec.ofInt IntKind.i64.bits a &&& BitVec.ofInt IntKind.i64.bits 4294967295).toNat : Nat) = a % 4294967296 := by
  have h1 : ((4294967295 : Int) % 2 ^ 64).toNat = 2 ^ 32 - 1 := by decide
  have h : (BitVec.ofInt IntKind.i64.bits a &&& BitVec.ofInt IntKind.i64.bits 4294967295).toNat = (a % 4294967296).toNat := by
    rw [BitVec.toNat_and, BitVec.toNat_ofInt, BitVec.toNat_ofInt]
    show ((a % 2 ^ 64).toNat &&& ((4294967295 : Int) % 2 ^ 64).toNat) = _
    rw [h1, Nat.and_two_pow_sub_one_eq_mod]
    omega
  rw [h]
  exact (wrap_ok (by omega) (by omega)).trans (by omega)
theorem s_TickGap (a b : Int) : PureC Try.prog 90 [i64v a, i64v b] [i64v (tickGap a b)] := by
  refine pureC_of (Γ := lookT tbl) (il := ilist) tg dr Try.func90 rfl (by kernel_rfl) rfl (Nat.le_of_ble_eq_true rfl) ?_
  (repeat' ((conv => whnf); first | refine br_i (fun _ => ?_) (fun _ => ?_) | (refine cur_leaf rfl rfl rfl ?_ ?_; · first | assumption | omega | exact hw ‹_›) | refine leaf_i rfl rfl ?_ | refine And.intro rfl ?_ | refine call_i (s_tick _) ?_ | (refine Or.inl ?_; (conv => whnf); refine call_i (s_tick _) ?_) | (refine And.intro ?_ ?_; · decide)))
  · rename_i h; simp at h; simp [tickGap, tickB, h]; rfl
  · rename_i h h2; simp at h h2; simp [tickGap, tickB, h, h2]; rfl
  · rename_i h h2
    simp at h h2
    rw [maskB, show tickGap a b = (b - a) % 4294967296 by simp [tickGap, tickB, h, h2]]
    have hw : IntKind.i64.wrap (b - a) = b - a := by simp [inB] at h h2; exact wrap_ok (by omega) (by omega)
    rw [hw]; rfl
theorem m_TickGap (a b : Int) : PureC Try.prog 96 [i64v a, i64v b] [i64v (tickGap a b)] := by
  refine pureC_of (Γ := lookT tbl) (il := ilist) tg dr Try.func96 rfl (by kernel_rfl) rfl (Nat.le_of_ble_eq_true rfl) ?_
  (repeat' ((conv => whnf); first | refine br_i (fun _ => ?_) (fun _ => ?_) | (refine cur_leaf rfl rfl rfl ?_ ?_; · first | assumption | omega | exact hw ‹_›) | refine leaf_i rfl rfl ?_ | refine And.intro rfl ?_ | refine call_i (m_tick _) ?_ | (refine Or.inl ?_; (conv => whnf); refine call_i (m_tick _) ?_) | (refine And.intro ?_ ?_; · decide)))
  · rename_i h; simp at h; simp [tickGap, tickB, h]; rfl
  · rename_i h h2; simp at h h2; simp [tickGap, tickB, h, h2]; rfl
  · rename_i h h2
    simp at h h2
    rw [show tickGap a b = (b - a) % 4294967296 by simp [tickGap, tickB, h, h2]]
    have hw : IntKind.i64.wrap (b - a) = b - a := by simp [inB] at h h2; exact wrap_ok (by omega) (by omega)
    simp [inB] at h h2
    have hw2 : IntKind.i64.wrap (b - a + 4294967295) = b - a + 4294967295 := wrap_ok (by omega) (by omega)
    have hw3 : IntKind.i64.wrap (b - a + 4294967295 + 1) = b - a + 4294967295 + 1 := wrap_ok (by omega) (by omega)
    rw [hw, hw2, hw3, Int.tmod_eq_emod_of_nonneg (by omega), show (b - a + 4294967295 + 1) % 4294967296 = (b - a) % 4294967296 by omega]
    rfl
def rtuOk (r : XRtu) : Bool := inB r.Half 1 1000 && inB r.Whole r.Half 1000 && decide ((r.Buf.length : Int) ≤ 257) && tickB r.Last && (!r.Bad || decide ((r.Buf.length : Int) > 0))
theorem s_RtuOk (r : XRtu) : PureC Try.prog 62 [r.v] [boolv (rtuOk r)] := by
  refine pureC_of (Γ := lookT tbl) (il := ilist) tg dr Try.func62 rfl (by kernel_rfl) rfl (Nat.le_of_ble_eq_true rfl) ?_
  (repeat' ((conv => whnf); first | refine br_i (fun _ => ?_) (fun _ => ?_) | (refine cur_leaf rfl rfl rfl ?_ ?_; · first | assumption | omega | exact hw ‹_›) | refine leaf_i rfl rfl ?_ | refine And.intro rfl ?_ | refine call_i (s_in _ _ _) ?_ | (refine Or.inl ?_; (conv => whnf); refine call_i (s_in _ _ _) ?_) | refine call_i (s_tick _) ?_ | (refine Or.inl ?_; (conv => whnf); refine call_i (s_tick _) ?_) | (refine And.intro ?_ ?_; · decide)))
  all_goals (refine bool_leaf ?_; first | (simp_all [rtuOk, tickB]; done) | (simp_all [rtuOk, tickB]; omega))
theorem m_RtuOk (r : XRtu) : PureC Try.prog 74 [r.v] [boolv (rtuOk r)] := by
  refine pureC_of (Γ := lookT tbl) (il := ilist) tg dr Try.func74 rfl (by kernel_rfl) rfl (Nat.le_of_ble_eq_true rfl) ?_
  (repeat' ((conv => whnf); first | refine br_i (fun _ => ?_) (fun _ => ?_) | (refine cur_leaf rfl rfl rfl ?_ ?_; · first | assumption | omega | exact hw ‹_›) | refine leaf_i rfl rfl ?_ | refine And.intro rfl ?_ | refine call_i (m_in _ _ _) ?_ | (refine Or.inl ?_; (conv => whnf); refine call_i (m_in _ _ _) ?_) | refine call_i (m_tick _) ?_ | (refine Or.inl ?_; (conv => whnf); refine call_i (m_tick _) ?_) | (refine And.intro ?_ ?_; · decide)))
  all_goals (refine bool_leaf ?_; first | (simp_all [rtuOk, tickB]; done) | (simp_all [rtuOk, tickB]; omega))
theorem s_l6Copy (r : XRtu) (h : r.Buf.length ≤ 1048576) : PureC Try.prog 88 [r.v] [r.v] := by
  refine pureC_of (Γ := lookT tbl) (il := ilist) tg dr Try.func88 rfl (by kernel_rfl) rfl (Nat.le_of_ble_eq_true rfl) ?_
  (repeat' ((conv => whnf); first | refine br_i (fun _ => ?_) (fun _ => ?_) | (refine cur_leaf rfl rfl rfl ?_ ?_; · first | assumption | omega | exact hw ‹_›) | refine leaf_i rfl rfl ?_ | refine And.intro rfl ?_ | (refine ⟨⟨rfl, flat_byte _⟩, ?_⟩) | (refine ⟨r.Buf.map byteEl, ⟨by show (0 + (r.Buf.map byteEl).length) * 1 ≤ 140737488355328; rw [List.length_map]; omega, rfl⟩, ?_⟩) | (refine And.intro ?_ ?_; · decide)))
  all_goals rfl
theorem m_cloneRtu (r : XRtu) (h : r.Buf.length ≤ 1048576) : PureC Try.prog 94 [r.v] [r.v] := by
  refine pureC_of (Γ := lookT tbl) (il := ilist) tg dr Try.func94 rfl (by kernel_rfl) rfl (Nat.le_of_ble_eq_true rfl) ?_
  (repeat' ((conv => whnf); first | refine br_i (fun _ => ?_) (fun _ => ?_) | (refine cur_leaf rfl rfl rfl ?_ ?_; · first | assumption | omega | exact hw ‹_›) | refine leaf_i rfl rfl ?_ | refine And.intro rfl ?_ | refine call_i (m_Clone r.Buf (by omega)) ?_ | (refine Or.inl ?_; (conv => whnf); refine call_i (m_Clone r.Buf (by omega)) ?_) | (refine And.intro ?_ ?_; · decide)))
  all_goals rfl
def waitStop (r : XRtu) (t : Int) : Bool := !rtuOk r || !tickB t || decide ((r.Buf.length : Int) = 0) || decide (tickGap r.Last t < r.Whole)
def gotOf (r : XRtu) : XGot := if r.Bad then ⟨5, 0, []⟩ else ⟨(getRtu r.Buf).2.2, (getRtu r.Buf).1, (getRtu r.Buf).2.1⟩
def rtuWait (r : XRtu) (t : Int) : XRtu × List XGot := if waitStop r t then (r, []) else (⟨[], r.Last, false, r.Half, r.Whole⟩, [gotOf r])
theorem wait_stop {r : XRtu} {t : Int} (h : waitStop r t = true) : rtuWait r t = (r, []) := by simp [rtuWait, h]
theorem wait_go {r : XRtu} {t : Int} (h : waitStop r t = false) : rtuWait r t = (⟨[], r.Last, false, r.Half, r.Whole⟩, [gotOf r]) := by simp [rtuWait, h]
theorem s_RtuWait (r : XRtu) (t : Int) (hb : isBytes r.Buf) (h : r.Buf.length ≤ 1048576) : PureC Try.prog 89 [r.v, i64v t] [(rtuWait r t).1.v, XGot.sV (rtuWait r t).2] := by
  refine pureC_of (Γ := lookT tbl) (il := ilist) tg dr Try.func89 rfl (by kernel_rfl) rfl (Nat.le_of_ble_eq_true rfl) ?_
  (repeat' ((conv => whnf); first | refine br_i (fun _ => ?_) (fun _ => ?_) | (refine cur_leaf rfl rfl rfl ?_ ?_; · first | assumption | omega | exact hw ‹_›) | refine leaf_i rfl rfl ?_ | refine And.intro rfl ?_ | refine call_i (s_l6Copy r h) ?_ | (refine Or.inl ?_; (conv => whnf); refine call_i (s_l6Copy r h) ?_) | refine call_i (s_RtuOk r) ?_ | (refine Or.inl ?_; (conv => whnf); refine call_i (s_RtuOk r) ?_) | refine call_i (s_tick _) ?_ | (refine Or.inl ?_; (conv => whnf); refine call_i (s_tick _) ?_) | refine call_i (s_TickGap _ _) ?_ | (refine Or.inl ?_; (conv => whnf); refine call_i (s_TickGap _ _) ?_) | refine call_i (s_GetRtu r.Buf hb h) ?_ | (refine Or.inl ?_; (conv => whnf); refine call_i (s_GetRtu r.Buf hb h) ?_) | (refine And.intro ?_ ?_; · decide)))
  all_goals try (rw [wait_stop (by (first | (simp_all [waitStop, tickB]; done) | (simp_all [waitStop, tickB]; omega)))]; rfl)
  all_goals (rename_i hbad; rw [wait_go (by (first | (simp_all [waitStop, tickB]; done) | (simp_all [waitStop, tickB]; omega)))]; simp at hbad; rw [gotOf, hbad]; rfl)
theorem m_RtuWait (r : XRtu) (t : Int) (hb : isBytes r.Buf) (h : r.Buf.length ≤ 1048576) : PureC Try.prog 95 [r.v, i64v t] [(rtuWait r t).1.v, XGot.sV (rtuWait r t).2] := by
  refine pureC_of (Γ := lookT tbl) (il := ilist) tg dr Try.func95 rfl (by kernel_rfl) rfl (Nat.le_of_ble_eq_true rfl) ?_
  (repeat' ((conv => whnf); first | refine br_i (fun _ => ?_) (fun _ => ?_) | (refine cur_leaf rfl rfl rfl ?_ ?_; · first | assumption | omega | exact hw ‹_›) | refine leaf_i rfl rfl ?_ | refine And.intro rfl ?_ | refine call_i (m_cloneRtu r h) ?_ | (refine Or.inl ?_; (conv => whnf); refine call_i (m_cloneRtu r h) ?_) | refine call_i (m_RtuOk r) ?_ | (refine Or.inl ?_; (conv => whnf); refine call_i (m_RtuOk r) ?_) | refine call_i (m_tick _) ?_ | (refine Or.inl ?_; (conv => whnf); refine call_i (m_tick _) ?_) | refine call_i (m_TickGap _ _) ?_ | (refine Or.inl ?_; (conv => whnf); refine call_i (m_TickGap _ _) ?_) | refine call_i (m_GetRtu r.Buf hb h) ?_ | (refine Or.inl ?_; (conv => whnf); refine call_i (m_GetRtu r.Buf hb h) ?_) | (refine And.intro ?_ ?_; · decide)))
  all_goals try (rw [wait_stop (by (first | (simp_all [waitStop, tickB]; done) | (simp_all [waitStop, tickB]; omega)))]; rfl)
  all_goals (rename_i hbad; rw [wait_go (by (first | (simp_all [waitStop, tickB]; done) | (simp_all [waitStop, tickB]; omega)))]; simp at hbad; rw [gotOf, hbad]; rfl)
def gapAt (o : XRtu) (t : Int) : Bool := decide ((o.Buf.length : Int) > 0) && decide (tickGap o.Last t ≥ o.Half)
def rtuHear (r : XRtu) (b t : Int) : XRtu × List XGot :=
  if !rtuOk r || !tickB t then (r, []) else
  (⟨if ((rtuWait r t).1.Buf.length : Int) ≤ 256 then (rtuWait r t).1.Buf ++ [b] else (rtuWait r t).1.Buf, t, if gapAt (rtuWait r t).1 t then true else (rtuWait r t).1.Bad, (rtuWait r t).1.Half, (rtuWait r t).1.Whole⟩, (rtuWait r t).2)
theorem wait_half (r : XRtu) (t : Int) : (rtuWait r t).1.Half = r.Half := by unfold rtuWait; split <;> rfl
theorem wait_len (r : XRtu) (t : Int) : (rtuWait r t).1.Buf.length ≤ r.Buf.length := by unfold rtuWait; split <;> simp
theorem s_RtuHear (r : XRtu) (b t : Int) (hb : isBytes r.Buf) (h : r.Buf.length ≤ 1048576) : PureC Try.prog 49 [r.v, .one (.int .u8 b), i64v t] [(rtuHear r b t).1.v, XGot.sV (rtuHear r b t).2] := by
  refine pureC_of (Γ := lookT tbl) (il := ilist) tg dr Try.func49 rfl (by kernel_rfl) rfl (Nat.le_of_ble_eq_true rfl) ?_
  have hw := s_RtuWait r t hb h
  have hh := wait_half r t
  have hl := wait_len r t
  have stop : (!rtuOk r || !tickB t) = true → rtuHear r b t = (r, []) := by intro h; simp [rtuHear, h]
  have go : (!rtuOk r || !tickB t) = false → rtuHear r b t = (⟨if ((rtuWait r t).1.Buf.length : Int) ≤ 256 then (rtuWait r t).1.Buf ++ [b] else (rtuWait r t).1.Buf, t, if gapAt (rtuWait r t).1 t then true else (rtuWait r t).1.Bad, (rtuWait r t).1.Half, (rtuWait r t).1.Whole⟩, (rtuWait r t).2) := by intro h; simp [rtuHear, h]
  generalize rtuWait r t = R at *
  obtain ⟨o, g⟩ := R
  dsimp only at hh hl hw go
  (repeat' ((conv => whnf); first | refine br_i (fun _ => ?_) (fun _ => ?_) | (refine cur_leaf rfl rfl rfl ?_ ?_; · first | assumption | omega | exact hw ‹_›) | refine leaf_i rfl rfl ?_ | refine And.intro rfl ?_ | refine call_i (s_l6Copy r h) ?_ | (refine Or.inl ?_; (conv => whnf); refine call_i (s_l6Copy r h) ?_) | refine call_i (s_RtuOk r) ?_ | (refine Or.inl ?_; (conv => whnf); refine call_i (s_RtuOk r) ?_) | refine call_i (s_tick _) ?_ | (refine Or.inl ?_; (conv => whnf); refine call_i (s_tick _) ?_) | refine call_i (s_TickGap _ _) ?_ | (refine Or.inl ?_; (conv => whnf); refine call_i (s_TickGap _ _) ?_) | refine call_i (hw) ?_ | (refine Or.inl ?_; (conv => whnf); refine call_i (hw) ?_) | (refine ⟨⟨rfl, flat_byte [b]⟩, ?_⟩) | (refine ⟨(o.Buf ++ [b]).map byteEl, ⟨by show ((o.Buf.map byteEl).length + 1) * 1 ≤ 140737488355328; rw [List.length_map]; omega, by rw [List.map_append]; rfl⟩, ?_⟩) | (refine And.intro ?_ ?_; · decide)))
  all_goals try (rw [stop (by (first | (simp_all [tickB]; done) | (simp_all [tickB]; omega)))]; rfl)
  all_goals (rw [go (by (first | (simp_all [tickB]; done) | (simp_all [tickB]; omega)))]; cases hg : gapAt o t <;> by_cases hL : (o.Buf.length : Int) ≤ 256 <;> first | (rw [if_pos hL]; rfl) | (rw [if_neg hL]; rfl) | (exfalso; (first | (simp_all [gapAt]; done) | (simp_all [gapAt]; omega))))
theorem m_RtuHear (r : XRtu) (b t : Int) (hb : isBytes r.Buf) (h : r.Buf.length ≤ 1048576) : PureC Try.prog 55 [r.v, .one (.int .u8 b), i64v t] [(rtuHear r b t).1.v, XGot.sV (rtuHear r b t).2] := by
  refine pureC_of (Γ := lookT tbl) (il := ilist) tg dr Try.func55 rfl (by kernel_rfl) rfl (Nat.le_of_ble_eq_true rfl) ?_
  have hw := m_RtuWait r t hb h
  have hh := wait_half r t
  have hl := wait_len r t
  have stop : (!rtuOk r || !tickB t) = true → rtuHear r b t = (r, []) := by intro h; simp [rtuHear, h]
  have go : (!rtuOk r || !tickB t) = false → rtuHear r b t = (⟨if ((rtuWait r t).1.Buf.length : Int) ≤ 256 then (rtuWait r t).1.Buf ++ [b] else (rtuWait r t).1.Buf, t, if gapAt (rtuWait r t).1 t then true else (rtuWait r t).1.Bad, (rtuWait r t).1.Half, (rtuWait r t).1.Whole⟩, (rtuWait r t).2) := by intro h; simp [rtuHear, h]
  generalize rtuWait r t = R at *
  obtain ⟨o, g⟩ := R
  dsimp only at hh hl hw go
  (repeat' ((conv => whnf); first | refine br_i (fun _ => ?_) (fun _ => ?_) | (refine cur_leaf rfl rfl rfl ?_ ?_; · first | assumption | omega | exact hw ‹_›) | refine leaf_i rfl rfl ?_ | refine And.intro rfl ?_ | refine call_i (m_cloneRtu r h) ?_ | (refine Or.inl ?_; (conv => whnf); refine call_i (m_cloneRtu r h) ?_) | refine call_i (m_RtuOk r) ?_ | (refine Or.inl ?_; (conv => whnf); refine call_i (m_RtuOk r) ?_) | refine call_i (m_tick _) ?_ | (refine Or.inl ?_; (conv => whnf); refine call_i (m_tick _) ?_) | refine call_i (m_TickGap _ _) ?_ | (refine Or.inl ?_; (conv => whnf); refine call_i (m_TickGap _ _) ?_) | refine call_i (hw) ?_ | (refine Or.inl ?_; (conv => whnf); refine call_i (hw) ?_) | (refine ⟨⟨rfl, flat_byte [b]⟩, ?_⟩) | (refine ⟨(o.Buf ++ [b]).map byteEl, ⟨by show ((o.Buf.map byteEl).length + 1) * 1 ≤ 140737488355328; rw [List.length_map]; omega, by rw [List.map_append]; rfl⟩, ?_⟩) | (refine And.intro ?_ ?_; · decide)))
  all_goals try (rw [stop (by (first | (simp_all [tickB]; done) | (simp_all [tickB]; omega)))]; rfl)
  all_goals (rw [go (by (first | (simp_all [tickB]; done) | (simp_all [tickB]; omega)))]; cases hg : gapAt o t <;> by_cases hL : (o.Buf.length : Int) ≤ 256 <;> first | (rw [if_pos hL]; rfl) | (rw [if_neg hL]; rfl) | (exfalso; (first | (simp_all [gapAt]; done) | (simp_all [gapAt]; omega))))
end Go.Proofs.Ytoccphgempbdeaa
