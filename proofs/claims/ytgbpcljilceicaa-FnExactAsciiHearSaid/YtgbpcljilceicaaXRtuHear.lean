/- RtuWait and RtuHear: both packages' functions, and the laws. -/
import Derived.Test.YtgbpcljilceicaaXRtu
namespace Go.Proofs.Ytgbpcljilceicaa
open Go Go.Vi
set_option linter.unusedVariables false
set_option linter.unusedSimpArgs false
set_option maxRecDepth 100000
def tickB (n : Int) : Bool := inB n 0 4294967295
def tickGap (a b : Int) : Int := if tickB a && tickB b then (b - a) % 4294967296 else 0
theorem maskB (a : Int) : IntKind.i64.wrap ((BitVec.ofInt IntKind.i64.bits a &&& BitVec.ofInt IntKind.i64.bits 4294967295).toNat : Nat) = a % 4294967296 := by
  have h1 : ((4294967295 : Int) % 2 ^ 64).toNat = 2 ^ 32 - 1 := by decide
  have h : (BitVec.ofInt IntKind.i64.bits a &&& BitVec.ofInt IntKind.i64.bits 4294967295).toNat = (a % 4294967296).toNat := by
    rw [BitVec.toNat_and, BitVec.toNat_ofInt, BitVec.toNat_ofInt]
    show ((a % 2 ^ 64).toNat &&& ((4294967295 : Int) % 2 ^ 64).toNat) = _
    rw [h1, Nat.and_two_pow_sub_one_eq_mod]
    omega
  rw [h]
  exact (wrap_ok (by omega) (by omega)).trans (by omega)
theorem s_TickGap (a b : Int) : PureC Try.prog 95 [i64v a, i64v b] [i64v (tickGap a b)] := by
  refine pureC_of (Γ := lookT tbl) (il := ilist) tg dr Try.func95 rfl (by kernel_rfl) rfl (Nat.le_of_ble_eq_true rfl) ?_
  (repeat' ((conv => whnf); first | refine br_i (fun _ => ?_) (fun _ => ?_) | refine leaf_i rfl rfl ?_ | refine And.intro rfl ?_ | refine call_i (s_tick _) ?_ | refine Or.inl (call_i (s_tick _) ?_) | (refine And.intro ?_ ?_; · decide)))
  · rename_i h; simp at h; simp [tickGap, tickB, h]; rfl
  · rename_i h h2; simp at h h2; simp [tickGap, tickB, h, h2]; rfl
  · rename_i h h2
    simp at h h2
    rw [maskB, show tickGap a b = (b - a) % 4294967296 by simp [tickGap, tickB, h, h2]]
    have hw : IntKind.i64.wrap (b - a) = b - a := by simp [inB] at h h2; exact wrap_ok (by omega) (by omega)
    rw [hw]; rfl
theorem m_TickGap (a b : Int) : PureC Try.prog 99 [i64v a, i64v b] [i64v (tickGap a b)] := by
  refine pureC_of (Γ := lookT tbl) (il := ilist) tg dr Try.func99 rfl (by kernel_rfl) rfl (Nat.le_of_ble_eq_true rfl) ?_
  (repeat' ((conv => whnf); first | refine br_i (fun _ => ?_) (fun _ => ?_) | refine leaf_i rfl rfl ?_ | refine And.intro rfl ?_ | refine call_i (m_tick _) ?_ | refine Or.inl (call_i (m_tick _) ?_) | (refine And.intro ?_ ?_; · decide)))
  · rename_i h; simp at h; simp [tickGap, tickB, h]; rfl
  · rename_i h h2; simp at h h2; simp [tickGap, tickB, h, h2]; rfl
  · rename_i h h2
    simp at h h2
    rw [show tickGap a b = (b - a) % 4294967296 by simp [tickGap, tickB, h, h2]]
    have hw : IntKind.i64.wrap (b - a) = b - a := by simp [inB] at h h2; exact wrap_ok (by omega) (by omega)
    simp [inB] at h h2
    have hw2 : IntKind.i64.wrap (b - a + 4294967295) = b - a + 4294967295 := wrap_ok (by omega) (by omega)
    have hw3 : IntKind.i64.wrap (b - a + 4294967295 + 1) = b - a + 4294967295 + 1 := wrap_ok (by omega) (by omega)
    rw [hw, hw2, hw3, Int.tmod_eq_emod_of_nonneg (by omega), show (b - a + 4294967295 + 1) % 4294967296 = (b - a) % 4294967296 by omega]
    rfl
def rtuOk (r : XRtu) : Bool := inB r.Half 1 1000 && inB r.Whole r.Half 1000 && decide ((r.Buf.length : Int) ≤ 257) && tickB r.Last && (!r.Bad || decide ((r.Buf.length : Int) > 0))
theorem s_RtuOk (r : XRtu) : PureC Try.prog 62 [r.v] [boolv (rtuOk r)] := by
  refine pureC_of (Γ := lookT tbl) (il := ilist) tg dr Try.func62 rfl (by kernel_rfl) rfl (Nat.le_of_ble_eq_true rfl) ?_
  (repeat' ((conv => whnf); first | refine br_i (fun _ => ?_) (fun _ => ?_) | refine leaf_i rfl rfl ?_ | refine And.intro rfl ?_ | refine call_i (s_in _ _ _) ?_ | refine Or.inl (call_i (s_in _ _ _) ?_) | refine call_i (s_tick _) ?_ | refine Or.inl (call_i (s_tick _) ?_) | (refine And.intro ?_ ?_; · decide)))
  all_goals (refine bool_leaf ?_; first | (simp_all [rtuOk, tickB]; done) | (simp_all [rtuOk, tickB]; omega))
theorem m_RtuOk (r : XRtu) : PureC Try.prog 69 [r.v] [boolv (rtuOk r)] := by
  refine pureC_of (Γ := lookT tbl) (il := ilist) tg dr Try.func69 rfl (by kernel_rfl) rfl (Nat.le_of_ble_eq_true rfl) ?_
  (repeat' ((conv => whnf); first | refine br_i (fun _ => ?_) (fun _ => ?_) | refine leaf_i rfl rfl ?_ | refine And.intro rfl ?_ | refine call_i (m_in _ _ _) ?_ | refine Or.inl (call_i (m_in _ _ _) ?_) | refine call_i (m_tick _) ?_ | refine Or.inl (call_i (m_tick _) ?_) | (refine And.intro ?_ ?_; · decide)))
  all_goals (refine bool_leaf ?_; first | (simp_all [rtuOk, tickB]; done) | (simp_all [rtuOk, tickB]; omega))
theorem s_l6Copy (r : XRtu) (h : r.Buf.length ≤ 1048576) : PureC Try.prog 93 [r.v] [r.v] := by
  refine pureC_of (Γ := lookT tbl) (il := ilist) tg dr Try.func93 rfl (by kernel_rfl) rfl (Nat.le_of_ble_eq_true rfl) ?_
  (repeat' ((conv => whnf); first | refine br_i (fun _ => ?_) (fun _ => ?_) | refine leaf_i rfl rfl ?_ | refine And.intro rfl ?_ | (refine ⟨⟨rfl, flat_byte _⟩, ?_⟩) | (refine ⟨r.Buf.map byteEl, ⟨by show (0 + (r.Buf.map byteEl).length) * 1 ≤ 140737488355328; rw [List.length_map]; omega, rfl⟩, ?_⟩) | (refine And.intro ?_ ?_; · decide)))
  all_goals rfl
theorem m_cloneRtu (r : XRtu) (h : r.Buf.length ≤ 1048576) : PureC Try.prog 97 [r.v] [r.v] := by
  refine pureC_of (Γ := lookT tbl) (il := ilist) tg dr Try.func97 rfl (by kernel_rfl) rfl (Nat.le_of_ble_eq_true rfl) ?_
  (repeat' ((conv => whnf); first | refine br_i (fun _ => ?_) (fun _ => ?_) | refine leaf_i rfl rfl ?_ | refine And.intro rfl ?_ | refine call_i (m_Clone r.Buf (by omega)) ?_ | refine Or.inl (call_i (m_Clone r.Buf (by omega)) ?_) | (refine And.intro ?_ ?_; · decide)))
  all_goals rfl
def waitStop (r : XRtu) (t : Int) : Bool := !rtuOk r || !tickB t || decide ((r.Buf.length : Int) = 0) || decide (tickGap r.Last t < r.Whole)
def gotOf (r : XRtu) : XGot := if r.Bad then ⟨5, 0, []⟩ else ⟨(getRtu r.Buf).2.2, (getRtu r.Buf).1, (getRtu r.Buf).2.1⟩
def rtuWait (r : XRtu) (t : Int) : XRtu × List XGot := if waitStop r t then (r, []) else (⟨[], r.Last, false, r.Half, r.Whole⟩, [gotOf r])
theorem wait_stop {r : XRtu} {t : Int} (h : waitStop r t = true) : rtuWait r t = (r, []) := by simp [rtuWait, h]
theorem wait_go {r : XRtu} {t : Int} (h : waitStop r t = false) : rtuWait r t = (⟨[], r.Last, false, r.Half, r.Whole⟩, [gotOf r]) := by simp [rtuWait, h]
theorem s_RtuWait (r : XRtu) (t : Int) (hb : isBytes r.Buf) (h : r.Buf.length ≤ 1048576) : PureC Try.prog 39 [r.v, i64v t] [(rtuWait r t).1.v, XGot.sV (rtuWait r t).2] := by
  refine pureC_of (Γ := lookT tbl) (il := ilist) tg dr Try.func39 rfl (by kernel_rfl) rfl (Nat.le_of_ble_eq_true rfl) ?_
  (repeat' ((conv => whnf); first | refine br_i (fun _ => ?_) (fun _ => ?_) | refine leaf_i rfl rfl ?_ | refine And.intro rfl ?_ | refine call_i (s_l6Copy r h) ?_ | refine Or.inl (call_i (s_l6Copy r h) ?_) | refine call_i (s_RtuOk r) ?_ | refine Or.inl (call_i (s_RtuOk r) ?_) | refine call_i (s_tick _) ?_ | refine Or.inl (call_i (s_tick _) ?_) | refine call_i (s_TickGap _ _) ?_ | refine Or.inl (call_i (s_TickGap _ _) ?_) | refine call_i (s_GetRtu r.Buf hb h) ?_ | refine Or.inl (call_i (s_GetRtu r.Buf hb h) ?_) | (refine And.intro ?_ ?_; · decide)))
  all_goals try (rw [wait_stop (by (first | (simp_all [waitStop, tickB]; done) | (simp_all [waitStop, tickB]; omega)))]; rfl)
  all_goals (rename_i hbad; rw [wait_go (by (first | (simp_all [waitStop, tickB]; done) | (simp_all [waitStop, tickB]; omega)))]; simp at hbad; rw [gotOf, hbad]; rfl)
theorem m_RtuWait (r : XRtu) (t : Int) (hb : isBytes r.Buf) (h : r.Buf.length ≤ 1048576) : PureC Try.prog 41 [r.v, i64v t] [(rtuWait r t).1.v, XGot.sV (rtuWait r t).2] := by
  refine pureC_of (Γ := lookT tbl) (il := ilist) tg dr Try.func41 rfl (by kernel_rfl) rfl (Nat.le_of_ble_eq_true rfl) ?_
  (repeat' ((conv => whnf); first | refine br_i (fun _ => ?_) (fun _ => ?_) | refine leaf_i rfl rfl ?_ | refine And.intro rfl ?_ | refine call_i (m_cloneRtu r h) ?_ | refine Or.inl (call_i (m_cloneRtu r h) ?_) | refine call_i (m_RtuOk r) ?_ | refine Or.inl (call_i (m_RtuOk r) ?_) | refine call_i (m_tick _) ?_ | refine Or.inl (call_i (m_tick _) ?_) | refine call_i (m_TickGap _ _) ?_ | refine Or.inl (call_i (m_TickGap _ _) ?_) | refine call_i (m_GetRtu r.Buf hb h) ?_ | refine Or.inl (call_i (m_GetRtu r.Buf hb h) ?_) | (refine And.intro ?_ ?_; · decide)))
  all_goals try (rw [wait_stop (by (first | (simp_all [waitStop, tickB]; done) | (simp_all [waitStop, tickB]; omega)))]; rfl)
  all_goals (rename_i hbad; rw [wait_go (by (first | (simp_all [waitStop, tickB]; done) | (simp_all [waitStop, tickB]; omega)))]; simp at hbad; rw [gotOf, hbad]; rfl)
def gapAt (o : XRtu) (t : Int) : Bool := decide ((o.Buf.length : Int) > 0) && decide (tickGap o.Last t ≥ o.Half)
def rtuHear (r : XRtu) (b t : Int) : XRtu × List XGot :=
  if !rtuOk r || !tickB t then (r, []) else
  (⟨if ((rtuWait r t).1.Buf.length : Int) ≤ 256 then (rtuWait r t).1.Buf ++ [b] else (rtuWait r t).1.Buf, t, if gapAt (rtuWait r t).1 t then true else (rtuWait r t).1.Bad, (rtuWait r t).1.Half, (rtuWait r t).1.Whole⟩, (rtuWait r t).2)
theorem wait_half (r : XRtu) (t : Int) : (rtuWait r t).1.Half = r.Half := by unfold rtuWait; split <;> rfl
theorem wait_len (r : XRtu) (t : Int) : (rtuWait r t).1.Buf.length ≤ r.Buf.length := by unfold rtuWait; split <;> simp
theorem s_RtuHear (r : XRtu) (b t : Int) (hb : isBytes r.Buf) (h : r.Buf.length ≤ 1048576) : PureC Try.prog 48 [r.v, .one (.int .u8 b), i64v t] [(rtuHear r b t).1.v, XGot.sV (rtuHear r b t).2] := by
  refine pureC_of (Γ := lookT tbl) (il := ilist) tg dr Try.func48 rfl (by kernel_rfl) rfl (Nat.le_of_ble_eq_true rfl) ?_
  have hw := s_RtuWait r t hb h
  have hh := wait_half r t
  have hl := wait_len r t
  have stop : (!rtuOk r || !tickB t) = true → rtuHear r b t = (r, []) := by intro h; simp [rtuHear, h]
  have go : (!rtuOk r || !tickB t) = false → rtuHear r b t = (⟨if ((rtuWait r t).1.Buf.length : Int) ≤ 256 then (rtuWait r t).1.Buf ++ [b] else (rtuWait r t).1.Buf, t, if gapAt (rtuWait r t).1 t then true else (rtuWait r t).1.Bad, (rtuWait r t).1.Half, (rtuWait r t).1.Whole⟩, (rtuWait r t).2) := by intro h; simp [rtuHear, h]
  generalize rtuWait r t = R at *
  obtain ⟨o, g⟩ := R
  dsimp only at hh hl hw go
  (repeat' ((conv => whnf); first | refine br_i (fun _ => ?_) (fun _ => ?_) | refine leaf_i rfl rfl ?_ | refine And.intro rfl ?_ | refine call_i (s_l6Copy r h) ?_ | refine Or.inl (call_i (s_l6Copy r h) ?_) | refine call_i (s_RtuOk r) ?_ | refine Or.inl (call_i (s_RtuOk r) ?_) | refine call_i (s_tick _) ?_ | refine Or.inl (call_i (s_tick _) ?_) | refine call_i (s_TickGap _ _) ?_ | refine Or.inl (call_i (s_TickGap _ _) ?_) | refine call_i (hw) ?_ | refine Or.inl (call_i (hw) ?_) | (refine ⟨⟨rfl, flat_byte [b]⟩, ?_⟩) | (refine ⟨(o.Buf ++ [b]).map byteEl, ⟨by show ((o.Buf.map byteEl).length + 1) * 1 ≤ 140737488355328; rw [List.length_map]; omega, by rw [List.map_append]; rfl⟩, ?_⟩) | (refine And.intro ?_ ?_; · decide)))
  all_goals try (rw [stop (by (first | (simp_all [tickB]; done) | (simp_all [tickB]; omega)))]; rfl)
  all_goals (rw [go (by (first | (simp_all [tickB]; done) | (simp_all [tickB]; omega)))]; cases hg : gapAt o t <;> by_cases hL : (o.Buf.length : Int) ≤ 256 <;> first | (rw [if_pos hL]; rfl) | (rw [if_neg hL]; rfl) | (exfalso; (first | (simp_all [gapAt]; done) | (simp_all [gapAt]; omega))))
theorem m_RtuHear (r : XRtu) (b t : Int) (hb : isBytes r.Buf) (h : r.Buf.length ≤ 1048576) : PureC Try.prog 49 [r.v, .one (.int .u8 b), i64v t] [(rtuHear r b t).1.v, XGot.sV (rtuHear r b t).2] := by
  refine pureC_of (Γ := lookT tbl) (il := ilist) tg dr Try.func49 rfl (by kernel_rfl) rfl (Nat.le_of_ble_eq_true rfl) ?_
  have hw := m_RtuWait r t hb h
  have hh := wait_half r t
  have hl := wait_len r t
  have stop : (!rtuOk r || !tickB t) = true → rtuHear r b t = (r, []) := by intro h; simp [rtuHear, h]
  have go : (!rtuOk r || !tickB t) = false → rtuHear r b t = (⟨if ((rtuWait r t).1.Buf.length : Int) ≤ 256 then (rtuWait r t).1.Buf ++ [b] else (rtuWait r t).1.Buf, t, if gapAt (rtuWait r t).1 t then true else (rtuWait r t).1.Bad, (rtuWait r t).1.Half, (rtuWait r t).1.Whole⟩, (rtuWait r t).2) := by intro h; simp [rtuHear, h]
  generalize rtuWait r t = R at *
  obtain ⟨o, g⟩ := R
  dsimp only at hh hl hw go
  (repeat' ((conv => whnf); first | refine br_i (fun _ => ?_) (fun _ => ?_) | refine leaf_i rfl rfl ?_ | refine And.intro rfl ?_ | refine call_i (m_cloneRtu r h) ?_ | refine Or.inl (call_i (m_cloneRtu r h) ?_) | refine call_i (m_RtuOk r) ?_ | refine Or.inl (call_i (m_RtuOk r) ?_) | refine call_i (m_tick _) ?_ | refine Or.inl (call_i (m_tick _) ?_) | refine call_i (m_TickGap _ _) ?_ | refine Or.inl (call_i (m_TickGap _ _) ?_) | refine call_i (hw) ?_ | refine Or.inl (call_i (hw) ?_) | (refine ⟨⟨rfl, flat_byte [b]⟩, ?_⟩) | (refine ⟨(o.Buf ++ [b]).map byteEl, ⟨by show ((o.Buf.map byteEl).length + 1) * 1 ≤ 140737488355328; rw [List.length_map]; omega, by rw [List.map_append]; rfl⟩, ?_⟩) | (refine And.intro ?_ ?_; · decide)))
  all_goals try (rw [stop (by (first | (simp_all [tickB]; done) | (simp_all [tickB]; omega)))]; rfl)
  all_goals (rw [go (by (first | (simp_all [tickB]; done) | (simp_all [tickB]; omega)))]; cases hg : gapAt o t <;> by_cases hL : (o.Buf.length : Int) ≤ 256 <;> first | (rw [if_pos hL]; rfl) | (rw [if_neg hL]; rfl) | (exfalso; (first | (simp_all [gapAt]; done) | (simp_all [gapAt]; omega))))
theorem wait_size (r : XRtu) (t : Int) : (rtuWait r t).1.sc + sumF XGot.mc (rtuWait r t).2 ≤ r.Buf.length + 2 := by
  have hg : XGot.mc (gotOf r) ≤ r.Buf.length + 2 := by
    unfold gotOf
    split
    · simp [XGot.mc]
    · simp only [XGot.mc, getRtu]
      split
      · simp
      split
      · simp
      split
      · have := cutL_len r.Buf 1 ((r.Buf.length : Int) - 2) (by omega)
        simp only
        omega
      · simp
  unfold rtuWait
  split
  · simp [XRtu.sc, sumF]
  · simp [XRtu.sc, sumF]; omega
theorem law_FnExactRtuWait (x : XRtu) (hx : x.Ok) (t : Int) (_ : (Lit.int .i64 t).wf = true) : PureC Try.prog 7 [x.v, i64v t] [boolv true] := by
  refine pureC_deep (Γ := lookT tbl) (il := ilist) tg drD Try.func7 rfl (by kernel_rfl) rfl (Nat.le_of_ble_eq_true rfl) rfl ?_
  conv => whnf
  refine Or.inl ?_
  conv => whnf
  refine call_i (szRtu x 1048576 (by decide) (by decide)) ?_
  conv => whnf
  refine br_i (fun h => ?_) (fun h => ?_)
  · conv => whnf
  have ht : x.tot ≤ 1048576 := by have := sub_nn (dge h); omega
  have hB : x.Buf.length ≤ 1048576 := ht
  clear h
  have hb : isBytes x.Buf := fun q hq => wf_u8 (hx.1 q hq)
  have hs := s_RtuWait x t hb hB
  have hm := m_RtuWait x t hb hB
  have e1 : PureC Try.prog 42 [x.v, x.v] [boolv true] := by simpa using eqRtu x x
  have hsz := wait_size x t
  generalize rtuWait x t = R at *
  obtain ⟨g, l⟩ := R
  dsimp only at hs hm hsz
  have e3 : PureC Try.prog 42 [g.v, g.v] [boolv true] := by simpa using eqRtu g g
  have e4 : PureC Try.prog 43 [XGot.sV l, XGot.sV l] [boolv true] := by simpa using eqGotS l l
  have hsx : x.sc = x.Buf.length := by simp [XRtu.sc]
  obtain ⟨a1, A1, B1⟩ := mkRtu x 1 (by decide) (by omega)
  obtain ⟨a3, A3, B3⟩ := mkRtu g 1 (by decide) (by omega)
  obtain ⟨a4, A4, B4⟩ := mkGotS l (1 + g.sc) (by omega) (by omega)
  (repeat' ((conv => whnf); first | exact rfl | (refine br_i ?_ ?_; (· (intro h; exfalso; first | (simp at h; done) | (have := dlt h; omega))); intro _) | (refine br_i ?_ ?_; rotate_left; (· (intro h; exfalso; simp at h; done)); intro _) | refine br_i (fun _ => ?_) (fun _ => ?_) | refine And.intro rfl ?_ | (refine Or.inl ?_; (conv => whnf); refine call_i (hs) ?_) | (refine Or.inl ?_; (conv => whnf); refine call_i (hm) ?_) | (refine Or.inl ?_; (conv => whnf); refine call_i (toRtu x ht) ?_) | (refine Or.inl ?_; (conv => whnf); refine call_i (e1) ?_) | (refine Or.inl ?_; (conv => whnf); refine call_i (e3) ?_) | (refine Or.inl ?_; (conv => whnf); refine call_i (e4) ?_) | refine mark_i A1 rfl ?_ | refine mark_i A3 rfl ?_ | refine mark_i A4 rfl ?_ | (refine Or.inl ?_; (conv => whnf); refine call_i (B3) ?_) | (refine Or.inl ?_; (conv => whnf); refine call_i (B4) ?_) | (refine And.intro ?_ ?_; · decide)); all_goals (try (conv => whnf)))
theorem hear_sizeR (r : XRtu) (b t : Int) : (rtuHear r b t).1.sc + sumF XGot.mc (rtuHear r b t).2 ≤ r.Buf.length + 3 := by
  have := wait_size r t
  simp only [XRtu.sc] at this
  unfold rtuHear
  split
  · simp [XRtu.sc, sumF]
  · simp only [XRtu.sc]
    split
    · rw [List.length_append]; simp; omega
    · omega
theorem law_FnExactRtuHear (x : XRtu) (hx : x.Ok) (b : Int) (_ : (Lit.int .u8 b).wf = true) (t : Int) (_ : (Lit.int .i64 t).wf = true) : PureC Try.prog 8 [x.v, .one (.int .u8 b), i64v t] [boolv true] := by
  refine pureC_deep (Γ := lookT tbl) (il := ilist) tg drD Try.func8 rfl (by kernel_rfl) rfl (Nat.le_of_ble_eq_true rfl) rfl ?_
  conv => whnf
  refine Or.inl ?_
  conv => whnf
  refine call_i (szRtu x 1048576 (by decide) (by decide)) ?_
  conv => whnf
  refine br_i (fun h => ?_) (fun h => ?_)
  · conv => whnf
  have ht : x.tot ≤ 1048576 := by have := sub_nn (dge h); omega
  have hB : x.Buf.length ≤ 1048576 := ht
  clear h
  have hb : isBytes x.Buf := fun q hq => wf_u8 (hx.1 q hq)
  have hs := s_RtuHear x b t hb hB
  have hm := m_RtuHear x b t hb hB
  have e1 : PureC Try.prog 42 [x.v, x.v] [boolv true] := by simpa using eqRtu x x
  have hsz := hear_sizeR x b t
  generalize rtuHear x b t = R at *
  obtain ⟨g, l⟩ := R
  dsimp only at hs hm hsz
  have e3 : PureC Try.prog 42 [g.v, g.v] [boolv true] := by simpa using eqRtu g g
  have e4 : PureC Try.prog 43 [XGot.sV l, XGot.sV l] [boolv true] := by simpa using eqGotS l l
  have hsx : x.sc = x.Buf.length := by simp [XRtu.sc]
  obtain ⟨a1, A1, B1⟩ := mkRtu x 1 (by decide) (by omega)
  obtain ⟨a3, A3, B3⟩ := mkRtu g 1 (by decide) (by omega)
  obtain ⟨a4, A4, B4⟩ := mkGotS l (1 + g.sc) (by omega) (by omega)
  (repeat' ((conv => whnf); first | exact rfl | (refine br_i ?_ ?_; (· (intro h; exfalso; first | (simp at h; done) | (have := dlt h; omega))); intro _) | (refine br_i ?_ ?_; rotate_left; (· (intro h; exfalso; simp at h; done)); intro _) | refine br_i (fun _ => ?_) (fun _ => ?_) | refine And.intro rfl ?_ | (refine Or.inl ?_; (conv => whnf); refine call_i (hs) ?_) | (refine Or.inl ?_; (conv => whnf); refine call_i (hm) ?_) | (refine Or.inl ?_; (conv => whnf); refine call_i (toRtu x ht) ?_) | (refine Or.inl ?_; (conv => whnf); refine call_i (e1) ?_) | (refine Or.inl ?_; (conv => whnf); refine call_i (e3) ?_) | (refine Or.inl ?_; (conv => whnf); refine call_i (e4) ?_) | refine mark_i A1 rfl ?_ | refine mark_i A3 rfl ?_ | refine mark_i A4 rfl ?_ | (refine Or.inl ?_; (conv => whnf); refine call_i (B3) ?_) | (refine Or.inl ?_; (conv => whnf); refine call_i (B4) ?_) | (refine And.intro ?_ ?_; · decide)); all_goals (try (conv => whnf)))

end Go.Proofs.Ytgbpcljilceicaa
