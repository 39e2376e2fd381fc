/- Parts of a question. -/
import Derived.Test.YtdgmaaiijkoedaaXRules
namespace Go.Proofs.Ytdgmaaiijkoedaa
open Go Go.Vi
set_option linter.unusedVariables false
set_option linter.unusedSimpArgs false
set_option maxRecDepth 100000
inductive ReqIs (q : XReq) : Prop
  | rc (hk : q.Kind = 1 ∨ q.Kind = 2) (hN : 1 ≤ q.N ∧ q.N ≤ 2000 ∧ q.At + q.N ≤ 65536) (hW : q.Words = []) (hB : q.Bits = []) (hA : q.WAt = 0)
  | rw (hk : q.Kind = 3 ∨ q.Kind = 4) (hN : 1 ≤ q.N ∧ q.N ≤ 125 ∧ q.At + q.N ≤ 65536) (hW : q.Words = []) (hB : q.Bits = []) (hA : q.WAt = 0)
  | wc (hk : q.Kind = 5) (hN : q.N = 0) (hW : q.Words = []) (hB : q.Bits.length = 1) (hA : q.WAt = 0)
  | ww (hk : q.Kind = 6) (hN : q.N = 0) (hW : q.Words.length = 1) (hB : q.Bits = []) (hA : q.WAt = 0)
  | wcs (hk : q.Kind = 15) (hN : q.N = 0) (hW : q.Words = []) (hB : 1 ≤ q.Bits.length ∧ q.Bits.length ≤ 1968 ∧ q.At + q.Bits.length ≤ 65536) (hA : q.WAt = 0)
  | wws (hk : q.Kind = 16) (hN : q.N = 0) (hW : 1 ≤ q.Words.length ∧ q.Words.length ≤ 123 ∧ q.At + q.Words.length ≤ 65536) (hB : q.Bits = []) (hA : q.WAt = 0)
  | mw (hk : q.Kind = 22) (hN : q.N = 0) (hW : q.Words.length = 2) (hB : q.Bits = []) (hA : q.WAt = 0)
  | rwr (hk : q.Kind = 23) (hN : 1 ≤ q.N ∧ q.N ≤ 125 ∧ q.At + q.N ≤ 65536) (hW : 1 ≤ q.Words.length ∧ q.Words.length ≤ 121 ∧ q.WAt + q.Words.length ≤ 65536) (hB : q.Bits = []) (hA : 0 ≤ q.WAt ∧ q.WAt ≤ 65535)
theorem fits_iff {a n : Int} (h : 0 ≤ a) (h4 : a ≤ 65535) (h2 : 0 ≤ n) (h3 : n ≤ 100000) : fitsB a n = true ↔ a + n ≤ 65536 := by
  unfold fitsB wrap64
  rw [wrap_ok (by omega) (by omega)]
  simp [inB]; omega
theorem req_is {q : XReq} (h : specReq q = true) : (0 ≤ q.At ∧ q.At ≤ 65535) ∧ (∀ x ∈ q.Words, 0 ≤ x ∧ x < 65536) ∧ ReqIs q := by
  unfold specReq at h
  split at h
  · cases h
  rename_i h0
  have hA : 0 ≤ q.At ∧ q.At ≤ 65535 := by simp [inB] at h0; omega
  have hw : ∀ x ∈ q.Words, 0 ≤ x ∧ x < 65536 := by
    simp [word, inB] at h0
    intro x hx
    have := h0.1 x hx
    omega
  refine ⟨hA, hw, ?_⟩
  clear h0
  have ln : ∀ {α : Type} {l : List α}, l.length = 0 → l = [] := fun h => List.length_eq_zero_iff.1 h
  split at h
  · rename_i hk
    simp only [zeroB, inB, Bool.and_eq_true, Bool.or_eq_true, decide_eq_true_eq, Bool.true_or, Bool.false_or, Bool.true_and] at h
    obtain ⟨⟨⟨⟨h1, h2⟩, h3⟩, h4, h5⟩, h6⟩ := h
    exact .rc hk ⟨by omega, by omega, (fits_iff hA.1 hA.2 (by omega) (by omega)).1 h6⟩ (ln (by omega)) (ln (by omega)) h3
  split at h
  · rename_i hk
    simp only [zeroB, inB, Bool.and_eq_true, Bool.or_eq_true, decide_eq_true_eq, Bool.true_or, Bool.false_or, Bool.true_and] at h
    obtain ⟨⟨⟨⟨h1, h2⟩, h3⟩, h4, h5⟩, h6⟩ := h
    exact .rw hk ⟨by omega, by omega, (fits_iff hA.1 hA.2 (by omega) (by omega)).1 h6⟩ (ln (by omega)) (ln (by omega)) h3
  split at h
  · rename_i hk
    simp only [zeroB, inB, Bool.and_eq_true, Bool.or_eq_true, decide_eq_true_eq, Bool.true_or, Bool.false_or, Bool.true_and, Bool.and_true] at h
    obtain ⟨⟨⟨h1, h2⟩, h3⟩, h4⟩ := h
    exact .wc hk h1 (ln (by omega)) (by omega) h3
  split at h
  · rename_i hk
    simp only [zeroB, inB, Bool.and_eq_true, Bool.or_eq_true, decide_eq_true_eq, Bool.true_or, Bool.false_or, Bool.true_and, Bool.and_true] at h
    obtain ⟨⟨⟨h1, h2⟩, h3⟩, h4⟩ := h
    exact .ww hk h1 (by omega) (ln (by omega)) h3
  split at h
  · rename_i hk
    simp only [zeroB, inB, Bool.and_eq_true, Bool.or_eq_true, decide_eq_true_eq, Bool.true_or, Bool.false_or, Bool.true_and, Bool.and_true] at h
    obtain ⟨⟨⟨⟨h1, h2⟩, h3⟩, h4, h5⟩, h6⟩ := h
    exact .wcs hk h1 (ln (by omega)) ⟨by omega, by omega, (fits_iff hA.1 hA.2 (by omega) (by omega)).1 h6⟩ h3
  split at h
  · rename_i hk
    simp only [zeroB, inB, Bool.and_eq_true, Bool.or_eq_true, decide_eq_true_eq, Bool.true_or, Bool.false_or, Bool.true_and, Bool.and_true] at h
    obtain ⟨⟨⟨⟨h1, h2⟩, h3⟩, h4, h5⟩, h6⟩ := h
    exact .wws hk h1 ⟨by omega, by omega, (fits_iff hA.1 hA.2 (by omega) (by omega)).1 h6⟩ (ln (by omega)) h3
  split at h
  · rename_i hk
    simp only [zeroB, inB, Bool.and_eq_true, Bool.or_eq_true, decide_eq_true_eq, Bool.true_or, Bool.false_or, Bool.true_and, Bool.and_true] at h
    obtain ⟨⟨⟨h1, h2⟩, h3⟩, h4⟩ := h
    exact .mw hk h1 (by omega) (ln (by omega)) h3
  split at h
  · rename_i hk
    simp only [zeroB, inB, Bool.and_eq_true, Bool.or_eq_true, decide_eq_true_eq, Bool.true_or, Bool.false_or, Bool.true_and, Bool.and_true] at h
    obtain ⟨⟨⟨⟨h1, h2, h3⟩, h4⟩, h5, h6⟩, h7⟩ := h
    have hWA : 0 ≤ q.WAt ∧ q.WAt ≤ 65535 := by unfold fitsB inB at h7; simp at h7; omega
    exact .rwr hk ⟨by omega, by omega, (fits_iff hA.1 hA.2 (by omega) (by omega)).1 h4⟩ ⟨by omega, by omega, (fits_iff hWA.1 hWA.2 (by omega) (by omega)).1 h7⟩ (ln (by omega)) hWA
  · cases h
def spOf (k : Int) : Int := if k = 1 ∨ k = 5 ∨ k = 15 then 0 else if k = 2 then 1 else if k = 4 then 3 else 2
def cntOf (q : XReq) : Int := if q.N ≠ 0 then q.N else if q.Kind = 22 then 1 else ((q.Words.length + q.Bits.length : Nat) : Int)
def spaces (q : XReq) : Int × Int × Int := if specReq q then (spOf q.Kind, q.At, cntOf q) else (-1, 0, 0)
theorem written_eq {q : XReq} (h : ReqIs q) : writtenF q = if q.Kind = 22 then 1 else ((q.Words.length + q.Bits.length : Nat) : Int) := by
  unfold writtenF wrap64
  have hl : q.Words.length + q.Bits.length ≤ 10000 := by
    cases h <;> simp_all <;> omega
  rw [wrap_ok (by omega) (by omega)]
  split <;> omega
theorem m_Spaces (q : XReq) : PureC Try.prog 15 [q.v] [i64v (spaces q).1, i64v (spaces q).2.1, i64v (spaces q).2.2] := by
  refine pureC_of (Γ := lookT tbl) (il := ilist) tg dr Try.func15 rfl (by kernel_rfl) rfl (Nat.le_of_ble_eq_true rfl) ?_
  have hR := m_ReqOk q
  rw [implReq_eq] at hR
  cases h : specReq q with
  | false =>
    rw [h] at hR
    unfold spaces
    rw [h]
    (repeat' ((conv => whnf); first | refine br_i (fun _ => ?_) (fun _ => ?_) | (refine cur_leaf rfl rfl rfl ?_ ?_; · first | assumption | omega | exact hw ‹_›) | refine leaf_i rfl rfl ?_ | refine And.intro rfl ?_ | refine call_i (hR) ?_ | refine Or.inl (call_i (hR) ?_) | (refine And.intro ?_ ?_; · decide)))
    all_goals rfl
  | true =>
    rw [h] at hR
    unfold spaces
    rw [h]
    obtain ⟨hA, _, hq⟩ := req_is h
    have hw := m_written q
    rw [written_eq hq] at hw
    clear h
    obtain ⟨K, A, N, W, B, WA⟩ := q
    cases hq <;> rename_i hk hN hW hB hX <;> dsimp only at hk hN hW hB hX hw <;> try subst hN
    case rc => rcases hk with rfl | rfl <;> ((repeat' ((conv => whnf); first | refine br_i (fun _ => ?_) (fun _ => ?_) | (refine cur_leaf rfl rfl rfl ?_ ?_; · first | assumption | omega | exact hw ‹_›) | refine leaf_i rfl rfl ?_ | refine And.intro rfl ?_ | refine call_i (hR) ?_ | refine Or.inl (call_i (hR) ?_) | refine call_i (hw) ?_ | refine Or.inl (call_i (hw) ?_) | (refine And.intro ?_ ?_; · decide))); all_goals first | (exfalso; simp_all; done) | (simp [spOf, cntOf, i64v]; try omega))
    case rw => rcases hk with rfl | rfl <;> ((repeat' ((conv => whnf); first | refine br_i (fun _ => ?_) (fun _ => ?_) | (refine cur_leaf rfl rfl rfl ?_ ?_; · first | assumption | omega | exact hw ‹_›) | refine leaf_i rfl rfl ?_ | refine And.intro rfl ?_ | refine call_i (hR) ?_ | refine Or.inl (call_i (hR) ?_) | refine call_i (hw) ?_ | refine Or.inl (call_i (hw) ?_) | (refine And.intro ?_ ?_; · decide))); all_goals first | (exfalso; simp_all; done) | (simp [spOf, cntOf, i64v]; try omega))
    case rwr => subst hk; ((repeat' ((conv => whnf); first | refine br_i (fun _ => ?_) (fun _ => ?_) | (refine cur_leaf rfl rfl rfl ?_ ?_; · first | assumption | omega | exact hw ‹_›) | refine leaf_i rfl rfl ?_ | refine And.intro rfl ?_ | refine call_i (hR) ?_ | refine Or.inl (call_i (hR) ?_) | refine call_i (hw) ?_ | refine Or.inl (call_i (hw) ?_) | (refine And.intro ?_ ?_; · decide))); all_goals first | (exfalso; simp_all; done) | (simp [spOf, cntOf, i64v]; try omega))
    all_goals (subst hk; ((repeat' ((conv => whnf); first | refine br_i (fun _ => ?_) (fun _ => ?_) | (refine cur_leaf rfl rfl rfl ?_ ?_; · first | assumption | omega | exact hw ‹_›) | refine leaf_i rfl rfl ?_ | refine And.intro rfl ?_ | refine call_i (hR) ?_ | refine Or.inl (call_i (hR) ?_) | refine call_i (hw) ?_ | refine Or.inl (call_i (hw) ?_) | (refine And.intro ?_ ?_; · decide)))); all_goals first | (exfalso; simp_all; done) | (simp [spOf, cntOf, i64v]; done) | (simp [spOf, cntOf, i64v]; omega))
theorem s_Spaces (q : XReq) : PureC Try.prog 48 [q.v] [i64v (spaces q).1, i64v (spaces q).2.1, i64v (spaces q).2.2] := by
  refine pureC_of (Γ := lookT tbl) (il := ilist) tg dr Try.func48 rfl (by kernel_rfl) rfl (Nat.le_of_ble_eq_true rfl) ?_
  have hR := s_ReqOk q
  cases h : specReq q with
  | false =>
    rw [h] at hR
    unfold spaces
    rw [h]
    (repeat' ((conv => whnf); first | refine br_i (fun _ => ?_) (fun _ => ?_) | (refine cur_leaf rfl rfl rfl ?_ ?_; · first | assumption | omega | exact hw ‹_›) | refine leaf_i rfl rfl ?_ | refine And.intro rfl ?_ | refine call_i (hR) ?_ | refine Or.inl (call_i (hR) ?_) | (refine And.intro ?_ ?_; · decide)))
    all_goals rfl
  | true =>
    rw [h] at hR
    unfold spaces
    rw [h]
    obtain ⟨hA, _, hq⟩ := req_is h
    clear h
    obtain ⟨K, A, N, W, B, WA⟩ := q
    cases hq <;> rename_i hk hN hW hB hX <;> dsimp only at hk hN hW hB hX
    case rc => rcases hk with rfl | rfl <;> ((repeat' ((conv => whnf); first | refine br_i (fun _ => ?_) (fun _ => ?_) | (refine cur_leaf rfl rfl rfl ?_ ?_; · first | assumption | omega | exact hw ‹_›) | refine leaf_i rfl rfl ?_ | refine And.intro rfl ?_ | refine call_i (hR) ?_ | refine Or.inl (call_i (hR) ?_) | (refine And.intro ?_ ?_; · decide))); all_goals (simp [spOf, cntOf, i64v]; try omega))
    case rw => rcases hk with rfl | rfl <;> ((repeat' ((conv => whnf); first | refine br_i (fun _ => ?_) (fun _ => ?_) | (refine cur_leaf rfl rfl rfl ?_ ?_; · first | assumption | omega | exact hw ‹_›) | refine leaf_i rfl rfl ?_ | refine And.intro rfl ?_ | refine call_i (hR) ?_ | refine Or.inl (call_i (hR) ?_) | (refine And.intro ?_ ?_; · decide))); all_goals (simp [spOf, cntOf, i64v]; try omega))
    case rwr => subst hk; ((repeat' ((conv => whnf); first | refine br_i (fun _ => ?_) (fun _ => ?_) | (refine cur_leaf rfl rfl rfl ?_ ?_; · first | assumption | omega | exact hw ‹_›) | refine leaf_i rfl rfl ?_ | refine And.intro rfl ?_ | refine call_i (hR) ?_ | refine Or.inl (call_i (hR) ?_) | (refine And.intro ?_ ?_; · decide))); all_goals (simp [spOf, cntOf, i64v]; try omega))
    all_goals (subst hk; ((repeat' ((conv => whnf); first | refine br_i (fun _ => ?_) (fun _ => ?_) | (refine cur_leaf rfl rfl rfl ?_ ?_; · first | assumption | omega | exact hw ‹_›) | refine leaf_i rfl rfl ?_ | refine And.intro rfl ?_ | refine call_i (hR) ?_ | refine Or.inl (call_i (hR) ?_) | (refine And.intro ?_ ?_; · decide)))); all_goals (simp [spOf, cntOf, i64v, hN, hW, hB]))
/-- A question about some of another one's places. -/
def pieceOf (q : XReq) (f n s : Int) : XReq := ⟨q.Kind, wrap64 (wrap64 (q.At + f) + s), if q.N > 0 then n else 0, if q.Kind = 22 then q.Words else cutL q.Words f (f + n), cutL q.Bits f (f + n), 0⟩
theorem cut_nil {α : Type} (f n : Int) : cutL ([] : List α) f n = [] := by simp [cutL]
theorem cut_bound {α : Type} (l : List α) (a b : Int) : (cutL l a b).length ≤ l.length := by
  unfold cutL
  rw [List.length_drop, List.length_take]
  omega
theorem len_no {α : Type} {f : α → List PV} {l : List α} (h0 : 0 < l.length) (h : decide (((l.map f).length : Int) > 0) = false) : False := by
  rw [List.length_map] at h
  have := of_decide_eq_false h
  omega
theorem m_piece (q : XReq) (h : specReq q = true) (hk : q.Kind ≠ 23) (f n s : Int) (hf : 0 ≤ f) (hn : 1 ≤ n) (hfn : f + n ≤ cntOf q) : PureC Try.prog 43 [q.v, i64v f, i64v n, i64v s] [(pieceOf q f n s).v] := by
  refine pureC_of (Γ := lookT tbl) (il := ilist) tg dr Try.func43 rfl (by kernel_rfl) rfl (Nat.le_of_ble_eq_true rfl) ?_
  obtain ⟨hA, _, hq⟩ := req_is h
  clear h
  obtain ⟨K, A, N, W, B, WA⟩ := q
  have e1 : f + n ≤ 100000 → IntKind.i64.wrap (f + n) = f + n := fun h => wrap_ok (by omega) (by omega)
  have bits : ∀ {K : Int}, K ≠ 22 → 1 ≤ B.length → B.length ≤ 1968 → f + n ≤ B.length → PureC Try.prog 77 [boolsV (cutL B f (f + n))] [boolsV (cutL B f (f + n))] ∧ IntKind.i64.wrap (f + n) = f + n := fun _ h1 h2 h3 => ⟨m_CloneB _ (by have := cut_bound B f (f + n); omega), e1 (by omega)⟩
  have wrds : W.length ≤ 1968 → f + n ≤ W.length → PureC Try.prog 76 [intsV (cutL W f (f + n))] [intsV (cutL W f (f + n))] ∧ IntKind.i64.wrap (f + n) = f + n := fun h2 h3 => ⟨m_CloneI _ (by have := cut_bound W f (f + n); omega), e1 (by omega)⟩
  have rd : ∀ {K N : Int}, K ≠ 22 → 1 ≤ N → pieceOf ⟨K, A, N, [], [], WA⟩ f n s = ⟨K, wrap64 (wrap64 (A + f) + s), n, [], [], 0⟩ := fun h1 h2 => by
    unfold pieceOf
    dsimp only
    rw [if_pos (show _ > (0 : Int) by omega), if_neg h1, cut_nil, cut_nil]
  have hk23 : K ≠ 23 := hk
  clear hk
  cases hq <;> rename_i hk hN hW hB hX <;> dsimp only at hk hN hW hB hX <;> unfold cntOf at hfn <;> dsimp only at hfn
  case rc =>
    subst hW hB
    rw [rd (by omega) hN.1]
    conv => whnf
    refine br_i (fun _ => ?_) (fun h => absurd h (by simp; omega))
    conv => whnf
    exact leaf_i rfl rfl rfl
  case rw =>
    subst hW hB
    rw [rd (by omega) hN.1]
    conv => whnf
    refine br_i (fun _ => ?_) (fun h => absurd h (by simp; omega))
    conv => whnf
    exact leaf_i rfl rfl rfl
  case rwr => exact absurd hk hk23
  case mw =>
    subst hN hk hB
    have hC := m_CloneI W (by omega)
    conv => whnf
    refine call_i hC ?_
    conv => whnf
    refine leaf_i rfl rfl ?_
    rw [show pieceOf ⟨22, A, 0, W, [], WA⟩ f n s = ⟨22, wrap64 (wrap64 (A + f) + s), 0, W, [], 0⟩ by unfold pieceOf; dsimp only; rw [cut_nil, if_neg (by decide), if_pos rfl]]
    rfl
  case wc =>
    subst hN hk hW
    rw [if_neg (by decide), if_neg (by decide)] at hfn
    simp only [List.length_nil, Nat.zero_add] at hfn
    obtain ⟨c1, c2⟩ := bits (K := 5) (by decide) (by omega) (by omega) hfn
    conv => whnf
    refine br_i (fun _ => ?_) (fun h => (len_no (show 0 < B.length by omega) h).elim)
    conv => whnf
    rw [c2]
    refine ⟨_, cut_b boolEl 1 B f (f + n) (by omega), ?_⟩
    conv => whnf
    refine call_i c1 ?_
    conv => whnf
    refine leaf_i rfl rfl ?_
    rw [show pieceOf ⟨5, A, 0, [], B, WA⟩ f n s = ⟨5, wrap64 (wrap64 (A + f) + s), 0, [], cutL B f (f + n), 0⟩ by unfold pieceOf; dsimp only; rw [cut_nil, if_neg (by decide), if_neg (by decide)]]
    rfl
  case wcs =>
    subst hN hk hW
    rw [if_neg (by decide), if_neg (by decide)] at hfn
    simp only [List.length_nil, Nat.zero_add] at hfn
    obtain ⟨c1, c2⟩ := bits (K := 15) (by decide) (by omega) (by omega) hfn
    conv => whnf
    refine br_i (fun _ => ?_) (fun h => (len_no (show 0 < B.length by omega) h).elim)
    conv => whnf
    rw [c2]
    refine ⟨_, cut_b boolEl 1 B f (f + n) (by omega), ?_⟩
    conv => whnf
    refine call_i c1 ?_
    conv => whnf
    refine leaf_i rfl rfl ?_
    rw [show pieceOf ⟨15, A, 0, [], B, WA⟩ f n s = ⟨15, wrap64 (wrap64 (A + f) + s), 0, [], cutL B f (f + n), 0⟩ by unfold pieceOf; dsimp only; rw [cut_nil, if_neg (by decide), if_neg (by decide)]]
    rfl
  case ww =>
    subst hN hk hB
    rw [if_neg (by decide), if_neg (by decide)] at hfn
    simp only [List.length_nil, Nat.add_zero] at hfn
    obtain ⟨c1, c2⟩ := wrds (by omega) hfn
    conv => whnf
    rw [c2]
    refine ⟨_, cut_b intEl 1 W f (f + n) (by omega), ?_⟩
    conv => whnf
    refine call_i c1 ?_
    conv => whnf
    refine leaf_i rfl rfl ?_
    rw [show pieceOf ⟨6, A, 0, W, [], WA⟩ f n s = ⟨6, wrap64 (wrap64 (A + f) + s), 0, cutL W f (f + n), [], 0⟩ by unfold pieceOf; dsimp only; rw [cut_nil, if_neg (by decide), if_neg (by decide)]]
    rfl
  case wws =>
    subst hN hk hB
    rw [if_neg (by decide), if_neg (by decide)] at hfn
    simp only [List.length_nil, Nat.add_zero] at hfn
    obtain ⟨c1, c2⟩ := wrds (by omega) hfn
    conv => whnf
    rw [c2]
    refine ⟨_, cut_b intEl 1 W f (f + n) (by omega), ?_⟩
    conv => whnf
    refine call_i c1 ?_
    conv => whnf
    refine leaf_i rfl rfl ?_
    rw [show pieceOf ⟨16, A, 0, W, [], WA⟩ f n s = ⟨16, wrap64 (wrap64 (A + f) + s), 0, cutL W f (f + n), [], 0⟩ by unfold pieceOf; dsimp only; rw [cut_nil, if_neg (by decide), if_neg (by decide)]]
    rfl
theorem s_Piece (q : XReq) (h : specReq q = true) (hk : q.Kind ≠ 23) (f n s : Int) (hf : 0 ≤ f) (hn : 1 ≤ n) (hfn : f + n ≤ cntOf q) : PureC Try.prog 49 [q.v, i64v f, i64v n, i64v s] [(pieceOf q f n s).v] := by
  refine pureC_of (Γ := lookT tbl) (il := ilist) tg dr Try.func49 rfl (by kernel_rfl) rfl (Nat.le_of_ble_eq_true rfl) ?_
  have hC : q.tot ≤ 1048576 → PureC Try.prog 84 [q.v] [q.v] := s_l10CopyReq q
  obtain ⟨hA, _, hq⟩ := req_is h
  clear h
  obtain ⟨K, A, N, W, B, WA⟩ := q
  have e1 : f + n ≤ 100000 → IntKind.i64.wrap (f + n) = f + n := fun h => wrap_ok (by omega) (by omega)
  have eb : ∀ l : List Bool, l.length ≤ 1968 → (0 + (l.map boolEl).length) * 1 ≤ 140737488355328 := fun l h => by rw [List.length_map]; omega
  have ei : ∀ l : List Int, l.length ≤ 1968 → (0 + (l.map intEl).length) * 8 ≤ 140737488355328 := fun l h => by rw [List.length_map]; omega
  have rd : ∀ {K N : Int}, K ≠ 22 → 1 ≤ N → pieceOf ⟨K, A, N, [], [], WA⟩ f n s = ⟨K, wrap64 (wrap64 (A + f) + s), n, [], [], 0⟩ := fun h1 h2 => by
    unfold pieceOf
    dsimp only
    rw [if_pos (show _ > (0 : Int) by omega), if_neg h1, cut_nil, cut_nil]
  have hk23 : K ≠ 23 := hk
  clear hk
  cases hq <;> rename_i hk hN hW hB hX <;> dsimp only at hk hN hW hB hX <;> unfold cntOf at hfn <;> dsimp only at hfn <;> unfold XReq.tot at hC <;> dsimp only at hC
  case rc =>
    subst hW hB hX
    rw [rd (by omega) hN.1]
    have hC := hC (by decide)
    rcases hk with rfl | rfl <;> ((repeat' ((conv => whnf); first | refine br_i (fun _ => ?_) (fun _ => ?_) | (refine cur_leaf rfl rfl rfl ?_ ?_; · first | assumption | omega | exact hw ‹_›) | refine leaf_i rfl rfl ?_ | refine And.intro rfl ?_ | refine call_i (hC) ?_ | refine Or.inl (call_i (hC) ?_) | (refine And.intro ?_ ?_; · decide))); all_goals rfl)
  case rw =>
    subst hW hB hX
    rw [rd (by omega) hN.1]
    have hC := hC (by decide)
    rcases hk with rfl | rfl <;> ((repeat' ((conv => whnf); first | refine br_i (fun _ => ?_) (fun _ => ?_) | (refine cur_leaf rfl rfl rfl ?_ ?_; · first | assumption | omega | exact hw ‹_›) | refine leaf_i rfl rfl ?_ | refine And.intro rfl ?_ | refine call_i (hC) ?_ | refine Or.inl (call_i (hC) ?_) | (refine And.intro ?_ ?_; · decide))); all_goals rfl)
  case rwr => exact absurd hk hk23
  case mw =>
    subst hN hk hB hX
    have hC := hC (by simp; omega)
    (repeat' ((conv => whnf); first | refine br_i (fun _ => ?_) (fun _ => ?_) | (refine cur_leaf rfl rfl rfl ?_ ?_; · first | assumption | omega | exact hw ‹_›) | refine leaf_i rfl rfl ?_ | refine And.intro rfl ?_ | refine call_i (hC) ?_ | refine Or.inl (call_i (hC) ?_) | (refine And.intro ?_ ?_; · decide)))
    all_goals (rw [show pieceOf ⟨22, A, 0, W, [], 0⟩ f n s = ⟨22, wrap64 (wrap64 (A + f) + s), 0, W, [], 0⟩ by unfold pieceOf; dsimp only; rw [cut_nil, if_neg (by decide), if_pos rfl]]; rfl)
  case wc =>
    subst hN hk hW hX
    rw [if_neg (by decide), if_neg (by decide)] at hfn
    simp only [List.length_nil, Nat.zero_add] at hfn
    have hC := hC (by simp; omega)
    have c2 := e1 (by omega)
    have c3 := cut_bound B f (f + n)
    conv => whnf
    refine call_i hC ?_
    conv => whnf
    rw [c2]
    refine ⟨_, cut_b boolEl 1 B f (f + n) (by omega), ?_⟩
    conv => whnf
    refine ⟨⟨rfl, flat_bool _⟩, ?_⟩
    conv => whnf
    refine ⟨(cutL B f (f + n)).map boolEl, ⟨eb _ (by omega), rfl⟩, ?_⟩
    conv => whnf
    refine leaf_i rfl rfl ?_
    rw [show pieceOf ⟨5, A, 0, [], B, 0⟩ f n s = ⟨5, wrap64 (wrap64 (A + f) + s), 0, [], cutL B f (f + n), 0⟩ by unfold pieceOf; dsimp only; rw [cut_nil, if_neg (by decide), if_neg (by decide)]]
    rfl
  case wcs =>
    subst hN hk hW hX
    rw [if_neg (by decide), if_neg (by decide)] at hfn
    simp only [List.length_nil, Nat.zero_add] at hfn
    have hC := hC (by simp; omega)
    have c2 := e1 (by omega)
    have c3 := cut_bound B f (f + n)
    conv => whnf
    refine call_i hC ?_
    conv => whnf
    rw [c2]
    refine ⟨_, cut_b boolEl 1 B f (f + n) (by omega), ?_⟩
    conv => whnf
    refine ⟨⟨rfl, flat_bool _⟩, ?_⟩
    conv => whnf
    refine ⟨(cutL B f (f + n)).map boolEl, ⟨eb _ (by omega), rfl⟩, ?_⟩
    conv => whnf
    refine leaf_i rfl rfl ?_
    rw [show pieceOf ⟨15, A, 0, [], B, 0⟩ f n s = ⟨15, wrap64 (wrap64 (A + f) + s), 0, [], cutL B f (f + n), 0⟩ by unfold pieceOf; dsimp only; rw [cut_nil, if_neg (by decide), if_neg (by decide)]]
    rfl
  case ww =>
    subst hN hk hB hX
    rw [if_neg (by decide), if_neg (by decide)] at hfn
    simp only [List.length_nil, Nat.add_zero] at hfn
    have hC := hC (by simp; omega)
    have c2 := e1 (by omega)
    have c3 := cut_bound W f (f + n)
    conv => whnf
    refine call_i hC ?_
    conv => whnf
    rw [c2]
    refine ⟨_, cut_b intEl 1 W f (f + n) (by omega), ?_⟩
    conv => whnf
    refine ⟨⟨rfl, flat_int _⟩, ?_⟩
    conv => whnf
    refine ⟨(cutL W f (f + n)).map intEl, ⟨ei _ (by omega), rfl⟩, ?_⟩
    conv => whnf
    refine leaf_i rfl rfl ?_
    rw [show pieceOf ⟨6, A, 0, W, [], 0⟩ f n s = ⟨6, wrap64 (wrap64 (A + f) + s), 0, cutL W f (f + n), [], 0⟩ by unfold pieceOf; dsimp only; rw [cut_nil, if_neg (by decide), if_neg (by decide)]]
    rfl
  case wws =>
    subst hN hk hB hX
    rw [if_neg (by decide), if_neg (by decide)] at hfn
    simp only [List.length_nil, Nat.add_zero] at hfn
    have hC := hC (by simp; omega)
    have c2 := e1 (by omega)
    have c3 := cut_bound W f (f + n)
    conv => whnf
    refine call_i hC ?_
    conv => whnf
    rw [c2]
    refine ⟨_, cut_b intEl 1 W f (f + n) (by omega), ?_⟩
    conv => whnf
    refine ⟨⟨rfl, flat_int _⟩, ?_⟩
    conv => whnf
    refine ⟨(cutL W f (f + n)).map intEl, ⟨ei _ (by omega), rfl⟩, ?_⟩
    conv => whnf
    refine leaf_i rfl rfl ?_
    rw [show pieceOf ⟨16, A, 0, W, [], 0⟩ f n s = ⟨16, wrap64 (wrap64 (A + f) + s), 0, cutL W f (f + n), [], 0⟩ by unfold pieceOf; dsimp only; rw [cut_nil, if_neg (by decide), if_neg (by decide)]]
    rfl

end Go.Proofs.Ytdgmaaiijkoedaa
