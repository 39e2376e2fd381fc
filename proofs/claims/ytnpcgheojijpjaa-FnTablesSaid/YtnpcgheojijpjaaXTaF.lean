/- Rules: which are right, which one a place is of. -/
import Derived.Test.YtnpcgheojijpjaaXTaE
namespace Go.Proofs.Ytnpcgheojijpjaa
open Go Go.Vi
set_option linter.unusedVariables false
set_option linter.unusedSimpArgs false
set_option maxRecDepth 100000
def hitB (u s p : Int) (r : XRule) : Bool := decide (r.Unit = u) && decide (r.Space = s) && inB p r.Lo r.Hi
def ruleAt (l : List XRule) (u s p : Int) : Int := firstBad (fun r => !hitB u s p r) l
theorem all_getD {α : Type} {p : α → Bool} {l : List α} {k : Nat} (hk : k < l.length) (h : (l.take k).all p = true) (hp : p l[k] = true) : (l.take (k + 1)).all p = true := all_succ h hk hp
theorem s_RuleAt (l : List XRule) (u s p : Int) : PureC Try.prog 54 [XRule.sV l, i64v u, i64v s, i64v p] [i64v (ruleAt l u s p)] := by
  refine pureC_fit ⟨_, Try.func54, by kernel_rfl, rfl⟩ fun hf => ?_
  have hl : l.length ≤ 9223372036854775807 := fits_len (hf (XRule.sV l) (by simp))
  refine pureC_of (Γ := lookT tbl) (il := ilist) tg dr Try.func54 rfl (by kernel_rfl) rfl (Nat.le_of_ble_eq_true rfl) ?_
  conv => whnf
  refine loop_i (fun k : Nat => ⟨envL [(0, .c (.pv (XRule.sP l))), (1, .c (.pv (.int .i64 u))), (2, .c (.pv (.int .i64 s))), (3, .c (.pv (.int .i64 p))), (9, .c (.pv (.int .i64 k)))], resL [], 0, 47⟩) (fun k => k ≤ l.length ∧ (l.take k).all (fun r => !hitB u s p r) = true) (fun k => l.length - k) 0 ⟨Nat.zero_le _, rfl⟩ (le_mk [] rfl ⟨⟨rfl, rfl⟩, ⟨rfl, rfl⟩, ⟨rfl, rfl⟩, ⟨rfl, rfl⟩, ⟨rfl, rfl⟩, trivial⟩ trivial rfl) ?_
  intro k ⟨hk, hs⟩
  conv => whnf
  refine br_i (fun h => ?_) (fun h => ?_)
  · have hlt : k < l.length := by simpa using h
    have ix := idx_map l XRule.ps k hlt 7
    have nxt : hitB u s p l[k] = false → (l.take (k + 1)).all (fun r => !hitB u s p r) = true := fun h => all_succ hs hlt (by simp [h])
    have hit : hitB u s p l[k] = true → ruleAt l u s p = k := fun h => firstBad_at hs hlt (by simp [h])
    generalize hr : l[k] = r at *
    cases hh : hitB u s p r with
    | true =>
      (repeat' ((conv => whnf); first | refine br_i (fun _ => ?_) (fun _ => ?_) | (refine cur_leaf rfl rfl rfl ?_ ?_; · first | assumption | omega | exact hw ‹_›) | refine leaf_i rfl rfl ?_ | refine And.intro rfl ?_ | refine call_i (s_in _ _ _) ?_ | (refine Or.inl ?_; (conv => whnf); refine call_i (s_in _ _ _) ?_) | (refine ⟨_, ix, ?_⟩) | (refine And.intro ?_ ?_; · decide)))
      all_goals first | (rw [hit hh]; rfl) | (exfalso; simp_all [hitB]; done)
    | false =>
      (repeat' ((conv => whnf); first | refine br_i (fun _ => ?_) (fun _ => ?_) | (refine cur_leaf rfl rfl rfl ?_ ?_; · first | assumption | omega | exact hw ‹_›) | refine leaf_i rfl rfl ?_ | refine And.intro rfl ?_ | refine call_i (s_in _ _ _) ?_ | (refine Or.inl ?_; (conv => whnf); refine call_i (s_in _ _ _) ?_) | (refine ⟨_, ix, ?_⟩) | (refine And.intro ?_ ?_; · decide)))
      all_goals first | (exfalso; clear nxt hit; simp_all [hitB]; done) | ((conv => whnf); exact ⟨k + 1, ⟨⟨hlt, nxt hh⟩, by omega⟩, le_mk [] rfl ⟨⟨rfl, rfl⟩, ⟨rfl, rfl⟩, ⟨rfl, rfl⟩, ⟨rfl, rfl⟩, ⟨ctr (by omega), rfl⟩, trivial⟩ trivial rfl⟩)
  · have hk : l.length ≤ k := by simpa using h
    conv => whnf
    refine leaf_i rfl rfl ?_
    rw [show ruleAt l u s p = -1 from firstBad_none (all_end hs hk)]
    rfl
def ruleB (r : XRule) : Bool := inB r.Unit 1 247 && inB r.Space 0 3 && inB r.Lo 0 65535 && inB r.Hi r.Lo 65535 && inB r.Port 0 5 && inB r.To 1 247 && inB r.Shift (-65535) 65535 && inB (wrap64 (r.Lo + r.Shift)) 0 65535 && inB (wrap64 (r.Hi + r.Shift)) 0 65535
theorem m_isUnit (n : Int) : PureC Try.prog 93 [i64v n] [boolv (inB n 1 247)] := by
  refine pureC_of (Γ := lookT tbl) (il := ilist) tg dr Try.func93 rfl (by kernel_rfl) rfl (Nat.le_of_ble_eq_true rfl) ?_
  (repeat' ((conv => whnf); first | refine br_i (fun _ => ?_) (fun _ => ?_) | (refine cur_leaf rfl rfl rfl ?_ ?_; · first | assumption | omega | exact hw ‹_›) | refine leaf_i rfl rfl ?_ | refine And.intro rfl ?_ | refine call_i (m_in _ _ _) ?_ | (refine Or.inl ?_; (conv => whnf); refine call_i (m_in _ _ _) ?_) | (refine And.intro ?_ ?_; · decide)))
  all_goals rfl
theorem m_isPort (n : Int) : PureC Try.prog 92 [i64v n] [boolv (inB n 0 5)] := by
  refine pureC_of (Γ := lookT tbl) (il := ilist) tg dr Try.func92 rfl (by kernel_rfl) rfl (Nat.le_of_ble_eq_true rfl) ?_
  (repeat' ((conv => whnf); first | refine br_i (fun _ => ?_) (fun _ => ?_) | (refine cur_leaf rfl rfl rfl ?_ ?_; · first | assumption | omega | exact hw ‹_›) | refine leaf_i rfl rfl ?_ | refine And.intro rfl ?_ | refine call_i (m_in _ _ _) ?_ | (refine Or.inl ?_; (conv => whnf); refine call_i (m_in _ _ _) ?_) | (refine And.intro ?_ ?_; · decide)))
  all_goals rfl
theorem s_Rule (r : XRule) : PureC Try.prog 85 [r.v] [boolv (ruleB r)] := by
  refine pureC_of (Γ := lookT tbl) (il := ilist) tg dr Try.func85 rfl (by kernel_rfl) rfl (Nat.le_of_ble_eq_true rfl) ?_
  (repeat' ((conv => whnf); first | refine br_i (fun _ => ?_) (fun _ => ?_) | (refine cur_leaf rfl rfl rfl ?_ ?_; · first | assumption | omega | exact hw ‹_›) | refine leaf_i rfl rfl ?_ | refine And.intro rfl ?_ | refine call_i (s_in _ _ _) ?_ | (refine Or.inl ?_; (conv => whnf); refine call_i (s_in _ _ _) ?_) | (refine And.intro ?_ ?_; · decide)))
  all_goals (refine bool_leaf ?_; first | (simp_all [ruleB]; done) | (simp_all [ruleB]; omega))
def clash (x r : XRule) : Bool := decide (x.Unit = r.Unit) && decide (x.Space = r.Space) && decide (x.Lo ≤ r.Hi) && decide (r.Lo ≤ x.Hi)
def ruleIn (l : List XRule) (i : Nat) : Bool := match l[i]? with
  | some r => ruleB r && (l.take i).all fun x => !clash x r
  | none => true
def upto (f : Nat → Bool) (n : Nat) : Bool := (List.range n).all f
theorem upto_succ {f : Nat → Bool} {n : Nat} (h : upto f n = true) (h2 : f n = true) : upto f (n + 1) = true := by
  unfold upto at *
  rw [List.range_succ, List.all_append, h]
  simp [h2]
theorem upto_bad {f : Nat → Bool} {n k : Nat} (h : k < n) (h2 : f k = false) : upto f n = false := by
  unfold upto
  rw [List.all_eq_false]
  exact ⟨k, List.mem_range.2 h, by simp [h2]⟩
def rulesB (l : List XRule) : Bool := decide ((l.length : Int) ≤ 24) && upto (ruleIn l) l.length
theorem ruleIn_at {l : List XRule} {k : Nat} (h : k < l.length) : ruleIn l k = (ruleB l[k] && (l.take k).all fun x => !clash x l[k]) := by
  unfold ruleIn
  rw [List.getElem?_eq_getElem h]
set_option maxHeartbeats 1000000 in
theorem s_RulesOk (l : List XRule) : PureC Try.prog 51 [XRule.sV l] [boolv (rulesB l)] := by
  refine pureC_fit ⟨_, Try.func51, by kernel_rfl, rfl⟩ fun hf => ?_
  have hl : l.length ≤ 9223372036854775807 := fits_len (hf (XRule.sV l) (by simp))
  refine pureC_of (Γ := lookT tbl) (il := ilist) tg dr Try.func51 rfl (by kernel_rfl) rfl (Nat.le_of_ble_eq_true rfl) ?_
  conv => whnf
  refine br_i (fun h => ?_) (fun h => ?_)
  · conv => whnf
    refine leaf_i rfl rfl ?_
    have h : (l.length : Int) > 24 := by simpa using h
    unfold rulesB
    rw [decide_eq_false (by omega), Bool.false_and]
    rfl
  have hlen : (l.length : Int) ≤ 24 := by simpa using h
  conv => whnf
  refine loop_i (fun k : Nat => ⟨envL [(0, .c (.pv (XRule.sP l))), (3, .c (.pv (.int .i64 k)))], resL [], 0, 75⟩) (fun k => k ≤ l.length ∧ upto (ruleIn l) k = true) (fun k => l.length - k) 0 ⟨Nat.zero_le _, rfl⟩ (le_mk [] rfl ⟨⟨rfl, rfl⟩, ⟨rfl, rfl⟩, trivial⟩ trivial rfl) ?_
  intro k ⟨hk, hs⟩
  conv => whnf
  refine br_i (fun h => ?_) (fun h => ?_)
  · have hlt : k < l.length := by simpa using h
    have ix := idx_map l XRule.ps k hlt 7
    have hin := ruleIn_at hlt
    have hbad : ruleIn l k = false → rulesB l = false := fun h => by unfold rulesB; rw [upto_bad hlt h, Bool.and_false]
    generalize l[k] = r at *
    conv => whnf
    refine ⟨_, ix, ?_⟩
    conv => whnf
    refine call_i (s_Rule r) ?_
    conv => whnf
    refine br_i (fun h => ?_) (fun h => ?_)
    · conv => whnf
      refine leaf_i rfl rfl ?_
      rw [hbad (by rw [hin]; simp at h; rw [h]; rfl)]
      rfl
    have hr : ruleB r = true := by simpa using h
    conv => whnf
    refine loop_i (fun j : Nat => ⟨envL [(0, .c (.pv (XRule.sP l))), (3, .c (.pv (.int .i64 k))), (4, .c (.pv (.int .i64 j)))], resL [], 0, 75⟩) (fun j => j ≤ k ∧ (l.take j).all (fun x => !clash x r) = true) (fun j => k - j) 0 ⟨Nat.zero_le _, rfl⟩ (le_mk [] rfl ⟨⟨rfl, rfl⟩, ⟨rfl, rfl⟩, ⟨rfl, rfl⟩, trivial⟩ trivial rfl) ?_
    intro j ⟨hj, hjs⟩
    conv => whnf
    refine br_i (fun h => ?_) (fun h => ?_)
    · have hjk : j < k := by simpa using h
      have hjl : j < l.length := by omega
      have jx := idx_map l XRule.ps j hjl 7
      have nxt : clash l[j] r = false → (l.take (j + 1)).all (fun x => !clash x r) = true := fun h => all_succ hjs hjl (by simp [h])
      have bad : clash l[j] r = true → rulesB l = false := fun h => hbad (by
        rw [hin, hr, Bool.true_and, List.all_eq_false]
        exact ⟨l[j], List.mem_take_iff_getElem.2 ⟨j, by omega, rfl⟩, by simp [h]⟩)
      generalize l[j] = x at *
      cases hh : clash x r with
      | true =>
        (repeat' ((conv => whnf); first | refine br_i (fun _ => ?_) (fun _ => ?_) | (refine cur_leaf rfl rfl rfl ?_ ?_; · first | assumption | omega | exact hw ‹_›) | refine leaf_i rfl rfl ?_ | refine And.intro rfl ?_ | (refine ⟨_, ix, ?_⟩) | (refine ⟨_, jx, ?_⟩) | (refine And.intro ?_ ?_; · decide)))
        all_goals first | (rw [bad hh]; rfl) | (exfalso; clear nxt bad hbad hin ix jx hs hjs hf hl hlen hk hr hj; simp_all [clash]; done) | (exfalso; clear nxt bad hbad hin ix jx hs hjs hf hl hlen hk hr hj; simp_all [clash]; omega)
      | false =>
        (repeat' ((conv => whnf); first | refine br_i (fun _ => ?_) (fun _ => ?_) | (refine cur_leaf rfl rfl rfl ?_ ?_; · first | assumption | omega | exact hw ‹_›) | refine leaf_i rfl rfl ?_ | refine And.intro rfl ?_ | (refine ⟨_, ix, ?_⟩) | (refine ⟨_, jx, ?_⟩) | (refine And.intro ?_ ?_; · decide)))
        all_goals first | (exfalso; clear nxt bad hbad hin ix jx hs hjs hf hl hlen hk hr hj; simp_all [clash]; done) | (exfalso; clear nxt bad hbad hin ix jx hs hjs hf hl hlen hk hr hj; simp_all [clash]; omega) | ((conv => whnf); exact ⟨j + 1, ⟨⟨hjk, nxt hh⟩, by omega⟩, le_mk [] rfl ⟨⟨rfl, rfl⟩, ⟨rfl, rfl⟩, ⟨ctr (by omega), rfl⟩, trivial⟩ trivial rfl⟩)
    · have hjk : j = k := by have := dge h; omega
      subst hjk
      conv => whnf
      exact ⟨j + 1, ⟨⟨hlt, upto_succ hs (by rw [hin, hr, Bool.true_and]; exact hjs)⟩, by omega⟩, le_mk [] rfl ⟨⟨rfl, rfl⟩, ⟨ctr (by omega), rfl⟩, trivial⟩ trivial rfl⟩
  · have hk2 : k = l.length := by have := dge h; rw [List.length_map] at this; omega
    subst hk2
    conv => whnf
    refine leaf_i rfl rfl ?_
    unfold rulesB
    rw [hs, decide_eq_true hlen]
    rfl
inductive ReqIs (q : XReq) : Prop
  | rc (hk : q.Kind = 1 ∨ q.Kind = 2) (hN : 1 ≤ q.N ∧ q.N ≤ 2000 ∧ q.At + q.N ≤ 65536) (hW : q.Words = []) (hB : q.Bits = []) (hA : q.WAt = 0)
  | rw (hk : q.Kind = 3 ∨ q.Kind = 4) (hN : 1 ≤ q.N ∧ q.N ≤ 125 ∧ q.At + q.N ≤ 65536) (hW : q.Words = []) (hB : q.Bits = []) (hA : q.WAt = 0)
  | wc (hk : q.Kind = 5) (hN : q.N = 0) (hW : q.Words = []) (hB : q.Bits.length = 1) (hA : q.WAt = 0)
  | ww (hk : q.Kind = 6) (hN : q.N = 0) (hW : q.Words.length = 1) (hB : q.Bits = []) (hA : q.WAt = 0)
  | wcs (hk : q.Kind = 15) (hN : q.N = 0) (hW : q.Words = []) (hB : 1 ≤ q.Bits.length ∧ q.Bits.length ≤ 1968 ∧ q.At + q.Bits.length ≤ 65536) (hA : q.WAt = 0)
  | wws (hk : q.Kind = 16) (hN : q.N = 0) (hW : 1 ≤ q.Words.length ∧ q.Words.length ≤ 123 ∧ q.At + q.Words.length ≤ 65536) (hB : q.Bits = []) (hA : q.WAt = 0)
  | mw (hk : q.Kind = 22) (hN : q.N = 0) (hW : q.Words.length = 2) (hB : q.Bits = []) (hA : q.WAt = 0)
  | rwr (hk : q.Kind = 23) (hN : 1 ≤ q.N ∧ q.N ≤ 125 ∧ q.At + q.N ≤ 65536) (hW : 1 ≤ q.Words.length ∧ q.Words.length ≤ 121 ∧ q.WAt + q.Words.length ≤ 65536) (hB : q.Bits = []) (hA : 0 ≤ q.WAt ∧ q.WAt ≤ 65535)
theorem fits_iff {a n : Int} (h : 0 ≤ a) (h4 : a ≤ 65535) (h2 : 0 ≤ n) (h3 : n ≤ 100000) : fitsB a n = true ↔ a + n ≤ 65536 := by
  unfold fitsB wrap64
  rw [wrap_ok (by omega) (by omega)]
  simp [inB]; omega
theorem req_is {q : XReq} (h : specReq q = true) : (0 ≤ q.At ∧ q.At ≤ 65535) ∧ (∀ x ∈ q.Words, 0 ≤ x ∧ x < 65536) ∧ ReqIs q := by
  unfold specReq at h
  split at h
  · cases h
  rename_i h0
  have hA : 0 ≤ q.At ∧ q.At ≤ 65535 := by simp [inB] at h0; omega
  have hw : ∀ x ∈ q.Words, 0 ≤ x ∧ x < 65536 := by
    simp [word, inB] at h0
    intro x hx
    have := h0.1 x hx
    omega
  refine ⟨hA, hw, ?_⟩
  clear h0
  have ln : ∀ {α : Type} {l : List α}, l.length = 0 → l = [] := fun h => List.length_eq_zero_iff.1 h
  split at h
  · rename_i hk
    simp only [zeroB, inB, Bool.and_eq_true, Bool.or_eq_true, decide_eq_true_eq, Bool.true_or, Bool.false_or, Bool.true_and] at h
    obtain ⟨⟨⟨⟨h1, h2⟩, h3⟩, h4, h5⟩, h6⟩ := h
    exact .rc hk ⟨by omega, by omega, (fits_iff hA.1 hA.2 (by omega) (by omega)).1 h6⟩ (ln (by omega)) (ln (by omega)) h3
  split at h
  · rename_i hk
    simp only [zeroB, inB, Bool.and_eq_true, Bool.or_eq_true, decide_eq_true_eq, Bool.true_or, Bool.false_or, Bool.true_and] at h
    obtain ⟨⟨⟨⟨h1, h2⟩, h3⟩, h4, h5⟩, h6⟩ := h
    exact .rw hk ⟨by omega, by omega, (fits_iff hA.1 hA.2 (by omega) (by omega)).1 h6⟩ (ln (by omega)) (ln (by omega)) h3
  split at h
  · rename_i hk
    simp only [zeroB, inB, Bool.and_eq_true, Bool.or_eq_true, decide_eq_true_eq, Bool.true_or, Bool.false_or, Bool.true_and, Bool.and_true] at h
    obtain ⟨⟨⟨h1, h2⟩, h3⟩, h4⟩ := h
    exact .wc hk h1 (ln (by omega)) (by omega) h3
  split at h
  · rename_i hk
    simp only [zeroB, inB, Bool.and_eq_true, Bool.or_eq_true, decide_eq_true_eq, Bool.true_or, Bool.false_or, Bool.true_and, Bool.and_true] at h
    obtain ⟨⟨⟨h1, h2⟩, h3⟩, h4⟩ := h
    exact .ww hk h1 (by omega) (ln (by omega)) h3
  split at h
  · rename_i hk
    simp only [zeroB, inB, Bool.and_eq_true, Bool.or_eq_true, decide_eq_true_eq, Bool.true_or, Bool.false_or, Bool.true_and, Bool.and_true] at h
    obtain ⟨⟨⟨⟨h1, h2⟩, h3⟩, h4, h5⟩, h6⟩ := h
    exact .wcs hk h1 (ln (by omega)) ⟨by omega, by omega, (fits_iff hA.1 hA.2 (by omega) (by omega)).1 h6⟩ h3
  split at h
  · rename_i hk
    simp only [zeroB, inB, Bool.and_eq_true, Bool.or_eq_true, decide_eq_true_eq, Bool.true_or, Bool.false_or, Bool.true_and, Bool.and_true] at h
    obtain ⟨⟨⟨⟨h1, h2⟩, h3⟩, h4, h5⟩, h6⟩ := h
    exact .wws hk h1 ⟨by omega, by omega, (fits_iff hA.1 hA.2 (by omega) (by omega)).1 h6⟩ (ln (by omega)) h3
  split at h
  · rename_i hk
    simp only [zeroB, inB, Bool.and_eq_true, Bool.or_eq_true, decide_eq_true_eq, Bool.true_or, Bool.false_or, Bool.true_and, Bool.and_true] at h
    obtain ⟨⟨⟨h1, h2⟩, h3⟩, h4⟩ := h
    exact .mw hk h1 (by omega) (ln (by omega)) h3
  split at h
  · rename_i hk
    simp only [zeroB, inB, Bool.and_eq_true, Bool.or_eq_true, decide_eq_true_eq, Bool.true_or, Bool.false_or, Bool.true_and, Bool.and_true] at h
    obtain ⟨⟨⟨⟨h1, h2, h3⟩, h4⟩, h5, h6⟩, h7⟩ := h
    have hWA : 0 ≤ q.WAt ∧ q.WAt ≤ 65535 := by unfold fitsB inB at h7; simp at h7; omega
    exact .rwr hk ⟨by omega, by omega, (fits_iff hA.1 hA.2 (by omega) (by omega)).1 h4⟩ ⟨by omega, by omega, (fits_iff hWA.1 hWA.2 (by omega) (by omega)).1 h7⟩ (ln (by omega)) hWA
  · cases h
def spOf (k : Int) : Int := if k = 1 ∨ k = 5 ∨ k = 15 then 0 else if k = 2 then 1 else if k = 4 then 3 else 2
def cntOf (q : XReq) : Int := if q.N ≠ 0 then q.N else if q.Kind = 22 then 1 else ((q.Words.length + q.Bits.length : Nat) : Int)
def spaces (q : XReq) : Int × Int × Int := if specReq q then (spOf q.Kind, q.At, cntOf q) else (-1, 0, 0)
theorem written_eq {q : XReq} (h : ReqIs q) : writtenF q = if q.Kind = 22 then 1 else ((q.Words.length + q.Bits.length : Nat) : Int) := by
  unfold writtenF wrap64
  have hl : q.Words.length + q.Bits.length ≤ 10000 := by
    cases h <;> simp_all <;> omega
  rw [wrap_ok (by omega) (by omega)]
  split <;> omega
theorem s_Spaces (q : XReq) : PureC Try.prog 53 [q.v] [i64v (spaces q).1, i64v (spaces q).2.1, i64v (spaces q).2.2] := by
  refine pureC_of (Γ := lookT tbl) (il := ilist) tg dr Try.func53 rfl (by kernel_rfl) rfl (Nat.le_of_ble_eq_true rfl) ?_
  have hR := s_ReqOk q
  cases h : specReq q with
  | false =>
    rw [h] at hR
    unfold spaces
    rw [h]
    (repeat' ((conv => whnf); first | refine br_i (fun _ => ?_) (fun _ => ?_) | (refine cur_leaf rfl rfl rfl ?_ ?_; · first | assumption | omega | exact hw ‹_›) | refine leaf_i rfl rfl ?_ | refine And.intro rfl ?_ | refine call_i (hR) ?_ | (refine Or.inl ?_; (conv => whnf); refine call_i (hR) ?_) | (refine And.intro ?_ ?_; · decide)))
    all_goals rfl
  | true =>
    rw [h] at hR
    unfold spaces
    rw [h]
    obtain ⟨hA, _, hq⟩ := req_is h
    clear h
    obtain ⟨K, A, N, W, B, WA⟩ := q
    cases hq <;> rename_i hk hN hW hB hX <;> dsimp only at hk hN hW hB hX
    case rc => rcases hk with rfl | rfl <;> ((repeat' ((conv => whnf); first | refine br_i (fun _ => ?_) (fun _ => ?_) | (refine cur_leaf rfl rfl rfl ?_ ?_; · first | assumption | omega | exact hw ‹_›) | refine leaf_i rfl rfl ?_ | refine And.intro rfl ?_ | refine call_i (hR) ?_ | (refine Or.inl ?_; (conv => whnf); refine call_i (hR) ?_) | (refine And.intro ?_ ?_; · decide))); all_goals (simp [spOf, cntOf, i64v]; try omega))
    case rw => rcases hk with rfl | rfl <;> ((repeat' ((conv => whnf); first | refine br_i (fun _ => ?_) (fun _ => ?_) | (refine cur_leaf rfl rfl rfl ?_ ?_; · first | assumption | omega | exact hw ‹_›) | refine leaf_i rfl rfl ?_ | refine And.intro rfl ?_ | refine call_i (hR) ?_ | (refine Or.inl ?_; (conv => whnf); refine call_i (hR) ?_) | (refine And.intro ?_ ?_; · decide))); all_goals (simp [spOf, cntOf, i64v]; try omega))
    case rwr => subst hk; ((repeat' ((conv => whnf); first | refine br_i (fun _ => ?_) (fun _ => ?_) | (refine cur_leaf rfl rfl rfl ?_ ?_; · first | assumption | omega | exact hw ‹_›) | refine leaf_i rfl rfl ?_ | refine And.intro rfl ?_ | refine call_i (hR) ?_ | (refine Or.inl ?_; (conv => whnf); refine call_i (hR) ?_) | (refine And.intro ?_ ?_; · decide))); all_goals (simp [spOf, cntOf, i64v]; try omega))
    all_goals (subst hk; ((repeat' ((conv => whnf); first | refine br_i (fun _ => ?_) (fun _ => ?_) | (refine cur_leaf rfl rfl rfl ?_ ?_; · first | assumption | omega | exact hw ‹_›) | refine leaf_i rfl rfl ?_ | refine And.intro rfl ?_ | refine call_i (hR) ?_ | (refine Or.inl ?_; (conv => whnf); refine call_i (hR) ?_) | (refine And.intro ?_ ?_; · decide)))); all_goals (simp [spOf, cntOf, i64v, hN, hW, hB]))
/-- A question about some of another one's places. -/
def pieceOf (q : XReq) (f n s : Int) : XReq := ⟨q.Kind, wrap64 (wrap64 (q.At + f) + s), if q.N > 0 then n else 0, if q.Kind = 22 then q.Words else cutL q.Words f (f + n), cutL q.Bits f (f + n), 0⟩
theorem cut_nil {α : Type} (f n : Int) : cutL ([] : List α) f n = [] := by simp [cutL]
theorem cut_bound {α : Type} (l : List α) (a b : Int) : (cutL l a b).length ≤ l.length := by
  unfold cutL
  rw [List.length_drop, List.length_take]
  omega
theorem len_no {α : Type} {f : α → List PV} {l : List α} (h0 : 0 < l.length) (h : decide (((l.map f).length : Int) > 0) = false) : False := by
  rw [List.length_map] at h
  have := of_decide_eq_false h
  omega
theorem s_Piece (q : XReq) (h : specReq q = true) (hk : q.Kind ≠ 23) (f n s : Int) (hf : 0 ≤ f) (hn : 1 ≤ n) (hfn : f + n ≤ cntOf q) : PureC Try.prog 55 [q.v, i64v f, i64v n, i64v s] [(pieceOf q f n s).v] := by
  refine pureC_of (Γ := lookT tbl) (il := ilist) tg dr Try.func55 rfl (by kernel_rfl) rfl (Nat.le_of_ble_eq_true rfl) ?_
  have hC : q.tot ≤ 1048576 → PureC Try.prog 28 [q.v] [q.v] := s_l10CopyReq q
  obtain ⟨hA, _, hq⟩ := req_is h
  clear h
  obtain ⟨K, A, N, W, B, WA⟩ := q
  have e1 : f + n ≤ 100000 → IntKind.i64.wrap (f + n) = f + n := fun h => wrap_ok (by omega) (by omega)
  have eb : ∀ l : List Bool, l.length ≤ 1968 → (0 + (l.map boolEl).length) * 1 ≤ 140737488355328 := fun l h => by rw [List.length_map]; omega
  have ei : ∀ l : List Int, l.length ≤ 1968 → (0 + (l.map intEl).length) * 8 ≤ 140737488355328 := fun l h => by rw [List.length_map]; omega
  have rd : ∀ {K N : Int}, K ≠ 22 → 1 ≤ N → pieceOf ⟨K, A, N, [], [], WA⟩ f n s = ⟨K, wrap64 (wrap64 (A + f) + s), n, [], [], 0⟩ := fun h1 h2 => by
    unfold pieceOf
    dsimp only
    rw [if_pos (show _ > (0 : Int) by omega), if_neg h1, cut_nil, cut_nil]
  have hk23 : K ≠ 23 := hk
  clear hk
  cases hq <;> rename_i hk hN hW hB hX <;> dsimp only at hk hN hW hB hX <;> unfold cntOf at hfn <;> dsimp only at hfn <;> unfold XReq.tot at hC <;> dsimp only at hC
  case rc =>
    subst hW hB hX
    rw [rd (by omega) hN.1]
    have hC := hC (by decide)
    rcases hk with rfl | rfl <;> ((repeat' ((conv => whnf); first | refine br_i (fun _ => ?_) (fun _ => ?_) | (refine cur_leaf rfl rfl rfl ?_ ?_; · first | assumption | omega | exact hw ‹_›) | refine leaf_i rfl rfl ?_ | refine And.intro rfl ?_ | refine call_i (hC) ?_ | (refine Or.inl ?_; (conv => whnf); refine call_i (hC) ?_) | (refine And.intro ?_ ?_; · decide))); all_goals rfl)
  case rw =>
    subst hW hB hX
    rw [rd (by omega) hN.1]
    have hC := hC (by decide)
    rcases hk with rfl | rfl <;> ((repeat' ((conv => whnf); first | refine br_i (fun _ => ?_) (fun _ => ?_) | (refine cur_leaf rfl rfl rfl ?_ ?_; · first | assumption | omega | exact hw ‹_›) | refine leaf_i rfl rfl ?_ | refine And.intro rfl ?_ | refine call_i (hC) ?_ | (refine Or.inl ?_; (conv => whnf); refine call_i (hC) ?_) | (refine And.intro ?_ ?_; · decide))); all_goals rfl)
  case rwr => exact absurd hk hk23
  case mw =>
    subst hN hk hB hX
    have hC := hC (by simp; omega)
    (repeat' ((conv => whnf); first | refine br_i (fun _ => ?_) (fun _ => ?_) | (refine cur_leaf rfl rfl rfl ?_ ?_; · first | assumption | omega | exact hw ‹_›) | refine leaf_i rfl rfl ?_ | refine And.intro rfl ?_ | refine call_i (hC) ?_ | (refine Or.inl ?_; (conv => whnf); refine call_i (hC) ?_) | (refine And.intro ?_ ?_; · decide)))
    all_goals (rw [show pieceOf ⟨22, A, 0, W, [], 0⟩ f n s = ⟨22, wrap64 (wrap64 (A + f) + s), 0, W, [], 0⟩ by unfold pieceOf; dsimp only; rw [cut_nil, if_neg (by decide), if_pos rfl]]; rfl)
  case wc =>
    subst hN hk hW hX
    rw [if_neg (by decide), if_neg (by decide)] at hfn
    simp only [List.length_nil, Nat.zero_add] at hfn
    have hC := hC (by simp; omega)
    have c2 := e1 (by omega)
    have c3 := cut_bound B f (f + n)
    conv => whnf
    refine call_i hC ?_
    conv => whnf
    rw [c2]
    refine ⟨_, cut_b boolEl 1 B f (f + n) (by omega), ?_⟩
    conv => whnf
    refine ⟨⟨rfl, flat_bool _⟩, ?_⟩
    conv => whnf
    refine ⟨(cutL B f (f + n)).map boolEl, ⟨eb _ (by omega), rfl⟩, ?_⟩
    conv => whnf
    refine leaf_i rfl rfl ?_
    rw [show pieceOf ⟨5, A, 0, [], B, 0⟩ f n s = ⟨5, wrap64 (wrap64 (A + f) + s), 0, [], cutL B f (f + n), 0⟩ by unfold pieceOf; dsimp only; rw [cut_nil, if_neg (by decide), if_neg (by decide)]]
    rfl
  case wcs =>
    subst hN hk hW hX
    rw [if_neg (by decide), if_neg (by decide)] at hfn
    simp only [List.length_nil, Nat.zero_add] at hfn
    have hC := hC (by simp; omega)
    have c2 := e1 (by omega)
    have c3 := cut_bound B f (f + n)
    conv => whnf
    refine call_i hC ?_
    conv => whnf
    rw [c2]
    refine ⟨_, cut_b boolEl 1 B f (f + n) (by omega), ?_⟩
    conv => whnf
    refine ⟨⟨rfl, flat_bool _⟩, ?_⟩
    conv => whnf
    refine ⟨(cutL B f (f + n)).map boolEl, ⟨eb _ (by omega), rfl⟩, ?_⟩
    conv => whnf
    refine leaf_i rfl rfl ?_
    rw [show pieceOf ⟨15, A, 0, [], B, 0⟩ f n s = ⟨15, wrap64 (wrap64 (A + f) + s), 0, [], cutL B f (f + n), 0⟩ by unfold pieceOf; dsimp only; rw [cut_nil, if_neg (by decide), if_neg (by decide)]]
    rfl
  case ww =>
    subst hN hk hB hX
    rw [if_neg (by decide), if_neg (by decide)] at hfn
    simp only [List.length_nil, Nat.add_zero] at hfn
    have hC := hC (by simp; omega)
    have c2 := e1 (by omega)
    have c3 := cut_bound W f (f + n)
    conv => whnf
    refine call_i hC ?_
    conv => whnf
    rw [c2]
    refine ⟨_, cut_b intEl 1 W f (f + n) (by omega), ?_⟩
    conv => whnf
    refine ⟨⟨rfl, flat_int _⟩, ?_⟩
    conv => whnf
    refine ⟨(cutL W f (f + n)).map intEl, ⟨ei _ (by omega), rfl⟩, ?_⟩
    conv => whnf
    refine leaf_i rfl rfl ?_
    rw [show pieceOf ⟨6, A, 0, W, [], 0⟩ f n s = ⟨6, wrap64 (wrap64 (A + f) + s), 0, cutL W f (f + n), [], 0⟩ by unfold pieceOf; dsimp only; rw [cut_nil, if_neg (by decide), if_neg (by decide)]]
    rfl
  case wws =>
    subst hN hk hB hX
    rw [if_neg (by decide), if_neg (by decide)] at hfn
    simp only [List.length_nil, Nat.add_zero] at hfn
    have hC := hC (by simp; omega)
    have c2 := e1 (by omega)
    have c3 := cut_bound W f (f + n)
    conv => whnf
    refine call_i hC ?_
    conv => whnf
    rw [c2]
    refine ⟨_, cut_b intEl 1 W f (f + n) (by omega), ?_⟩
    conv => whnf
    refine ⟨⟨rfl, flat_int _⟩, ?_⟩
    conv => whnf
    refine ⟨(cutL W f (f + n)).map intEl, ⟨ei _ (by omega), rfl⟩, ?_⟩
    conv => whnf
    refine leaf_i rfl rfl ?_
    rw [show pieceOf ⟨16, A, 0, W, [], 0⟩ f n s = ⟨16, wrap64 (wrap64 (A + f) + s), 0, cutL W f (f + n), [], 0⟩ by unfold pieceOf; dsimp only; rw [cut_nil, if_neg (by decide), if_neg (by decide)]]
    rfl
theorem ruleAt_cases (l : List XRule) (u s p : Int) : (ruleAt l u s p = -1 ∧ ∀ k (h : k < l.length), hitB u s p l[k] = false) ∨ ∃ k, ∃ h : k < l.length, ruleAt l u s p = k ∧ hitB u s p l[k] = true ∧ ∀ j, (hj : j < k) → hitB u s p (l[j]'(by omega)) = false := by
  unfold ruleAt firstBad
  by_cases ha : l.all (fun r => !hitB u s p r) = true
  · refine .inl ⟨if_pos ha, fun k h => ?_⟩
    have := List.all_eq_true.1 ha l[k] (List.getElem_mem h)
    simpa using this
  · rw [if_neg ha]
    have ha2 : ∃ x ∈ l, hitB u s p x = true := by
      apply Classical.byContradiction
      intro hn
      apply ha
      rw [List.all_eq_true]
      intro x hx
      cases hh : hitB u s p x with
      | false => rfl
      | true => exact absurd ⟨x, hx, hh⟩ hn
    obtain ⟨x, hx, hp⟩ := ha2
    have hlt : l.findIdx (fun x => !(!hitB u s p x)) < l.length := List.findIdx_lt_length_of_exists ⟨x, hx, by simp [hp]⟩
    refine .inr ⟨_, hlt, rfl, ?_, fun j hj => ?_⟩
    · have := List.findIdx_getElem (p := fun x => !(!hitB u s p x)) (w := hlt)
      simpa using this
    · have := List.not_of_lt_findIdx hj
      simpa using this
def takeN (r : XRule) (a n f : Int) : Int := if r.Hi - a - f + 1 < n - f then r.Hi - a - f + 1 else n - f
def partsGo (l : List XRule) (u sp a n : Int) (q : XReq) : Nat → Int → List XPart → Option (List XPart)
  | 0, _, _ => none
  | fuel + 1, f, out => if n ≤ f then some out else
    if ruleAt l u sp (a + f) < 0 then none else
    match l[(ruleAt l u sp (a + f)).toNat]? with
    | none => none
    | some r => partsGo l u sp a n q fuel (f + takeN r a n f) (out ++ [⟨r.Port, r.To, pieceOf q f (takeN r a n f) r.Shift⟩])
def bothOf (l : List XRule) (u : Int) (q : XReq) : List XPart × Int :=
  if ruleAt l u 2 q.At < 0 then ([], 2) else
  match l[(ruleAt l u 2 q.At).toNat]? with
  | none => ([], 2)
  | some r => if q.At + q.N - 1 > r.Hi ∨ q.WAt < r.Lo ∨ q.WAt + q.Words.length - 1 > r.Hi then ([], 2) else ([⟨r.Port, r.To, ⟨q.Kind, wrap64 (q.At + r.Shift), q.N, q.Words, q.Bits, wrap64 (q.WAt + r.Shift)⟩⟩], 0)
def known (l : List XRule) (u : Int) : Bool := !l.all fun r => !decide (r.Unit = u)
def partsOf (o : Option (List XPart)) : List XPart × Int := match o with
  | none => ([], 2)
  | some out => if (out.length : Int) > 8 then ([], 3) else (out, 0)
def parts (l : List XRule) (u : Int) (q : XReq) : List XPart × Int :=
  if !rulesB l || !specReq q then ([], 3) else if !known l u then ([], 10) else if q.Kind = 23 then bothOf l u q else
  partsOf (partsGo l u (spOf q.Kind) q.At (cntOf q) q ((cntOf q).toNat + 1) 0 [])
theorem rules_get {l : List XRule} (h : rulesB l = true) {k : Nat} (hk : k < l.length) : ruleB l[k] = true ∧ ∀ j, (hj : j < k) → clash (l[j]'(by omega)) l[k] = false := by
  unfold rulesB upto at h
  rw [Bool.and_eq_true] at h
  have h2 := List.all_eq_true.1 h.2 k (List.mem_range.2 hk)
  rw [ruleIn_at hk, Bool.and_eq_true] at h2
  refine ⟨h2.1, fun j hj => ?_⟩
  have := List.all_eq_true.1 h2.2 (l[j]'(by omega)) (List.mem_take_iff_getElem.2 ⟨j, by omega, rfl⟩)
  simpa using this
theorem rule_facts {r : XRule} (h : ruleB r = true) : (0 ≤ r.Lo ∧ r.Lo ≤ r.Hi ∧ r.Hi ≤ 65535) ∧ (-65535 ≤ r.Shift ∧ r.Shift ≤ 65535) ∧ (0 ≤ r.Lo + r.Shift ∧ r.Hi + r.Shift ≤ 65535) ∧ (0 ≤ r.Port ∧ r.Port ≤ 5) ∧ (1 ≤ r.To ∧ r.To ≤ 247) := by
  simp only [ruleB, inB, Bool.and_eq_true, decide_eq_true_eq] at h
  have e1 : wrap64 (r.Lo + r.Shift) = r.Lo + r.Shift := wrap_ok (by omega) (by omega)
  have e2 : wrap64 (r.Hi + r.Shift) = r.Hi + r.Shift := wrap_ok (by omega) (by omega)
  rw [e1, e2] at h
  omega
theorem hit_facts {u s p : Int} {r : XRule} (h : hitB u s p r = true) : r.Unit = u ∧ r.Space = s ∧ r.Lo ≤ p ∧ p ≤ r.Hi := by
  simp [hitB, inB] at h
  omega
theorem req_cnt {q : XReq} (h : specReq q = true) : (1 ≤ cntOf q ∧ cntOf q ≤ 2000) ∧ (0 ≤ q.At ∧ q.At + cntOf q ≤ 65536) := by
  obtain ⟨hA, _, hq⟩ := req_is h
  unfold cntOf
  cases hq <;> rename_i hk hN hW hB hX
  case rc => rw [if_pos (by omega)]; omega
  case rw => rw [if_pos (by omega)]; omega
  case rwr => rw [if_pos (by omega)]; omega
  case wc => rw [if_neg (by omega), if_neg (by omega), hW]; simp; omega
  case ww => rw [if_neg (by omega), if_neg (by omega), hB]; simp; omega
  case wcs => rw [if_neg (by omega), if_neg (by omega), hW]; simp; omega
  case wws => rw [if_neg (by omega), if_neg (by omega), hB]; simp; omega
  case mw => rw [if_neg (by omega), if_pos hk]; omega
theorem s_Parts (l : List XRule) (u : Int) (q : XReq) (h23 : q.Kind = 23 → rulesB l = true → specReq q = true → PureC Try.prog 52 [XRule.sV l, i64v u, q.v] [XPart.sV (bothOf l u q).1, i64v (bothOf l u q).2]) : PureC Try.prog 21 [XRule.sV l, i64v u, q.v] [XPart.sV (parts l u q).1, i64v (parts l u q).2] := by
  refine pureC_of (Γ := lookT tbl) (il := ilist) tg dr Try.func21 rfl (by kernel_rfl) rfl (Nat.le_of_ble_eq_true rfl) ?_
  have hRl := s_RulesOk l
  have hRq := s_ReqOk q
  unfold parts
  conv => whnf
  refine call_i hRl ?_
  conv => whnf
  cases h1 : rulesB l with
  | false =>
    conv => whnf
    exact leaf_i rfl rfl rfl
  | true =>
  conv => whnf
  refine call_i hRq ?_
  conv => whnf
  cases h2 : specReq q with
  | false =>
    conv => whnf
    exact leaf_i rfl rfl rfl
  | true =>
  have hll : l.length ≤ 24 := by unfold rulesB at h1; simp at h1; omega
  conv => whnf
  refine loop_i (fun k : Nat => ⟨envL [(0, .c (.pv (XRule.sP l))), (1, .c (.pv (.int .i64 u))), (5, .c (.ptr 0 0)), (8, .c (.row 1)), (9, .c (.pv (.bool (!(l.take k).all fun r => !decide (r.Unit = u))))), (10, .c (.pv (.int .i64 k)))], resL [(0, .box (q.ps.map .pv)), (1, .row true 8 [])], 2, 125⟩) (fun k => k ≤ l.length) (fun k => l.length - k) 0 (Nat.zero_le _) (le_mk [(0, _), (1, _)] rfl ⟨⟨rfl, rfl⟩, ⟨rfl, rfl⟩, ⟨rfl, rfl⟩, ⟨rfl, rfl⟩, ⟨rfl, rfl⟩, ⟨rfl, rfl⟩, trivial⟩ ⟨⟨rfl, rfl⟩, ⟨rfl, rfl⟩, trivial⟩ rfl) ?_
  intro k hk
  conv => whnf
  refine br_i (fun h => ?_) (fun h => ?_)
  · have hlt : k < l.length := by simpa using h
    have ix := idx_map l XRule.ps k hlt 7
    have hnx : (!(l.take (k + 1)).all fun r => !decide (r.Unit = u)) = ((!(l.take k).all fun r => !decide (r.Unit = u)) || (l[k].Unit == u)) := by
      rw [List.take_succ_eq_append_getElem hlt, List.all_append]
      simp
      cases ((l.take k).all fun r => !decide (r.Unit = u)) <;> simp [BEq.beq]
    generalize l[k] = r at *
    generalize hz : (!(l.take k).all fun r => !decide (r.Unit = u)) = z at *
    conv => whnf
    refine br_i (fun h => ?_) (fun h => ?_)
    · conv => whnf
      exact ⟨k + 1, ⟨hlt, by omega⟩, le_mk [(0, _), (1, _)] rfl ⟨⟨rfl, rfl⟩, ⟨rfl, rfl⟩, ⟨rfl, rfl⟩, ⟨rfl, rfl⟩, ⟨by rw [hnx, h]; rfl, rfl⟩, ⟨ctr (by omega), rfl⟩, trivial⟩ ⟨⟨rfl, rfl⟩, ⟨rfl, rfl⟩, trivial⟩ rfl⟩
    · conv => whnf
      refine ⟨_, ix, ?_⟩
      conv => whnf
      exact ⟨k + 1, ⟨hlt, by omega⟩, le_mk [(0, _), (1, _)] rfl ⟨⟨rfl, rfl⟩, ⟨rfl, rfl⟩, ⟨rfl, rfl⟩, ⟨rfl, rfl⟩, ⟨by rw [hnx, h]; rfl, rfl⟩, ⟨ctr (by omega), rfl⟩, trivial⟩ ⟨⟨rfl, rfl⟩, ⟨rfl, rfl⟩, trivial⟩ rfl⟩
  have hkl : k = l.length := by have := dge h; rw [List.length_map] at this; omega
  subst hkl
  clear h
  rw [List.take_length]
  rw [show (!l.all fun r => !decide (r.Unit = u)) = known l u from rfl]
  conv => whnf
  cases h3 : known l u with
  | false =>
    conv => whnf
    exact leaf_i rfl rfl rfl
  | true =>
  conv => whnf
  refine br_i (fun h => ?_) (fun h => ?_)
  · have h : q.Kind = 23 := by simpa using h
    conv => whnf
    refine call_i (h23 h h1 h2) ?_
    conv => whnf
    rw [if_neg (by decide), if_neg (by decide), if_pos h]
    exact leaf_i rfl rfl rfl
  have hk23 : q.Kind ≠ 23 := by simpa using h
  rw [if_neg (by decide), if_neg (by decide), if_neg hk23]
  conv => whnf
  refine call_i (s_Spaces q) ?_
  unfold spaces
  rw [h2]
  obtain ⟨hn, ha⟩ := req_cnt h2
  conv => whnf
  have hpc := fun (f m s : Int) (h0 : 0 ≤ f) (hm : 1 ≤ m) (hfm : f + m ≤ cntOf q) => s_Piece q h2 hk23 f m s h0 hm hfm
  generalize cntOf q = n at *
  generalize hR : partsGo l u (spOf q.Kind) q.At n q (n.toNat + 1) 0 [] = R
  refine loop_i (fun s : Nat × Int × List XPart => ⟨envL [(0, .c (.pv (XRule.sP l))), (1, .c (.pv (.int .i64 u))), (5, .c (.ptr 0 0)), (8, .c (.row 1)), (11, .c (.pv (.int .i64 (spOf q.Kind)))), (12, .c (.pv (.int .i64 q.At))), (13, .c (.pv (.int .i64 n))), (14, .c (.row 2)), (15, .c (.pv (.int .i64 s.2.1)))], resL [(0, .box (q.ps.map .pv)), (1, .row true 8 []), (2, .row true 8 (s.2.2.map XPart.ps))], 3, 125⟩)
    (fun s => (0 ≤ s.2.1 ∧ s.2.1 ≤ n ∧ n - s.2.1 < s.1 ∧ (s.2.2.length : Int) ≤ s.2.1) ∧ partsGo l u (spOf q.Kind) q.At n q s.1 s.2.1 s.2.2 = R) (fun s => s.1) (n.toNat + 1, 0, []) ⟨⟨Int.le_refl _, by show 0 ≤ n; omega, by show n - 0 < ((n.toNat + 1 : Nat) : Int); omega, Int.le_refl _⟩, hR⟩
    (le_mk [(0, _), (1, _), (2, _)] rfl ⟨⟨rfl, rfl⟩, ⟨rfl, rfl⟩, ⟨rfl, rfl⟩, ⟨rfl, rfl⟩, ⟨rfl, rfl⟩, ⟨rfl, rfl⟩, ⟨rfl, rfl⟩, ⟨rfl, rfl⟩, ⟨rfl, rfl⟩, trivial⟩ ⟨⟨rfl, rfl⟩, ⟨rfl, rfl⟩, ⟨rfl, rfl⟩, trivial⟩ rfl) ?_
  rintro ⟨fuel, f, out⟩ ⟨⟨hf0, hfn, hfu, hol⟩, hgo⟩
  dsimp only at hf0 hfn hfu hol hgo
  cases fuel with
  | zero => omega
  | succ fuel =>
  conv => whnf
  refine br_i (fun h => ?_) (fun h => ?_)
  · have h : f < n := by simpa using h
    conv => whnf
    rw [wrap_ok (x := q.At + f) (by omega) (by omega)]
    refine call_i (s_RuleAt l u (spOf q.Kind) (q.At + f)) ?_
    have hstep : partsGo l u (spOf q.Kind) q.At n q (fuel + 1) f out = if ruleAt l u (spOf q.Kind) (q.At + f) < 0 then none else
        match l[(ruleAt l u (spOf q.Kind) (q.At + f)).toNat]? with
        | none => none
        | some r => partsGo l u (spOf q.Kind) q.At n q fuel (f + takeN r q.At n f) (out ++ [⟨r.Port, r.To, pieceOf q f (takeN r q.At n f) r.Shift⟩]) := if_neg (by omega)
    rw [hstep] at hgo
    clear hstep
    rcases ruleAt_cases l u (spOf q.Kind) (q.At + f) with ⟨hr, _⟩ | ⟨k, hk, hr, hhit, _⟩
    · rw [hr] at hgo ⊢
      rw [if_pos (by decide)] at hgo
      conv => whnf
      refine leaf_i rfl rfl ?_
      rw [← hgo]
      rfl
    · rw [hr] at hgo ⊢
      have ix := idx_map l XRule.ps k hk 7
      have hrf := rule_facts (rules_get h1 hk).1
      have hhf := hit_facts hhit
      rw [if_neg (by omega), Int.toNat_natCast, List.getElem?_eq_getElem hk] at hgo
      dsimp only at hgo
      generalize l[k] = r at *
      conv => whnf
      refine ⟨_, ix, ?_⟩
      conv => whnf
      have hm : 1 ≤ takeN r q.At n f ∧ f + takeN r q.At n f ≤ n := by unfold takeN; split <;> omega
      have hp := hpc f (takeN r q.At n f) r.Shift hf0 hm.1 hm.2
      have hmd : takeN r q.At n f = if r.Hi - q.At - f + 1 < n - f then r.Hi - q.At - f + 1 else n - f := rfl
      rw [wrap_ok (x := q.At + f) (by omega) (by omega), wrap_ok (x := r.Hi - (q.At + f)) (by omega) (by omega), wrap_ok (x := r.Hi - (q.At + f) + 1) (by omega) (by omega), wrap_ok (x := n - f) (by omega) (by omega)]
      refine br_i (fun h => ?_) (fun h => ?_)
      focus
        have h := of_decide_eq_true h
        rw [if_neg (by omega)] at hmd
        conv => whnf
        rw [wrap_ok (x := n - f) (by omega) (by omega)]
      rotate_left
      focus
        have h := of_decide_eq_false h
        have hmd2 : takeN r q.At n f = r.Hi - (q.At + f) + 1 := by rw [hmd]; split <;> omega
        clear hmd
        have hmd := hmd2
        conv => whnf
      all_goals
        rw [← hmd]
        clear hmd
        generalize takeN r q.At n f = m at *
        refine ⟨_, ix, ?_⟩
        conv => whnf
        refine ⟨_, ix, ?_⟩
        conv => whnf
        refine ⟨_, ix, ?_⟩
        conv => whnf
        refine call_i hp ?_
        conv => whnf
        refine And.intro rfl ?_
        conv => whnf
        refine ⟨(out ++ [(⟨r.Port, r.To, pieceOf q f m r.Shift⟩ : XPart)]).map XPart.ps, ⟨by rw [List.length_map]; show (out.length + 1) * 96 ≤ 140737488355328; omega, by rw [List.map_append]; rfl⟩, ?_⟩
        conv => whnf
        refine And.intro rfl ?_
        conv => whnf
        exact ⟨(fuel, f + m, out ++ [⟨r.Port, r.To, pieceOf q f m r.Shift⟩]), ⟨⟨⟨by show 0 ≤ f + m; omega, hm.2, by show n - (f + m) < (fuel : Int); omega, by show ((out ++ [_]).length : Int) ≤ f + m; rw [List.length_append, List.length_singleton]; omega⟩, hgo⟩, Nat.lt_succ_self _⟩,
          le_mk [(0, _), (1, _), (2, _)] rfl ⟨⟨rfl, rfl⟩, ⟨rfl, rfl⟩, ⟨rfl, rfl⟩, ⟨rfl, rfl⟩, ⟨rfl, rfl⟩, ⟨rfl, rfl⟩, ⟨rfl, rfl⟩, ⟨rfl, rfl⟩, ⟨i64_eq (wrap_ok (by show -9223372036854775808 ≤ f + m; omega) (by show f + m ≤ 9223372036854775807; omega)), rfl⟩, trivial⟩ ⟨⟨rfl, rfl⟩, ⟨rfl, rfl⟩, ⟨rfl, rfl⟩, trivial⟩ rfl⟩
  · have h : f = n := by have h := of_decide_eq_false h; dsimp only at h; omega
    subst h
    have hstep : partsGo l u (spOf q.Kind) q.At f q (fuel + 1) f out = some out := if_pos (Int.le_refl _)
    rw [hstep] at hgo
    rw [← hgo]
    conv => whnf
    refine br_i (fun h => ?_) (fun h => ?_)
    · have h := of_decide_eq_true h
      rw [List.length_map] at h
      conv => whnf
      refine leaf_i rfl rfl ?_
      rw [show partsOf (some out) = ([], 3) from if_pos h]
      rfl
    · have h := of_decide_eq_false h
      rw [List.length_map] at h
      conv => whnf
      refine leaf_i rfl rfl ?_
      rw [show partsOf (some out) = (out, 0) from if_neg h]
      rfl
theorem at_window {l : List XRule} (h : rulesB l = true) {k : Nat} (hk : k < l.length) {u s p : Int} (hh : hitB u s p l[k] = true) : ruleAt l u s p = k := by
  rcases ruleAt_cases l u s p with ⟨_, hn⟩ | ⟨j, hj, hr, hhit, hmin⟩
  · rw [hn k hk] at hh; cases hh
  · rw [hr]
    rcases Nat.lt_trichotomy j k with hlt | he | hgt
    · have hc := (rules_get h hk).2 j hlt
      have a := hit_facts hhit
      have b := hit_facts hh
      simp [clash] at hc
      omega
    · rw [he]
    · rw [hmin k hgt] at hh; cases hh
def oneF (l : List XRule) (u a n : Int) : Int := if (List.range n.toNat).all (fun i => decide (ruleAt l u 2 (a + (i : Nat)) = ruleAt l u 2 a)) then ruleAt l u 2 a else -1
theorem oneF_none {l : List XRule} {u a n : Int} (h : ruleAt l u 2 a = -1) : oneF l u a n = -1 := by
  unfold oneF
  split
  · exact h
  · rfl
theorem oneF_in {l : List XRule} (h : rulesB l = true) {u a n : Int} {k : Nat} (hk : k < l.length) (hh : hitB u 2 a l[k] = true) (hn : a + n - 1 ≤ l[k].Hi) : oneF l u a n = k := by
  have h0 := at_window h hk hh
  have hf := hit_facts hh
  unfold oneF
  rw [if_pos, h0]
  rw [List.all_eq_true]
  intro i hi
  have hi := List.mem_range.1 hi
  rw [h0, at_window h hk (by simp [hitB, inB]; omega)]
  simp
theorem oneF_out {l : List XRule} {u a n : Int} {k : Nat} (hk : k < l.length) (h0 : ruleAt l u 2 a = k) (hn1 : 1 ≤ n) (hn : l[k].Hi < a + n - 1) : oneF l u a n = -1 := by
  unfold oneF
  rw [if_neg]
  rw [List.all_eq_true]
  intro hall
  have h1 := hall (n.toNat - 1) (List.mem_range.2 (by omega))
  have h1 := of_decide_eq_true h1
  rw [h0] at h1
  rcases ruleAt_cases l u 2 (a + ((n.toNat - 1 : Nat) : Int)) with ⟨hr, _⟩ | ⟨j, hj, hr, hhit, _⟩
  · omega
  · have : j = k := by omega
    subst this
    have := hit_facts hhit
    omega
theorem s_Both (l : List XRule) (u : Int) (q : XReq) (hk23 : q.Kind = 23) (h1 : rulesB l = true) (h2 : specReq q = true) : PureC Try.prog 52 [XRule.sV l, i64v u, q.v] [XPart.sV (bothOf l u q).1, i64v (bothOf l u q).2] := by
  refine pureC_of (Γ := lookT tbl) (il := ilist) tg dr Try.func52 rfl (by kernel_rfl) rfl (Nat.le_of_ble_eq_true rfl) ?_
  obtain ⟨hA, _, hq⟩ := req_is h2
  cases hq <;> rename_i hk hN hW hB hX <;> try (exfalso; omega)
  have hC := s_l10CopyReq q (by unfold XReq.tot; rw [hB]; simp; omega)
  conv => whnf
  refine call_i (s_RuleAt l u 2 q.At) ?_
  rcases ruleAt_cases l u 2 q.At with ⟨hr, _⟩ | ⟨k, hk, hr, hhit, _⟩
  · rw [show bothOf l u q = ([], 2) by unfold bothOf; rw [hr]; rfl]
    rw [hr]
    (repeat' ((conv => whnf); first | exact leaf_i rfl rfl rfl | refine And.intro rfl ?_))
  · have ix := idx_map l XRule.ps k hk 7
    have hrf := rule_facts (rules_get h1 hk).1
    have hhf := hit_facts hhit
    have hbo : bothOf l u q = if q.At + q.N - 1 > l[k].Hi ∨ q.WAt < l[k].Lo ∨ q.WAt + q.Words.length - 1 > l[k].Hi then ([], 2) else ([⟨l[k].Port, l[k].To, ⟨q.Kind, wrap64 (q.At + l[k].Shift), q.N, q.Words, q.Bits, wrap64 (q.WAt + l[k].Shift)⟩⟩], 0) := by
      unfold bothOf
      rw [hr, if_neg (by omega), Int.toNat_natCast, List.getElem?_eq_getElem hk]
    rw [hr, hbo]
    generalize l[k] = r at *
    conv => whnf
    refine ⟨_, ix, ?_⟩
    conv => whnf
    rw [wrap_ok (x := q.At + q.N) (by omega) (by omega), wrap_ok (x := q.At + q.N - 1) (by omega) (by omega)]
    refine br_i (fun h => ?_) (fun h => ?_)
    · have h := of_decide_eq_true h
      rw [if_pos (.inl h)]
      (repeat' ((conv => whnf); first | exact leaf_i rfl rfl rfl | refine And.intro rfl ?_))
    have t1 := of_decide_eq_false h
    conv => whnf
    refine ⟨_, ix, ?_⟩
    conv => whnf
    refine br_i (fun h => ?_) (fun h => ?_)
    · have h := of_decide_eq_true h
      rw [if_pos (.inr (.inl h))]
      (repeat' ((conv => whnf); first | exact leaf_i rfl rfl rfl | refine And.intro rfl ?_))
    have t2 := of_decide_eq_false h
    conv => whnf
    refine ⟨_, ix, ?_⟩
    conv => whnf
    rw [List.length_map, wrap_ok (x := q.WAt + (q.Words.length : Int)) (by omega) (by omega), wrap_ok (x := q.WAt + (q.Words.length : Int) - 1) (by omega) (by omega)]
    refine And.intro rfl ?_
    conv => whnf
    refine br_i (fun h => ?_) (fun h => ?_)
    · have h := of_decide_eq_true h
      rw [if_pos (.inr (.inr h))]
      (repeat' ((conv => whnf); first | exact leaf_i rfl rfl rfl | refine And.intro rfl ?_))
    have t3 := of_decide_eq_false h
    rw [if_neg (by omega)]
    conv => whnf
    refine call_i hC ?_
    (repeat' ((conv => whnf); first | refine br_i (fun _ => ?_) (fun _ => ?_) | (refine cur_leaf rfl rfl rfl ?_ ?_; · first | assumption | omega | exact hw ‹_›) | refine leaf_i rfl rfl ?_ | refine And.intro rfl ?_ | (refine ⟨_, ix, ?_⟩) | (refine And.intro ?_ ?_; · decide)))
    all_goals rfl
theorem go_len (l : List XRule) (u sp a n : Int) (q : XReq) : ∀ (fuel : Nat) (f : Int) (out out2 : List XPart), (∀ p ∈ out, p.Req.tot ≤ q.tot) → partsGo l u sp a n q fuel f out = some out2 → ∀ p ∈ out2, p.Req.tot ≤ q.tot
  | 0, _, _, _, _, h => by cases h
  | fuel + 1, f, out, out2, ho, h => by
    unfold partsGo at h
    split at h
    · cases h; exact ho
    split at h
    · cases h
    split at h
    · cases h
    · rename_i r _
      refine go_len l u sp a n q fuel _ _ _ (fun p hp => ?_) h
      rcases List.mem_append.1 hp with hp | hp
      · exact ho p hp
      · simp at hp
        subst hp
        unfold pieceOf XReq.tot
        dsimp only
        have h1 := cut_bound q.Words f (f + takeN r a n f)
        have h2 := cut_bound q.Bits f (f + takeN r a n f)
        split <;> omega
end Go.Proofs.Ytnpcgheojijpjaa
