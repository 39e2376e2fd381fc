/- Answers: what 'ok' means, and what suits a question, in both packages. -/
import Derived.Test.YtknlfechpcimkaaGreatXLineOk
namespace Go.Proofs.YtknlfechpcimkaaGreat
open Go Go.Vi
set_option linter.unusedVariables false
set_option linter.unusedSimpArgs false
set_option maxRecDepth 100000
def zeroR (x : XResp) (a n w b : Bool) : Bool := (a || decide (x.At = 0)) && (n || decide (x.N = 0)) && (w || decide ((x.Words.length : Int) = 0)) && (b || decide ((x.Bits.length : Int) = 0))
def specResp (x : XResp) : Bool :=
  if !isKind x.Kind || !inB x.Fault 0 255 || !x.Words.all word || !inB x.At 0 65535 then false else
  if x.Fault > 0 then zeroR x false false false false else
  if x.Kind = 1 ∨ x.Kind = 2 then zeroR x false false false true && inB x.Bits.length 1 2000 && decide (Int.tmod x.Bits.length 8 = 0) else
  if x.Kind = 3 ∨ x.Kind = 4 ∨ x.Kind = 23 then zeroR x false false true false && inB x.Words.length 1 125 else
  if x.Kind = 5 then zeroR x true false false true && decide ((x.Bits.length : Int) = 1) else
  if x.Kind = 6 then zeroR x true false true false && decide ((x.Words.length : Int) = 1) else
  if x.Kind = 22 then zeroR x true false true false && decide ((x.Words.length : Int) = 2) else
  if x.Kind = 15 then zeroR x true true false false && inB x.N 1 1968 else
  zeroR x true true false false && inB x.N 1 123
theorem s_kind (n : Int) : PureC Tryz.prog 120 [i64v n] [boolv (isKind n)] := by
  refine pureC_of (Γ := lookT tbl) (il := ilist) tg dr Tryz.func120 rfl (by kernel_rfl) rfl (Nat.le_of_ble_eq_true rfl) ?_
  (repeat' ((conv => whnf); first | refine br_i (fun _ => ?_) (fun _ => ?_) | (refine cur_leaf rfl rfl rfl ?_ ?_; · first | assumption | omega | exact hw ‹_›) | refine leaf_i rfl rfl ?_ | refine And.intro rfl ?_ | refine call_i (s_in _ _ _) ?_ | (refine Or.inl ?_; (conv => whnf); refine call_i (s_in _ _ _) ?_) | (refine And.intro ?_ ?_; · decide)))
  all_goals (refine bool_leaf ?_; first | (simp_all [isKind]; done) | (simp_all [isKind]; omega))
theorem s_zeroR (x : XResp) (a b c d : Bool) : PureC Tryz.prog 121 [x.v, boolv a, boolv b, boolv c, boolv d] [boolv (zeroR x a b c d)] := by
  refine pureC_of (Γ := lookT tbl) (il := ilist) tg dr Tryz.func121 rfl (by kernel_rfl) rfl (Nat.le_of_ble_eq_true rfl) ?_
  (repeat' ((conv => whnf); first | refine br_i (fun _ => ?_) (fun _ => ?_) | (refine cur_leaf rfl rfl rfl ?_ ?_; · first | assumption | omega | exact hw ‹_›) | refine leaf_i rfl rfl ?_ | refine And.intro rfl ?_ | (refine And.intro ?_ ?_; · decide)))
  all_goals (refine bool_leaf ?_; first | (simp_all [zeroR]; done) | (simp_all [zeroR]; omega))
theorem s_RespOk (x : XResp) : PureC Tryz.prog 99 [x.v] [boolv (specResp x)] := by
  refine pureC_of (Γ := lookT tbl) (il := ilist) tg dr Tryz.func99 rfl (by kernel_rfl) rfl (Nat.le_of_ble_eq_true rfl) ?_
  (repeat' ((conv => whnf); first | refine br_i (fun _ => ?_) (fun _ => ?_) | (refine cur_leaf rfl rfl rfl ?_ ?_; · first | assumption | omega | exact hw ‹_›) | refine leaf_i rfl rfl ?_ | refine And.intro rfl ?_ | refine call_i (s_kind _) ?_ | (refine Or.inl ?_; (conv => whnf); refine call_i (s_kind _) ?_) | refine call_i (s_in _ _ _) ?_ | (refine Or.inl ?_; (conv => whnf); refine call_i (s_in _ _ _) ?_) | refine call_i (s_words x.Words) ?_ | (refine Or.inl ?_; (conv => whnf); refine call_i (s_words x.Words) ?_) | refine call_i (s_zeroR x _ _ _ _) ?_ | (refine Or.inl ?_; (conv => whnf); refine call_i (s_zeroR x _ _ _ _) ?_) | (refine And.intro ?_ ?_; · decide)))
  all_goals (refine bool_leaf ?_; first | (simp_all [specResp]; done) | (simp_all [specResp]; omega))
def faultB (x : XResp) : Bool := inB x.Fault 1 255 && zeroR x false false false false
def shapeR (k : Int) : Rng × Rng × Int × Bool :=
  if k = 1 ∨ k = 2 then ((0, 0), (1, 2000), 0, false) else
  if k = 3 ∨ k = 4 ∨ k = 23 then ((1, 125), (0, 0), 0, false) else
  if k = 5 then ((0, 0), (1, 1), 0, true) else
  if k = 6 then ((1, 1), (0, 0), 0, true) else
  if k = 15 then ((0, 0), (0, 0), 1968, true) else
  if k = 16 then ((0, 0), (0, 0), 123, true) else ((2, 2), (0, 0), 0, true)
def implResp (x : XResp) : Bool :=
  if !isKind x.Kind then false else
  if x.Fault ≠ 0 then faultB x else
  if !inB x.Words.length (shapeR x.Kind).1.1 (shapeR x.Kind).1.2 || !inB x.Bits.length (shapeR x.Kind).2.1.1 (shapeR x.Kind).2.1.2 || !x.Words.all word then false else
  if (decide ((shapeR x.Kind).2.1.2 > 1) && decide (Int.tmod x.Bits.length 8 ≠ 0)) || (decide ((shapeR x.Kind).2.2.1 = 0) && decide (x.N ≠ 0)) || (decide ((shapeR x.Kind).2.2.1 > 0) && !inB x.N 1 (shapeR x.Kind).2.2.1) then false else
  ((shapeR x.Kind).2.2.2 && word x.At) || decide (x.At = 0)
theorem m_fault (x : XResp) : PureC Tryz.prog 127 [x.v] [boolv (faultB x)] := by
  refine pureC_of (Γ := lookT tbl) (il := ilist) tg dr Tryz.func127 rfl (by kernel_rfl) rfl (Nat.le_of_ble_eq_true rfl) ?_
  (repeat' ((conv => whnf); first | refine br_i (fun _ => ?_) (fun _ => ?_) | (refine cur_leaf rfl rfl rfl ?_ ?_; · first | assumption | omega | exact hw ‹_›) | refine leaf_i rfl rfl ?_ | refine And.intro rfl ?_ | refine call_i (m_in _ _ _) ?_ | (refine Or.inl ?_; (conv => whnf); refine call_i (m_in _ _ _) ?_) | (refine And.intro ?_ ?_; · decide)))
  all_goals (refine bool_leaf ?_; first | (simp_all [faultB, zeroR]; done) | (simp_all [faultB, zeroR]; omega))
theorem m_shape (n : Int) : PureC Tryz.prog 128 [i64v n] [rngV (shapeR n).1, rngV (shapeR n).2.1, i64v (shapeR n).2.2.1, boolv (shapeR n).2.2.2] := by
  refine pureC_of (Γ := lookT tbl) (il := ilist) tg dr Tryz.func128 rfl (by kernel_rfl) rfl (Nat.le_of_ble_eq_true rfl) ?_
  (repeat' ((conv => whnf); first | refine br_i (fun _ => ?_) (fun _ => ?_) | (refine cur_leaf rfl rfl rfl ?_ ?_; · first | assumption | omega | exact hw ‹_›) | refine leaf_i rfl rfl ?_ | refine And.intro rfl ?_ | (refine And.intro ?_ ?_; · decide)))
  all_goals simp_all [shapeR, rngV, i64v, boolv]
theorem m_RespOk (x : XResp) : PureC Tryz.prog 110 [x.v] [boolv (implResp x)] := by
  refine pureC_of (Γ := lookT tbl) (il := ilist) tg dr Tryz.func110 rfl (by kernel_rfl) rfl (Nat.le_of_ble_eq_true rfl) ?_
  (repeat' ((conv => whnf); first | refine br_i (fun _ => ?_) (fun _ => ?_) | (refine cur_leaf rfl rfl rfl ?_ ?_; · first | assumption | omega | exact hw ‹_›) | refine leaf_i rfl rfl ?_ | refine And.intro rfl ?_ | refine call_i (m_kind _) ?_ | (refine Or.inl ?_; (conv => whnf); refine call_i (m_kind _) ?_) | refine call_i (m_fault x) ?_ | (refine Or.inl ?_; (conv => whnf); refine call_i (m_fault x) ?_) | refine call_i (m_shape _) ?_ | (refine Or.inl ?_; (conv => whnf); refine call_i (m_shape _) ?_) | refine call_i (m_in _ _ _) ?_ | (refine Or.inl ?_; (conv => whnf); refine call_i (m_in _ _ _) ?_) | refine call_i (m_words x.Words) ?_ | (refine Or.inl ?_; (conv => whnf); refine call_i (m_words x.Words) ?_) | refine call_i (m_word _) ?_ | (refine Or.inl ?_; (conv => whnf); refine call_i (m_word _) ?_) | (refine And.intro ?_ ?_; · decide)))
  all_goals (refine bool_leaf ?_; first | (simp_all [implResp]; done) | (simp_all [implResp]; omega))
theorem implResp_eq (x : XResp) : implResp x = specResp x := by
  rw [Bool.eq_iff_iff]
  unfold implResp specResp
  by_cases hk : isKind x.Kind = true
  · have : x.Kind = 1 ∨ x.Kind = 2 ∨ x.Kind = 3 ∨ x.Kind = 4 ∨ x.Kind = 5 ∨ x.Kind = 6 ∨ x.Kind = 15 ∨ x.Kind = 16 ∨ x.Kind = 22 ∨ x.Kind = 23 := by
      simp [isKind, inB] at hk; omega
    by_cases hf : x.Fault = 0
    · cases hall : x.Words.all word with
      | false => simp [hf]
      | true =>
      rcases this with h | h | h | h | h | h | h | h | h | h <;> (clear hk; simp only [h, hf, isKind, shapeR, inB, word, zeroR] at *; simp)
      all_goals (simp only [← List.length_eq_zero_iff]; omega)
    · cases hall : x.Words.all word with
      | false =>
        have h0 : x.Words ≠ [] := by intro e; rw [e] at hall; simp at hall
        simp [hf, hk, faultB, zeroR, h0]
      | true =>
        by_cases hp : x.Fault > 0
        · by_cases hq : x.Fault ≤ 255
          · have h1 : inB x.Fault 1 255 = true := by simp [inB]; omega
            have h0 : inB x.Fault 0 255 = true := by simp [inB]; omega
            have ha : x.At = 0 → inB x.At 0 65535 = true := by intro e; rw [e]; decide
            by_cases hA : x.At = 0
            · have hz : inB 0 0 65535 = true := by decide
              simp [hf, hk, hp, faultB, zeroR, h1, h0, hA, hz]
            · simp [hf, hk, hp, faultB, zeroR, h1, h0, hA]
          · have h1 : inB x.Fault 1 255 = false := by simp [inB]; omega
            have h0 : inB x.Fault 0 255 = false := by simp [inB]; omega
            simp [hf, hk, faultB, h1, h0]
        · have h1 : inB x.Fault 1 255 = false := by simp [inB]; omega
          have h0 : inB x.Fault 0 255 = false := by simp [inB]; omega
          simp [hf, hk, faultB, h1, h0]
  · have hk : isKind x.Kind = false := by simpa using hk
    simp [hk]
def suits (q : XReq) (a : XResp) : Bool :=
  if !specReq q || !specResp a || decide (q.Kind ≠ a.Kind) then false else
  if a.Fault > 0 then true else
  if q.Kind = 1 ∨ q.Kind = 2 then (a.Bits.drop q.N.toNat).all (fun b => !b) && decide ((a.Bits.length : Int) = Int.tdiv (q.N + 7) 8 * 8) else
  if q.Kind = 3 ∨ q.Kind = 4 ∨ q.Kind = 23 then decide ((a.Words.length : Int) = q.N) else
  if q.Kind = 5 then decide (a.At = q.At) && decide (a.Bits = q.Bits) else
  if q.Kind = 6 ∨ q.Kind = 22 then decide (a.At = q.At) && decide (a.Words = q.Words) else
  if q.Kind = 15 then decide (a.At = q.At) && decide (a.N = q.Bits.length) else
  decide (a.At = q.At) && decide (a.N = q.Words.length)
theorem s_sameW (l m : List Int) : PureC Tryz.prog 71 [intsV l, intsV m] [boolv (decide (l = m))] := by
  refine pureC_fit ⟨_, Tryz.func71, by kernel_rfl, rfl⟩ fun hf => ?_
  have hl : l.length ≤ 9223372036854775807 := fits_len (hf (intsV l) (by simp))
  refine pureC_of (Γ := lookT tbl) (il := ilist) tg dr Tryz.func71 rfl (by kernel_rfl) rfl (Nat.le_of_ble_eq_true rfl) ?_
  conv => whnf
  refine br_i (fun h => ?_) (fun h => ?_) <;> conv => whnf
  · refine leaf_i rfl rfl ?_
    have : l ≠ m := fun e => by subst e; simp at h
    simp [boolv, this]
  have hlen : l.length = m.length := by simp at h; omega
  refine loop_i (fun k : Nat => ⟨envL [(0, .c (.pv (intsP l))), (1, .c (.pv (intsP m))), (5, .c (.pv (.int .i64 k)))], resL [], 0, 26⟩) (fun k => k ≤ l.length ∧ l.take k = m.take k) (fun k => l.length - k) 0 ⟨Nat.zero_le _, rfl⟩ (le_mk [] rfl ⟨⟨rfl, rfl⟩, ⟨rfl, rfl⟩, ⟨rfl, rfl⟩, trivial⟩ trivial rfl) ?_
  intro k ⟨hk, hs⟩
  conv => whnf
  refine br_i (fun h => ?_) (fun h => ?_)
  · have hlt : k < l.length := by simpa using h
    have hlt2 : k < m.length := by omega
    conv => whnf
    refine ⟨_, idx_map l intEl k hlt 1, ?_⟩
    conv => whnf
    refine ⟨_, idx_map m intEl k hlt2 1, ?_⟩
    conv => whnf
    refine And.intro rfl ?_
    conv => whnf
    refine br_i (fun h => ?_) (fun h => ?_) <;> conv => whnf
    · refine leaf_i rfl rfl ?_
      have : l ≠ m := ne_of_get hlt hlt2 (by simpa using h)
      simp [boolv, this]
    · exact ⟨k + 1, ⟨⟨hlt, take_eq_succ hs hlt hlt2 (by simpa using h)⟩, by omega⟩, le_mk [] rfl ⟨⟨rfl, rfl⟩, ⟨rfl, rfl⟩, ⟨ctr (by omega), rfl⟩, trivial⟩ trivial rfl⟩
  · have hk : l.length ≤ k := by simpa using h
    conv => whnf
    refine leaf_i rfl rfl ?_
    have : l = m := take_eq_all hs hk hlen.symm
    simp [boolv, this]
theorem m_indexB (l : List Bool) (b : Bool) : PureC Tryz.prog 112 [boolsV l, boolv b] [i64v (firstBad (fun x => !(b == x)) l)] := by
  refine pureC_fit ⟨_, Tryz.func112, by kernel_rfl, rfl⟩ fun hf => ?_
  have hl : l.length ≤ 9223372036854775807 := fits_len (hf (boolsV l) (by simp))
  refine pureC_of (Γ := lookT tbl) (il := ilist) tg dr Tryz.func112 rfl (by kernel_rfl) rfl (Nat.le_of_ble_eq_true rfl) ?_
  conv => whnf
  refine loop_i (fun k : Nat => ⟨envL [(0, .c (.pv (boolsP l))), (1, .c (.pv (.bool b))), (7, .c (.pv (.int .i64 l.length))), (8, .c (.pv (.int .i64 k)))], resL [], 0, 19⟩) (fun k => k ≤ l.length ∧ (l.take k).all (fun x => !(b == x)) = true) (fun k => l.length - k) 0 ⟨Nat.zero_le _, rfl⟩ (le_mk [] rfl ⟨⟨rfl, rfl⟩, ⟨rfl, rfl⟩, ⟨i64_eq (by simp), rfl⟩, ⟨rfl, rfl⟩, trivial⟩ trivial rfl) ?_
  intro k ⟨hk, hs⟩
  conv => whnf
  refine br_i (fun h => ?_) (fun h => ?_)
  · have hlt : k < l.length := by simpa using h
    conv => whnf
    refine ⟨_, idx_map l boolEl k hlt 1, ?_⟩
    conv => whnf
    refine br_i (fun h => ?_) (fun h => ?_) <;> conv => whnf
    · refine leaf_i rfl rfl ?_
      rw [firstBad_at hs hlt (by rw [h]; rfl)]
      rfl
    · exact ⟨k + 1, ⟨⟨hlt, all_succ hs hlt (by rw [h]; rfl)⟩, by omega⟩, le_mk [] rfl ⟨⟨rfl, rfl⟩, ⟨rfl, rfl⟩, ⟨rfl, rfl⟩, ⟨ctr (by omega), rfl⟩, trivial⟩ trivial rfl⟩
  · have hk : l.length ≤ k := by simpa using h
    conv => whnf
    refine leaf_i rfl rfl ?_
    rw [firstBad_none (all_end hs hk)]
    rfl
theorem m_containsB (l : List Bool) (b : Bool) : PureC Tryz.prog 84 [boolsV l, boolv b] [boolv (!l.all (fun x => !(b == x)))] := by
  refine pureC_of (Γ := lookT tbl) (il := ilist) tg dr Tryz.func84 rfl (by kernel_rfl) rfl (Nat.le_of_ble_eq_true rfl) ?_
  (repeat' ((conv => whnf); first | refine br_i (fun _ => ?_) (fun _ => ?_) | (refine cur_leaf rfl rfl rfl ?_ ?_; · first | assumption | omega | exact hw ‹_›) | refine leaf_i rfl rfl ?_ | refine And.intro rfl ?_ | refine call_i (m_indexB l b) ?_ | (refine Or.inl ?_; (conv => whnf); refine call_i (m_indexB l b) ?_) | (refine And.intro ?_ ?_; · decide)))
  all_goals (rw [← firstBad_ge]; rfl)
def bitsSuit (n : Int) (l : List Bool) : Bool := decide ((l.length : Int) = Int.tdiv (n + 7) 8 * 8) && (l.drop n.toNat).all (fun b => !b)
theorem m_bitsSuit (n : Int) (l : List Bool) (h0 : 1 ≤ n) (h1 : n ≤ 2000) : PureC Tryz.prog 111 [i64v n, boolsV l] [boolv (bitsSuit n l)] := by
  refine pureC_of (Γ := lookT tbl) (il := ilist) tg dr Tryz.func111 rfl (by kernel_rfl) rfl (Nat.le_of_ble_eq_true rfl) ?_
  have hw : IntKind.i64.wrap (n + 7) = n + 7 := wrap_ok (by omega) (by omega)
  have hd : Int.tdiv (n + 7) 8 = (n + 7) / 8 := Int.tdiv_eq_ediv_of_nonneg (by omega)
  have hw2 : IntKind.i64.wrap ((n + 7) / 8) = (n + 7) / 8 := wrap_ok (by omega) (by omega)
  have hw3 : IntKind.i64.wrap ((n + 7) / 8 * 8) = (n + 7) / 8 * 8 := wrap_ok (by omega) (by omega)
  conv => whnf
  refine And.intro (by decide) ?_
  conv => whnf
  refine br_i (fun h => ?_) (fun h => ?_)
  · rw [hw, hd, hw2, hw3, List.length_map] at h
    have hlen : (l.length : Int) = (n + 7) / 8 * 8 := by simpa using h
    conv => whnf
    refine ⟨_, cut_i boolEl 1 l n (by omega), ?_⟩
    (repeat' ((conv => whnf); first | refine br_i (fun _ => ?_) (fun _ => ?_) | (refine cur_leaf rfl rfl rfl ?_ ?_; · first | assumption | omega | exact hw ‹_›) | refine leaf_i rfl rfl ?_ | refine And.intro rfl ?_ | refine call_i (m_containsB (l.drop n.toNat) true) ?_ | (refine Or.inl ?_; (conv => whnf); refine call_i (m_containsB (l.drop n.toNat) true) ?_) | (refine And.intro ?_ ?_; · decide)))
    all_goals (refine bool_leaf ?_; first | (simp_all [bitsSuit, hd]; done) | (simp_all [bitsSuit, hd]; omega))
  · rw [hw, hd, hw2, hw3, List.length_map] at h
    have hlen : ¬ (l.length : Int) = (n + 7) / 8 * 8 := by simpa using h
    (repeat' ((conv => whnf); first | refine br_i (fun _ => ?_) (fun _ => ?_) | (refine cur_leaf rfl rfl rfl ?_ ?_; · first | assumption | omega | exact hw ‹_›) | refine leaf_i rfl rfl ?_ | refine And.intro rfl ?_ | (refine And.intro ?_ ?_; · decide)))
    all_goals (refine bool_leaf ?_; first | (simp_all [bitsSuit, hd]; done) | (simp_all [bitsSuit, hd]; omega))
theorem resp_facts (x : XResp) (h : specResp x = true) (hf : ¬ x.Fault > 0) : ((x.Kind = 1 ∨ x.Kind = 2) → x.Words = [] ∧ 1 ≤ x.Bits.length ∧ x.Bits.length ≤ 2000) ∧ ((x.Kind = 3 ∨ x.Kind = 4 ∨ x.Kind = 23) → x.Bits = []) ∧ (x.Kind = 5 → x.Words = [] ∧ x.Bits.length = 1) ∧ ((x.Kind = 6 ∨ x.Kind = 22) → x.Bits = []) ∧ ((x.Kind = 15 ∨ x.Kind = 16) → x.Words = [] ∧ x.Bits = []) := by
  unfold specResp at h
  split at h
  · cases h
  first | rw [if_neg hf] at h | skip
  simp only [← List.length_eq_zero_iff]
  refine ⟨fun k => ?_, fun k => ?_, fun k => ?_, fun k => ?_, fun k => ?_⟩
  · rcases k with k | k <;> simp [k, zeroR, inB, ← List.length_eq_zero_iff] at h <;> omega
  · rcases k with k | k | k <;> simp [k, zeroR, inB, ← List.length_eq_zero_iff] at h <;> omega
  · simp [k, zeroR, inB, ← List.length_eq_zero_iff] at h; omega
  · rcases k with k | k <;> simp [k, zeroR, inB, ← List.length_eq_zero_iff] at h <;> omega
  · rcases k with k | k <;> simp [k, zeroR, inB, ← List.length_eq_zero_iff] at h <;> omega
theorem req_facts (x : XReq) (h : specReq x = true) : ((x.Kind = 1 ∨ x.Kind = 2) → 1 ≤ x.N ∧ x.N ≤ 2000) ∧ (x.Kind = 5 → x.Words = [] ∧ x.Bits.length = 1) ∧ ((x.Kind = 6 ∨ x.Kind = 22) → x.Bits = []) ∧ (x.Kind = 15 → x.Words = [] ∧ x.Bits.length ≤ 1968) ∧ (x.Kind = 16 → x.Bits = [] ∧ x.Words.length ≤ 123) := by
  unfold specReq at h
  split at h
  · cases h
  simp only [← List.length_eq_zero_iff]
  refine ⟨fun k => ?_, fun k => ?_, fun k => ?_, fun k => ?_, fun k => ?_⟩
  · rcases k with k | k <;> simp [k, zeroB, inB, ← List.length_eq_zero_iff] at h <;> omega
  · simp [k, zeroB, inB, ← List.length_eq_zero_iff] at h; omega
  · rcases k with k | k <;> simp [k, zeroB, inB, ← List.length_eq_zero_iff] at h <;> omega
  · simp [k, zeroB, inB, ← List.length_eq_zero_iff] at h; omega
  · simp [k, zeroB, inB, ← List.length_eq_zero_iff] at h; omega
theorem resp_fault (x : XResp) (h : specResp x = true) : 0 ≤ x.Fault := by
  by_cases hf : inB x.Fault 0 255 = true
  · simp [inB] at hf; omega
  · simp [specResp, hf] at h
theorem req_kind (x : XReq) (h : specReq x = true) : x.Kind = 1 ∨ x.Kind = 2 ∨ x.Kind = 3 ∨ x.Kind = 4 ∨ x.Kind = 5 ∨ x.Kind = 6 ∨ x.Kind = 15 ∨ x.Kind = 16 ∨ x.Kind = 22 ∨ x.Kind = 23 := by
  rw [← implReq_eq] at h
  have hk : isKind x.Kind = true := by
    cases hk : isKind x.Kind with
    | true => rfl
    | false => simp [implReq, hk] at h
  simp [isKind, inB] at hk
  omega
theorem all_step {l : List Bool} {m j : Nat} (hm : m ≤ j) (hj : j < l.length) (h : ((l.take j).drop m).all (fun b => !b) = true) (hb : l[j] = false) : ((l.take (j + 1)).drop m).all (fun b => !b) = true := by
  rw [List.take_succ_eq_append_getElem hj, List.drop_append_of_le_length (by rw [List.length_take]; omega), List.all_append, h, hb]
  rfl
theorem all_stop {l : List Bool} {m j : Nat} (hm : m ≤ j) (hj : j < l.length) (hb : l[j] = true) : (l.drop m).all (fun b => !b) = false := by
  rw [List.all_eq_false]
  refine ⟨l[j], ?_, by simp [hb]⟩
  rw [show l[j] = (l.drop m)[j - m]'(by rw [List.length_drop]; omega) by simp [show m + (j - m) = j by omega]]
  exact List.getElem_mem _
theorem s_Suits (q : XReq) (a : XResp) : PureC Tryz.prog 68 [q.v, a.v] [boolv (suits q a)] := by
  have hsq := s_ReqOk q
  have hsa := s_RespOk a
  have fa := resp_facts a
  have fq := req_facts q
  have fk := req_kind q
  have hd : suits q a = suits q a := rfl
  conv at hd => rhs; unfold suits
  rw [hd]
  clear hd
  obtain ⟨k, qa, qn, qw, qb, qx⟩ := q
  obtain ⟨k2, af, aa, an, aw, ab⟩ := a
  dsimp only at *
  generalize specReq ⟨k, qa, qn, qw, qb, qx⟩ = B1 at *
  generalize specResp ⟨k2, af, aa, an, aw, ab⟩ = B2 at *
  refine pureC_of (Γ := lookT tbl) (il := ilist) tg dr Tryz.func68 rfl (by kernel_rfl) rfl (Nat.le_of_ble_eq_true rfl) ?_
  cases B1 with
  | false => (repeat' ((conv => whnf); first | refine br_i (fun _ => ?_) (fun _ => ?_) | (refine cur_leaf rfl rfl rfl ?_ ?_; · first | assumption | omega | exact hw ‹_›) | refine leaf_i rfl rfl ?_ | refine And.intro rfl ?_ | refine call_i (hsq) ?_ | (refine Or.inl ?_; (conv => whnf); refine call_i (hsq) ?_) | refine call_i (hsa) ?_ | (refine Or.inl ?_; (conv => whnf); refine call_i (hsa) ?_) | (refine And.intro ?_ ?_; · decide))); all_goals rfl
  | true =>
  cases B2 with
  | false => (repeat' ((conv => whnf); first | refine br_i (fun _ => ?_) (fun _ => ?_) | (refine cur_leaf rfl rfl rfl ?_ ?_; · first | assumption | omega | exact hw ‹_›) | refine leaf_i rfl rfl ?_ | refine And.intro rfl ?_ | refine call_i (hsq) ?_ | (refine Or.inl ?_; (conv => whnf); refine call_i (hsq) ?_) | refine call_i (hsa) ?_ | (refine Or.inl ?_; (conv => whnf); refine call_i (hsa) ?_) | (refine And.intro ?_ ?_; · decide))); all_goals rfl
  | true =>
  replace fa := fa rfl
  replace fq := fq rfl
  replace fk := fk rfl
  by_cases hk : k = k2
  · subst hk
    conv => whnf
    refine call_i hsq ?_
    conv => whnf
    refine call_i hsa ?_
    conv => whnf
    refine br_i (fun h => by simp at h) (fun _ => ?_)
    conv => whnf
    refine br_i (fun h => ?_) (fun h => ?_)
    · have hf : af > 0 := by simpa using h
      rw [if_neg (by simp), if_pos hf]
      (repeat' ((conv => whnf); first | refine br_i (fun _ => ?_) (fun _ => ?_) | (refine cur_leaf rfl rfl rfl ?_ ?_; · first | assumption | omega | exact hw ‹_›) | refine leaf_i rfl rfl ?_ | refine And.intro rfl ?_ | (refine And.intro ?_ ?_; · decide)))
      all_goals rfl
    have hf : ¬ af > 0 := by simpa using h
    replace fa := fa hf
    rw [if_neg (by simp), if_neg hf]
    clear h
    rcases fk with rfl | rfl | rfl | rfl | rfl | rfl | rfl | rfl | rfl | rfl
    iterate 2
      · rw [if_pos (by decide)]
        obtain ⟨n1, n2⟩ := fq.1 (by decide)
        obtain ⟨w0, b1, b2⟩ := fa.1 (by decide)
        have hw : IntKind.i64.wrap (qn + 7) = qn + 7 := wrap_ok (by omega) (by omega)
        have hd : Int.tdiv (qn + 7) 8 = (qn + 7) / 8 := Int.tdiv_eq_ediv_of_nonneg (by omega)
        have hw2 : IntKind.i64.wrap ((qn + 7) / 8) = (qn + 7) / 8 := wrap_ok (by omega) (by omega)
        have hw3 : IntKind.i64.wrap ((qn + 7) / 8 * 8) = (qn + 7) / 8 * 8 := wrap_ok (by omega) (by omega)
        conv => whnf
        refine loop_i (fun j : Nat => ⟨envL [(2, .c (.ptr 0 0)), (3, .c (.ptr 1 0)), (5, .c (.pv (.int .i64 j)))], resL [(0, .box [.pv (.int .i64 _), .pv (.int .i64 qa), .pv (.int .i64 qn), .pv (intsP qw), .pv (boolsP qb), .pv (.int .i64 qx)]), (1, .box [.pv (.int .i64 _), .pv (.int .i64 af), .pv (.int .i64 aa), .pv (.int .i64 an), .pv (intsP aw), .pv (boolsP ab)])], 2, 123⟩) (fun j => qn.toNat ≤ j ∧ ((ab.take j).drop qn.toNat).all (fun b => !b) = true) (fun j => ab.length - j) qn.toNat ⟨Nat.le_refl _, by simp [List.drop_take]⟩ (le_mk [(0, _), (1, _)] rfl ⟨⟨rfl, rfl⟩, ⟨rfl, rfl⟩, ⟨i64_eq (by show qn = _; omega), rfl⟩, trivial⟩ ⟨⟨rfl, rfl⟩, ⟨rfl, rfl⟩, trivial⟩ rfl) ?_
        intro j ⟨hj, hs⟩
        conv => whnf
        refine br_i (fun h => ?_) (fun h => ?_)
        · have hlt : j < ab.length := by simpa using h
          conv => whnf
          refine ⟨_, idx_map ab boolEl j hlt 1, ?_⟩
          conv => whnf
          refine br_i (fun h => ?_) (fun h => ?_) <;> conv => whnf
          · refine leaf_i rfl rfl ?_
            rw [all_stop hj hlt h]; rfl
          · exact ⟨j + 1, ⟨⟨by omega, all_step hj hlt hs h⟩, by omega⟩, le_mk [] rfl ⟨⟨rfl, rfl⟩, ⟨rfl, rfl⟩, ⟨ctr (by omega), rfl⟩, trivial⟩ ⟨⟨rfl, rfl⟩, ⟨rfl, rfl⟩, trivial⟩ rfl⟩
        · have hge : ab.length ≤ j := by simpa using h
          rw [List.take_of_length_le hge] at hs
          rw [hs, hd]
          (repeat' ((conv => whnf); first | refine br_i (fun _ => ?_) (fun _ => ?_) | (refine cur_leaf rfl rfl rfl ?_ ?_; · first | assumption | omega | exact hw ‹_›) | refine leaf_i rfl rfl ?_ | refine And.intro rfl ?_ | (refine And.intro ?_ ?_; · decide)))
          all_goals (rw [hw, hd, hw2, hw3]; (refine bool_leaf ?_; first | (simp_all []; done) | (simp_all []; omega)))
    iterate 2
      · rw [if_neg (by decide), if_pos (by decide)]
        (repeat' ((conv => whnf); first | refine br_i (fun _ => ?_) (fun _ => ?_) | (refine cur_leaf rfl rfl rfl ?_ ?_; · first | assumption | omega | exact hw ‹_›) | refine leaf_i rfl rfl ?_ | refine And.intro rfl ?_ | (refine And.intro ?_ ?_; · decide)))
        all_goals (refine bool_leaf ?_; first | (simp_all []; done) | (simp_all []; omega))
    · rw [if_neg (by decide), if_neg (by decide), if_pos (by decide)]
      obtain ⟨c, rfl⟩ := List.length_eq_one_iff.1 (fq.2.1 rfl).2
      obtain ⟨b, rfl⟩ := List.length_eq_one_iff.1 (fa.2.2.1 rfl).2
      (repeat' ((conv => whnf); first | refine br_i (fun _ => ?_) (fun _ => ?_) | (refine cur_leaf rfl rfl rfl ?_ ?_; · first | assumption | omega | exact hw ‹_›) | refine leaf_i rfl rfl ?_ | refine And.intro rfl ?_ | (refine ⟨[.bool b], ⟨⟨by decide, rfl⟩, rfl⟩, ?_⟩) | (refine ⟨[.bool c], ⟨⟨by decide, rfl⟩, rfl⟩, ?_⟩) | (refine And.intro ?_ ?_; · decide)))
      all_goals (refine bool_leaf ?_; first | (simp_all []; done) | (simp_all []; omega))
    · rw [if_neg (by decide), if_neg (by decide), if_neg (by decide), if_pos (by decide)]
      (repeat' ((conv => whnf); first | refine br_i (fun _ => ?_) (fun _ => ?_) | (refine cur_leaf rfl rfl rfl ?_ ?_; · first | assumption | omega | exact hw ‹_›) | refine leaf_i rfl rfl ?_ | refine And.intro rfl ?_ | refine call_i (s_sameW aw qw) ?_ | (refine Or.inl ?_; (conv => whnf); refine call_i (s_sameW aw qw) ?_) | (refine And.intro ?_ ?_; · decide)))
      all_goals (refine bool_leaf ?_; first | (simp_all []; done) | (simp_all []; omega))
    · rw [if_neg (by decide), if_neg (by decide), if_neg (by decide), if_neg (by decide), if_pos (by decide)]
      (repeat' ((conv => whnf); first | refine br_i (fun _ => ?_) (fun _ => ?_) | (refine cur_leaf rfl rfl rfl ?_ ?_; · first | assumption | omega | exact hw ‹_›) | refine leaf_i rfl rfl ?_ | refine And.intro rfl ?_ | (refine And.intro ?_ ?_; · decide)))
      all_goals (refine bool_leaf ?_; first | (simp_all []; done) | (simp_all []; omega))
    · rw [if_neg (by decide), if_neg (by decide), if_neg (by decide), if_neg (by decide), if_neg (by decide)]
      (repeat' ((conv => whnf); first | refine br_i (fun _ => ?_) (fun _ => ?_) | (refine cur_leaf rfl rfl rfl ?_ ?_; · first | assumption | omega | exact hw ‹_›) | refine leaf_i rfl rfl ?_ | refine And.intro rfl ?_ | (refine And.intro ?_ ?_; · decide)))
      all_goals (refine bool_leaf ?_; first | (simp_all []; done) | (simp_all []; omega))
    · rw [if_neg (by decide), if_neg (by decide), if_neg (by decide), if_pos (by decide)]
      (repeat' ((conv => whnf); first | refine br_i (fun _ => ?_) (fun _ => ?_) | (refine cur_leaf rfl rfl rfl ?_ ?_; · first | assumption | omega | exact hw ‹_›) | refine leaf_i rfl rfl ?_ | refine And.intro rfl ?_ | refine call_i (s_sameW aw qw) ?_ | (refine Or.inl ?_; (conv => whnf); refine call_i (s_sameW aw qw) ?_) | (refine And.intro ?_ ?_; · decide)))
      all_goals (refine bool_leaf ?_; first | (simp_all []; done) | (simp_all []; omega))
    · rw [if_neg (by decide), if_pos (by decide)]
      (repeat' ((conv => whnf); first | refine br_i (fun _ => ?_) (fun _ => ?_) | (refine cur_leaf rfl rfl rfl ?_ ?_; · first | assumption | omega | exact hw ‹_›) | refine leaf_i rfl rfl ?_ | refine And.intro rfl ?_ | (refine And.intro ?_ ?_; · decide)))
      all_goals (refine bool_leaf ?_; first | (simp_all []; done) | (simp_all []; omega))
  · conv => whnf
    refine call_i hsq ?_
    conv => whnf
    refine call_i hsa ?_
    conv => whnf
    refine br_i (fun h => ?_) (fun h => absurd (by simpa using h) hk)
    rw [if_pos (by simp [hk])]
    (repeat' ((conv => whnf); first | refine br_i (fun _ => ?_) (fun _ => ?_) | (refine cur_leaf rfl rfl rfl ?_ ?_; · first | assumption | omega | exact hw ‹_›) | refine leaf_i rfl rfl ?_ | refine And.intro rfl ?_ | (refine And.intro ?_ ?_; · decide)))
    all_goals rfl
theorem m_Suits (q : XReq) (a : XResp) : PureC Tryz.prog 82 [q.v, a.v] [boolv (suits q a)] := by
  have hsq := m_ReqOk q
  have hsa := m_RespOk a
  rw [implReq_eq] at hsq
  rw [implResp_eq] at hsa
  have fa := resp_facts a
  have fq := req_facts q
  have fk := req_kind q
  have hd : suits q a = suits q a := rfl
  conv at hd => rhs; unfold suits
  rw [hd]
  clear hd
  obtain ⟨k, qa, qn, qw, qb, qx⟩ := q
  obtain ⟨k2, af, aa, an, aw, ab⟩ := a
  dsimp only at *
  generalize specReq ⟨k, qa, qn, qw, qb, qx⟩ = B1 at *
  have hsa0 : specResp ⟨k2, af, aa, an, aw, ab⟩ = true → 0 ≤ af := fun h => by
    have := resp_fault _ h; exact this
  generalize specResp ⟨k2, af, aa, an, aw, ab⟩ = B2 at *
  refine pureC_of (Γ := lookT tbl) (il := ilist) tg dr Tryz.func82 rfl (by kernel_rfl) rfl (Nat.le_of_ble_eq_true rfl) ?_
  cases B1 with
  | false => (repeat' ((conv => whnf); first | refine br_i (fun _ => ?_) (fun _ => ?_) | (refine cur_leaf rfl rfl rfl ?_ ?_; · first | assumption | omega | exact hw ‹_›) | refine leaf_i rfl rfl ?_ | refine And.intro rfl ?_ | refine call_i (hsq) ?_ | (refine Or.inl ?_; (conv => whnf); refine call_i (hsq) ?_) | refine call_i (hsa) ?_ | (refine Or.inl ?_; (conv => whnf); refine call_i (hsa) ?_) | (refine And.intro ?_ ?_; · decide))); all_goals rfl
  | true =>
  cases B2 with
  | false => (repeat' ((conv => whnf); first | refine br_i (fun _ => ?_) (fun _ => ?_) | (refine cur_leaf rfl rfl rfl ?_ ?_; · first | assumption | omega | exact hw ‹_›) | refine leaf_i rfl rfl ?_ | refine And.intro rfl ?_ | refine call_i (hsq) ?_ | (refine Or.inl ?_; (conv => whnf); refine call_i (hsq) ?_) | refine call_i (hsa) ?_ | (refine Or.inl ?_; (conv => whnf); refine call_i (hsa) ?_) | (refine And.intro ?_ ?_; · decide))); all_goals rfl
  | true =>
  replace fa := fa rfl
  replace fq := fq rfl
  replace fk := fk rfl
  by_cases hk : k = k2
  · subst hk
    conv => whnf
    refine call_i hsq ?_
    conv => whnf
    refine call_i hsa ?_
    conv => whnf
    refine br_i (fun h => by simp at h) (fun _ => ?_)
    conv => whnf
    refine br_i (fun h => ?_) (fun h => ?_)
    · have hf : af > 0 := by have := hsa0 rfl; simp at h; omega
      rw [if_neg (by simp), if_pos hf]
      (repeat' ((conv => whnf); first | refine br_i (fun _ => ?_) (fun _ => ?_) | (refine cur_leaf rfl rfl rfl ?_ ?_; · first | assumption | omega | exact hw ‹_›) | refine leaf_i rfl rfl ?_ | refine And.intro rfl ?_ | (refine And.intro ?_ ?_; · decide)))
      all_goals rfl
    have hf0 : af = 0 := by simpa using h
    have hf : ¬ af > 0 := by omega
    replace fa := fa hf
    rw [if_neg (by simp), if_neg hf]
    clear h
    rcases fk with rfl | rfl | rfl | rfl | rfl | rfl | rfl | rfl | rfl | rfl
    iterate 2
      · rw [if_pos (by decide)]
        obtain ⟨n1, n2⟩ := fq.1 (by decide)
        (repeat' ((conv => whnf); first | refine br_i (fun _ => ?_) (fun _ => ?_) | (refine cur_leaf rfl rfl rfl ?_ ?_; · first | assumption | omega | exact hw ‹_›) | refine leaf_i rfl rfl ?_ | refine And.intro rfl ?_ | refine call_i (m_bitsSuit qn ab n1 n2) ?_ | (refine Or.inl ?_; (conv => whnf); refine call_i (m_bitsSuit qn ab n1 n2) ?_) | (refine And.intro ?_ ?_; · decide)))
        all_goals (show [boolv (bitsSuit qn ab)] = _; rw [bitsSuit, Bool.and_comm])
    iterate 2
      · rw [if_neg (by decide), if_pos (by decide)]
        (repeat' ((conv => whnf); first | refine br_i (fun _ => ?_) (fun _ => ?_) | (refine cur_leaf rfl rfl rfl ?_ ?_; · first | assumption | omega | exact hw ‹_›) | refine leaf_i rfl rfl ?_ | refine And.intro rfl ?_ | (refine And.intro ?_ ?_; · decide)))
        all_goals (refine bool_leaf ?_; first | (simp_all []; done) | (simp_all []; omega))
    · rw [if_neg (by decide), if_neg (by decide), if_pos (by decide)]
      obtain ⟨w1, _⟩ := fq.2.1 rfl
      obtain ⟨w2, _⟩ := fa.2.2.1 rfl
      subst w1 w2
      (repeat' ((conv => whnf); first | refine br_i (fun _ => ?_) (fun _ => ?_) | (refine cur_leaf rfl rfl rfl ?_ ?_; · first | assumption | omega | exact hw ‹_›) | refine leaf_i rfl rfl ?_ | refine And.intro rfl ?_ | refine call_i (m_eqI [] []) ?_ | (refine Or.inl ?_; (conv => whnf); refine call_i (m_eqI [] []) ?_) | refine call_i (m_eqB ab qb) ?_ | (refine Or.inl ?_; (conv => whnf); refine call_i (m_eqB ab qb) ?_) | (refine And.intro ?_ ?_; · decide)))
      all_goals (refine bool_leaf ?_; first | (simp_all []; done) | (simp_all []; omega))
    · rw [if_neg (by decide), if_neg (by decide), if_neg (by decide), if_pos (by decide)]
      obtain w1 := fq.2.2.1 (by decide)
      obtain w2 := fa.2.2.2.1 (by decide)
      subst w1 w2
      (repeat' ((conv => whnf); first | refine br_i (fun _ => ?_) (fun _ => ?_) | (refine cur_leaf rfl rfl rfl ?_ ?_; · first | assumption | omega | exact hw ‹_›) | refine leaf_i rfl rfl ?_ | refine And.intro rfl ?_ | refine call_i (m_eqI aw qw) ?_ | (refine Or.inl ?_; (conv => whnf); refine call_i (m_eqI aw qw) ?_) | refine call_i (m_eqB [] []) ?_ | (refine Or.inl ?_; (conv => whnf); refine call_i (m_eqB [] []) ?_) | (refine And.intro ?_ ?_; · decide)))
      all_goals (refine bool_leaf ?_; first | (simp_all []; done) | (simp_all []; omega))
    · rw [if_neg (by decide), if_neg (by decide), if_neg (by decide), if_neg (by decide), if_pos (by decide)]
      obtain ⟨w1, w2⟩ := fq.2.2.2.1 rfl
      subst w1
      have hw : writtenF ⟨15, qa, qn, [], qb, qx⟩ = qb.length := by simp [writtenF]; exact wrap_ok (by omega) (by omega)
      (repeat' ((conv => whnf); first | refine br_i (fun _ => ?_) (fun _ => ?_) | (refine cur_leaf rfl rfl rfl ?_ ?_; · first | assumption | omega | exact hw ‹_›) | refine leaf_i rfl rfl ?_ | refine And.intro rfl ?_ | refine call_i (m_written _) ?_ | (refine Or.inl ?_; (conv => whnf); refine call_i (m_written _) ?_) | (refine And.intro ?_ ?_; · decide)))
      all_goals (first | (refine bool_leaf ?_; first | (simp_all []; done) | (simp_all []; omega)) | (rw [hw]; (refine bool_leaf ?_; first | (simp_all []; done) | (simp_all []; omega))))
    · rw [if_neg (by decide), if_neg (by decide), if_neg (by decide), if_neg (by decide), if_neg (by decide)]
      obtain ⟨w1, w2⟩ := fq.2.2.2.2 rfl
      subst w1
      have hw : writtenF ⟨16, qa, qn, qw, [], qx⟩ = qw.length := by simp [writtenF]; exact wrap_ok (by omega) (by omega)
      (repeat' ((conv => whnf); first | refine br_i (fun _ => ?_) (fun _ => ?_) | (refine cur_leaf rfl rfl rfl ?_ ?_; · first | assumption | omega | exact hw ‹_›) | refine leaf_i rfl rfl ?_ | refine And.intro rfl ?_ | refine call_i (m_written _) ?_ | (refine Or.inl ?_; (conv => whnf); refine call_i (m_written _) ?_) | (refine And.intro ?_ ?_; · decide)))
      all_goals (first | (refine bool_leaf ?_; first | (simp_all []; done) | (simp_all []; omega)) | (rw [hw]; (refine bool_leaf ?_; first | (simp_all []; done) | (simp_all []; omega))))
    · rw [if_neg (by decide), if_neg (by decide), if_neg (by decide), if_pos (by decide)]
      obtain w1 := fq.2.2.1 (by decide)
      obtain w2 := fa.2.2.2.1 (by decide)
      subst w1 w2
      (repeat' ((conv => whnf); first | refine br_i (fun _ => ?_) (fun _ => ?_) | (refine cur_leaf rfl rfl rfl ?_ ?_; · first | assumption | omega | exact hw ‹_›) | refine leaf_i rfl rfl ?_ | refine And.intro rfl ?_ | refine call_i (m_eqI aw qw) ?_ | (refine Or.inl ?_; (conv => whnf); refine call_i (m_eqI aw qw) ?_) | refine call_i (m_eqB [] []) ?_ | (refine Or.inl ?_; (conv => whnf); refine call_i (m_eqB [] []) ?_) | (refine And.intro ?_ ?_; · decide)))
      all_goals (refine bool_leaf ?_; first | (simp_all []; done) | (simp_all []; omega))
    · rw [if_neg (by decide), if_pos (by decide)]
      (repeat' ((conv => whnf); first | refine br_i (fun _ => ?_) (fun _ => ?_) | (refine cur_leaf rfl rfl rfl ?_ ?_; · first | assumption | omega | exact hw ‹_›) | refine leaf_i rfl rfl ?_ | refine And.intro rfl ?_ | (refine And.intro ?_ ?_; · decide)))
      all_goals (refine bool_leaf ?_; first | (simp_all []; done) | (simp_all []; omega))
  · conv => whnf
    refine call_i hsq ?_
    conv => whnf
    refine call_i hsa ?_
    conv => whnf
    refine br_i (fun h => ?_) (fun h => absurd (show k2 = k by simpa using h) (fun e => hk e.symm))
    rw [if_pos (by simp [hk])]
    (repeat' ((conv => whnf); first | refine br_i (fun _ => ?_) (fun _ => ?_) | (refine cur_leaf rfl rfl rfl ?_ ?_; · first | assumption | omega | exact hw ‹_›) | refine leaf_i rfl rfl ?_ | refine And.intro rfl ?_ | (refine And.intro ?_ ?_; · decide)))
    all_goals rfl
/-! ### Matters -/
def partB (x : XPart) : Bool := inB x.Port 0 5 && inB x.Unit 1 247 && specReq x.Req
theorem s_part (x : XPart) : PureC Tryz.prog 67 [x.v] [boolv (partB x)] := by
  refine pureC_of (Γ := lookT tbl) (il := ilist) tg dr Tryz.func67 rfl (by kernel_rfl) rfl (Nat.le_of_ble_eq_true rfl) ?_
  (repeat' ((conv => whnf); first | refine br_i (fun _ => ?_) (fun _ => ?_) | (refine cur_leaf rfl rfl rfl ?_ ?_; · first | assumption | omega | exact hw ‹_›) | refine leaf_i rfl rfl ?_ | refine And.intro rfl ?_ | refine call_i (s_in _ _ _) ?_ | (refine Or.inl ?_; (conv => whnf); refine call_i (s_in _ _ _) ?_) | refine call_i (s_ReqOk x.Req) ?_ | (refine Or.inl ?_; (conv => whnf); refine call_i (s_ReqOk x.Req) ?_) | (refine And.intro ?_ ?_; · decide)))
  all_goals (refine bool_leaf ?_; first | (simp_all [partB]; done) | (simp_all [partB]; omega))
theorem m_port (n : Int) : PureC Tryz.prog 104 [i64v n] [boolv (inB n 0 5)] := by
  refine pureC_of (Γ := lookT tbl) (il := ilist) tg dr Tryz.func104 rfl (by kernel_rfl) rfl (Nat.le_of_ble_eq_true rfl) ?_
  (repeat' ((conv => whnf); first | refine br_i (fun _ => ?_) (fun _ => ?_) | (refine cur_leaf rfl rfl rfl ?_ ?_; · first | assumption | omega | exact hw ‹_›) | refine leaf_i rfl rfl ?_ | refine And.intro rfl ?_ | refine call_i (m_in _ _ _) ?_ | (refine Or.inl ?_; (conv => whnf); refine call_i (m_in _ _ _) ?_) | (refine And.intro ?_ ?_; · decide)))
  all_goals rfl
theorem m_part (x : XPart) : PureC Tryz.prog 81 [x.v] [boolv (partB x)] := by
  refine pureC_of (Γ := lookT tbl) (il := ilist) tg dr Tryz.func81 rfl (by kernel_rfl) rfl (Nat.le_of_ble_eq_true rfl) ?_
  (repeat' ((conv => whnf); first | refine br_i (fun _ => ?_) (fun _ => ?_) | (refine cur_leaf rfl rfl rfl ?_ ?_; · first | assumption | omega | exact hw ‹_›) | refine leaf_i rfl rfl ?_ | refine And.intro rfl ?_ | refine call_i (m_port _) ?_ | (refine Or.inl ?_; (conv => whnf); refine call_i (m_port _) ?_) | refine call_i (m_unit _) ?_ | (refine Or.inl ?_; (conv => whnf); refine call_i (m_unit _) ?_) | refine call_i (m_ReqOk x.Req) ?_ | (refine Or.inl ?_; (conv => whnf); refine call_i (m_ReqOk x.Req) ?_) | (refine And.intro ?_ ?_; · decide)))
  all_goals (refine bool_leaf ?_; first | (simp_all [partB, implReq_eq]; done) | (simp_all [partB, implReq_eq]; omega))
theorem s_noResp (x : XResp) : PureC Tryz.prog 69 [x.v] [boolv (decide (x = XResp.zero))] := by
  refine pureC_of (Γ := lookT tbl) (il := ilist) tg dr Tryz.func69 rfl (by kernel_rfl) rfl (Nat.le_of_ble_eq_true rfl) ?_
  (repeat' ((conv => whnf); first | refine br_i (fun _ => ?_) (fun _ => ?_) | (refine cur_leaf rfl rfl rfl ?_ ?_; · first | assumption | omega | exact hw ‹_›) | refine leaf_i rfl rfl ?_ | refine And.intro rfl ?_ | (refine And.intro ?_ ?_; · decide)))
  all_goals (cases x; (refine bool_leaf ?_; first | (simp_all [XResp.zero]; done) | (simp_all [XResp.zero]; omega)))
theorem m_sameResp (x y : XResp) : PureC Tryz.prog 83 [x.v, y.v] [boolv (decide (x = y))] := by
  refine pureC_of (Γ := lookT tbl) (il := ilist) tg dr Tryz.func83 rfl (by kernel_rfl) rfl (Nat.le_of_ble_eq_true rfl) ?_
  (repeat' ((conv => whnf); first | refine br_i (fun _ => ?_) (fun _ => ?_) | (refine cur_leaf rfl rfl rfl ?_ ?_; · first | assumption | omega | exact hw ‹_›) | refine leaf_i rfl rfl ?_ | refine And.intro rfl ?_ | refine call_i (m_eqI x.Words y.Words) ?_ | (refine Or.inl ?_; (conv => whnf); refine call_i (m_eqI x.Words y.Words) ?_) | refine call_i (m_eqB x.Bits y.Bits) ?_ | (refine Or.inl ?_; (conv => whnf); refine call_i (m_eqB x.Bits y.Bits) ?_) | (refine And.intro ?_ ?_; · decide)))
  all_goals (cases x; cases y; (refine bool_leaf ?_; first | (simp_all []; done) | (simp_all []; omega)))

end Go.Proofs.YtknlfechpcimkaaGreat
