/- Line: what 'ok' means, and both packages' functions. -/
import Derived.Test.YtnpcgheojijpjaaXMark
namespace Go.Proofs.Ytnpcgheojijpjaa
open Go Go.Vi
set_option linter.unusedVariables false
set_option linter.unusedSimpArgs false
set_option maxRecDepth 100000
def inB (n lo hi : Int) : Bool := decide (n ≥ lo) && decide (n ≤ hi)
def word (n : Int) : Bool := inB n 0 65535
abbrev wrap64 (n : Int) : Int := IntKind.i64.wrap n
def fitsB (a n : Int) : Bool := inB a 0 65535 && decide (wrap64 (a + n) ≤ 65536)
def zeroB (x : XReq) (a b c d : Bool) : Bool := (a || decide (x.N = 0)) && (b || decide ((x.Words.length : Int) = 0)) && (c || decide ((x.Bits.length : Int) = 0)) && (d || decide (x.WAt = 0))
def specReq (x : XReq) : Bool :=
  if !x.Words.all word || !inB x.At 0 65535 then false else
  if x.Kind = 1 ∨ x.Kind = 2 then zeroB x true false false false && inB x.N 1 2000 && fitsB x.At x.N else
  if x.Kind = 3 ∨ x.Kind = 4 then zeroB x true false false false && inB x.N 1 125 && fitsB x.At x.N else
  if x.Kind = 5 then zeroB x false false true false && decide ((x.Bits.length : Int) = 1) else
  if x.Kind = 6 then zeroB x false true false false && decide ((x.Words.length : Int) = 1) else
  if x.Kind = 15 then zeroB x false false true false && inB x.Bits.length 1 1968 && fitsB x.At x.Bits.length else
  if x.Kind = 16 then zeroB x false true false false && inB x.Words.length 1 123 && fitsB x.At x.Words.length else
  if x.Kind = 22 then zeroB x false true false false && decide ((x.Words.length : Int) = 2) else
  if x.Kind = 23 then zeroB x true true false true && inB x.N 1 125 && fitsB x.At x.N && inB x.Words.length 1 121 && fitsB x.WAt x.Words.length else false
def noReq (x : XReq) : Bool := decide (x = XReq.zero)
theorem s_in (n lo hi : Int) : PureC Try.prog 35 [i64v n, i64v lo, i64v hi] [boolv (inB n lo hi)] := by
  refine pureC_of (Γ := lookT tbl) (il := ilist) tg dr Try.func35 rfl (by kernel_rfl) rfl (Nat.le_of_ble_eq_true rfl) ?_
  (repeat' ((conv => whnf); first | refine br_i (fun _ => ?_) (fun _ => ?_) | (refine cur_leaf rfl rfl rfl ?_ ?_; · first | assumption | omega | exact hw ‹_›) | refine leaf_i rfl rfl ?_ | refine And.intro rfl ?_ | (refine And.intro ?_ ?_; · decide)))
  all_goals (refine bool_leaf ?_; first | (simp_all [inB]; done) | (simp_all [inB]; omega))
theorem s_words (l : List Int) : PureC Try.prog 68 [intsV l] [boolv (l.all word)] := by
  refine pureC_fit ⟨_, Try.func68, by kernel_rfl, rfl⟩ fun hf => ?_
  have hl : l.length ≤ 9223372036854775807 := fits_len (hf (intsV l) (by simp))
  refine pureC_of (Γ := lookT tbl) (il := ilist) tg dr Try.func68 rfl (by kernel_rfl) rfl (Nat.le_of_ble_eq_true rfl) ?_
  conv => whnf
  refine loop_i (fun k : Nat => ⟨envL [(0, .c (.pv (intsP l))), (3, .c (.pv (.int .i64 k)))], resL [], 0, 16⟩) (fun k => k ≤ l.length ∧ (l.take k).all word = true) (fun k => l.length - k) 0 ⟨Nat.zero_le _, rfl⟩ (le_mk [] rfl ⟨⟨rfl, rfl⟩, ⟨rfl, rfl⟩, trivial⟩ trivial rfl) ?_
  intro k ⟨hk, hs⟩
  conv => whnf
  refine br_i (fun h => ?_) (fun h => ?_)
  · have hlt : k < l.length := by simpa using h
    conv => whnf
    refine ⟨_, idx_map l intEl k hlt 1, ?_⟩
    conv => whnf
    refine call_i (s_in l[k] 0 65535) ?_
    conv => whnf
    refine br_i (fun h => ?_) (fun h => ?_) <;> conv => whnf
    · refine leaf_i rfl rfl ?_
      rw [all_bad hlt (by simpa [word] using h)]
      rfl
    · exact ⟨k + 1, ⟨⟨hlt, all_succ hs hlt (by simpa [word] using h)⟩, by omega⟩, le_mk [] rfl ⟨⟨rfl, rfl⟩, ⟨ctr (by omega), rfl⟩, trivial⟩ trivial rfl⟩
  · have hk : l.length ≤ k := by simpa using h
    conv => whnf
    refine leaf_i rfl rfl ?_
    rw [all_end hs hk]
    rfl
theorem s_zero (x : XReq) (a b c d : Bool) : PureC Try.prog 69 [x.v, boolv a, boolv b, boolv c, boolv d] [boolv (zeroB x a b c d)] := by
  refine pureC_of (Γ := lookT tbl) (il := ilist) tg dr Try.func69 rfl (by kernel_rfl) rfl (Nat.le_of_ble_eq_true rfl) ?_
  (repeat' ((conv => whnf); first | refine br_i (fun _ => ?_) (fun _ => ?_) | (refine cur_leaf rfl rfl rfl ?_ ?_; · first | assumption | omega | exact hw ‹_›) | refine leaf_i rfl rfl ?_ | refine And.intro rfl ?_ | (refine And.intro ?_ ?_; · decide)))
  all_goals (refine bool_leaf ?_; first | (simp_all [zeroB]; done) | (simp_all [zeroB]; omega))
theorem s_fits (a n : Int) : PureC Try.prog 70 [i64v a, i64v n] [boolv (fitsB a n)] := by
  refine pureC_of (Γ := lookT tbl) (il := ilist) tg dr Try.func70 rfl (by kernel_rfl) rfl (Nat.le_of_ble_eq_true rfl) ?_
  (repeat' ((conv => whnf); first | refine br_i (fun _ => ?_) (fun _ => ?_) | (refine cur_leaf rfl rfl rfl ?_ ?_; · first | assumption | omega | exact hw ‹_›) | refine leaf_i rfl rfl ?_ | refine And.intro rfl ?_ | refine call_i (s_in _ _ _) ?_ | (refine Or.inl ?_; (conv => whnf); refine call_i (s_in _ _ _) ?_) | (refine And.intro ?_ ?_; · decide)))
  all_goals (refine bool_leaf ?_; first | (simp_all [fitsB]; done) | (simp_all [fitsB]; omega))
theorem s_ReqOk (x : XReq) : PureC Try.prog 34 [x.v] [boolv (specReq x)] := by
  refine pureC_of (Γ := lookT tbl) (il := ilist) tg dr Try.func34 rfl (by kernel_rfl) rfl (Nat.le_of_ble_eq_true rfl) ?_
  (repeat' ((conv => whnf); first | refine br_i (fun _ => ?_) (fun _ => ?_) | (refine cur_leaf rfl rfl rfl ?_ ?_; · first | assumption | omega | exact hw ‹_›) | refine leaf_i rfl rfl ?_ | refine And.intro rfl ?_ | refine call_i (s_in _ _ _) ?_ | (refine Or.inl ?_; (conv => whnf); refine call_i (s_in _ _ _) ?_) | refine call_i (s_words x.Words) ?_ | (refine Or.inl ?_; (conv => whnf); refine call_i (s_words x.Words) ?_) | refine call_i (s_zero x _ _ _ _) ?_ | (refine Or.inl ?_; (conv => whnf); refine call_i (s_zero x _ _ _ _) ?_) | refine call_i (s_fits _ _) ?_ | (refine Or.inl ?_; (conv => whnf); refine call_i (s_fits _ _) ?_) | (refine And.intro ?_ ?_; · decide)))
  all_goals (refine bool_leaf ?_; first | (simp_all [specReq]; done) | (simp_all [specReq]; omega))
def isKind (k : Int) : Bool := inB k 1 6 || k == 15 || k == 16 || k == 22 || k == 23
abbrev Rng := Int × Int
def cnt (k : Int) : Rng × Rng × Rng :=
  if k = 1 ∨ k = 2 then ((1, 2000), (0, 0), (0, 0)) else
  if k = 3 ∨ k = 4 then ((1, 125), (0, 0), (0, 0)) else
  if k = 5 then ((0, 0), (0, 0), (1, 1)) else
  if k = 6 then ((0, 0), (1, 1), (0, 0)) else
  if k = 15 then ((0, 0), (0, 0), (1, 1968)) else
  if k = 16 then ((0, 0), (1, 123), (0, 0)) else
  if k = 22 then ((0, 0), (2, 2), (0, 0)) else ((1, 125), (1, 121), (0, 0))
def rngV (r : Rng) : VV := .agg [.int .i64 r.1, .int .i64 r.2]
def writtenF (x : XReq) : Int := if x.Kind = 22 then 1 else wrap64 (x.Words.length + x.Bits.length)
def implReq (x : XReq) : Bool :=
  if !(isKind x.Kind && inB x.N (cnt x.Kind).1.1 (cnt x.Kind).1.2 && inB x.Words.length (cnt x.Kind).2.1.1 (cnt x.Kind).2.1.2 && inB x.Bits.length (cnt x.Kind).2.2.1 (cnt x.Kind).2.2.2) then false else
  if !word x.At || !word x.WAt || !x.Words.all word || decide (wrap64 (x.At + x.N) > 65536) then false else
  if x.Kind = 23 then decide (wrap64 (x.WAt + writtenF x) ≤ 65536) else decide (x.WAt = 0) && decide (wrap64 (x.At + writtenF x) ≤ 65536)
theorem implReq_eq (x : XReq) : implReq x = specReq x := by
  rw [Bool.eq_iff_iff]
  have hw : ∀ a : Int, -9223372036854775808 ≤ a → a ≤ 9223372036854775807 → wrap64 a = a := fun a h h' => wrap_ok h h'
  unfold implReq specReq
  by_cases hk : isKind x.Kind = true
  · have : x.Kind = 1 ∨ x.Kind = 2 ∨ x.Kind = 3 ∨ x.Kind = 4 ∨ x.Kind = 5 ∨ x.Kind = 6 ∨ x.Kind = 15 ∨ x.Kind = 16 ∨ x.Kind = 22 ∨ x.Kind = 23 := by
      simp [isKind, inB] at hk; omega
    cases hall : x.Words.all word with
    | false => simp
    | true =>
    rcases this with h | h | h | h | h | h | h | h | h | h <;> (clear hk; simp only [h, isKind, cnt, inB, word, zeroB, fitsB, writtenF] at *; simp)
    all_goals (simp only [← List.length_eq_zero_iff, wrap64, wrap_def]; omega)
  · have hk : isKind x.Kind = false := by simpa using hk
    have : ¬ (x.Kind = 1 ∨ x.Kind = 2 ∨ x.Kind = 3 ∨ x.Kind = 4 ∨ x.Kind = 5 ∨ x.Kind = 6 ∨ x.Kind = 15 ∨ x.Kind = 16 ∨ x.Kind = 22 ∨ x.Kind = 23) := by
      intro h
      rcases h with h | h | h | h | h | h | h | h | h | h <;> simp [isKind, h, inB] at hk
    simp only [not_or] at this
    simp [hk, this]
theorem m_in (n lo hi : Int) : PureC Try.prog 64 [i64v n, i64v lo, i64v hi] [boolv (inB n lo hi)] := by
  refine pureC_of (Γ := lookT tbl) (il := ilist) tg dr Try.func64 rfl (by kernel_rfl) rfl (Nat.le_of_ble_eq_true rfl) ?_
  (repeat' ((conv => whnf); first | refine br_i (fun _ => ?_) (fun _ => ?_) | (refine cur_leaf rfl rfl rfl ?_ ?_; · first | assumption | omega | exact hw ‹_›) | refine leaf_i rfl rfl ?_ | refine And.intro rfl ?_ | (refine And.intro ?_ ?_; · decide)))
  all_goals (refine bool_leaf ?_; first | (simp_all [inB]; done) | (simp_all [inB]; omega))
theorem m_word (n : Int) : PureC Try.prog 90 [i64v n] [boolv (word n)] := by
  refine pureC_of (Γ := lookT tbl) (il := ilist) tg dr Try.func90 rfl (by kernel_rfl) rfl (Nat.le_of_ble_eq_true rfl) ?_
  (repeat' ((conv => whnf); first | refine br_i (fun _ => ?_) (fun _ => ?_) | (refine cur_leaf rfl rfl rfl ?_ ?_; · first | assumption | omega | exact hw ‹_›) | refine leaf_i rfl rfl ?_ | refine And.intro rfl ?_ | refine call_i (m_in _ _ _) ?_ | (refine Or.inl ?_; (conv => whnf); refine call_i (m_in _ _ _) ?_) | (refine And.intro ?_ ?_; · decide)))
  all_goals rfl
theorem m_count (n : Int) : PureC Try.prog 33 [i64v n] [boolv (inB n 0 1000000000)] := by
  refine pureC_of (Γ := lookT tbl) (il := ilist) tg dr Try.func33 rfl (by kernel_rfl) rfl (Nat.le_of_ble_eq_true rfl) ?_
  (repeat' ((conv => whnf); first | refine br_i (fun _ => ?_) (fun _ => ?_) | (refine cur_leaf rfl rfl rfl ?_ ?_; · first | assumption | omega | exact hw ‹_›) | refine leaf_i rfl rfl ?_ | refine And.intro rfl ?_ | refine call_i (m_in _ _ _) ?_ | (refine Or.inl ?_; (conv => whnf); refine call_i (m_in _ _ _) ?_) | (refine And.intro ?_ ?_; · decide)))
  all_goals rfl
theorem m_unit (n : Int) : PureC Try.prog 93 [i64v n] [boolv (inB n 1 247)] := by
  refine pureC_of (Γ := lookT tbl) (il := ilist) tg dr Try.func93 rfl (by kernel_rfl) rfl (Nat.le_of_ble_eq_true rfl) ?_
  (repeat' ((conv => whnf); first | refine br_i (fun _ => ?_) (fun _ => ?_) | (refine cur_leaf rfl rfl rfl ?_ ?_; · first | assumption | omega | exact hw ‹_›) | refine leaf_i rfl rfl ?_ | refine And.intro rfl ?_ | refine call_i (m_in _ _ _) ?_ | (refine Or.inl ?_; (conv => whnf); refine call_i (m_in _ _ _) ?_) | (refine And.intro ?_ ?_; · decide)))
  all_goals rfl
theorem m_kind (n : Int) : PureC Try.prog 89 [i64v n] [boolv (isKind n)] := by
  refine pureC_of (Γ := lookT tbl) (il := ilist) tg dr Try.func89 rfl (by kernel_rfl) rfl (Nat.le_of_ble_eq_true rfl) ?_
  (repeat' ((conv => whnf); first | refine br_i (fun _ => ?_) (fun _ => ?_) | (refine cur_leaf rfl rfl rfl ?_ ?_; · first | assumption | omega | exact hw ‹_›) | refine leaf_i rfl rfl ?_ | refine And.intro rfl ?_ | refine call_i (m_in _ _ _) ?_ | (refine Or.inl ?_; (conv => whnf); refine call_i (m_in _ _ _) ?_) | (refine And.intro ?_ ?_; · decide)))
  all_goals (refine bool_leaf ?_; first | (simp_all [isKind]; done) | (simp_all [isKind]; omega))
theorem m_counts (n : Int) : PureC Try.prog 88 [i64v n] [rngV (cnt n).1, rngV (cnt n).2.1, rngV (cnt n).2.2] := by
  refine pureC_of (Γ := lookT tbl) (il := ilist) tg dr Try.func88 rfl (by kernel_rfl) rfl (Nat.le_of_ble_eq_true rfl) ?_
  (repeat' ((conv => whnf); first | refine br_i (fun _ => ?_) (fun _ => ?_) | (refine cur_leaf rfl rfl rfl ?_ ?_; · first | assumption | omega | exact hw ‹_›) | refine leaf_i rfl rfl ?_ | refine And.intro rfl ?_ | (refine And.intro ?_ ?_; · decide)))
  all_goals simp_all [cnt, rngV]
theorem m_written (x : XReq) : PureC Try.prog 77 [x.v] [i64v (writtenF x)] := by
  refine pureC_of (Γ := lookT tbl) (il := ilist) tg dr Try.func77 rfl (by kernel_rfl) rfl (Nat.le_of_ble_eq_true rfl) ?_
  (repeat' ((conv => whnf); first | refine br_i (fun _ => ?_) (fun _ => ?_) | (refine cur_leaf rfl rfl rfl ?_ ?_; · first | assumption | omega | exact hw ‹_›) | refine leaf_i rfl rfl ?_ | refine And.intro rfl ?_ | (refine And.intro ?_ ?_; · decide)))
  all_goals simp_all [writtenF, i64v]
theorem m_all1 (n : Int) : PureC Try.prog 102 [i64v n] [boolv (!word n)] := by
  refine pureC_of (Γ := lookT tbl) (il := ilist) tg dr Try.func102 rfl (by kernel_rfl) rfl (Nat.le_of_ble_eq_true rfl) ?_
  (repeat' ((conv => whnf); first | refine br_i (fun _ => ?_) (fun _ => ?_) | (refine cur_leaf rfl rfl rfl ?_ ?_; · first | assumption | omega | exact hw ‹_›) | refine leaf_i rfl rfl ?_ | refine And.intro rfl ?_ | refine call_i (m_word _) ?_ | (refine Or.inl ?_; (conv => whnf); refine call_i (m_word _) ?_) | (refine And.intro ?_ ?_; · decide)))
  all_goals rfl
theorem m_index (l : List Int) : PureC Try.prog 103 [intsV l, .one (.fn 102)] [i64v (firstBad word l)] := by
  refine pureC_fit ⟨_, Try.func103, by kernel_rfl, rfl⟩ fun hf => ?_
  have hl : l.length ≤ 9223372036854775807 := fits_len (hf (intsV l) (by simp))
  refine pureC_of (Γ := lookT tbl) (il := ilist) tg dr Try.func103 rfl (by kernel_rfl) rfl (Nat.le_of_ble_eq_true rfl) ?_
  conv => whnf
  refine loop_i (fun k : Nat => ⟨envL [(0, .c (.pv (intsP l))), (1, .c (.pv (.fn 102))), (7, .c (.pv (.int .i64 l.length))), (8, .c (.pv (.int .i64 k)))], resL [], 0, 19⟩) (fun k => k ≤ l.length ∧ (l.take k).all word = true) (fun k => l.length - k) 0 ⟨Nat.zero_le _, rfl⟩ (le_mk [] rfl ⟨⟨rfl, rfl⟩, ⟨rfl, rfl⟩, ⟨i64_eq (by simp), rfl⟩, ⟨rfl, rfl⟩, trivial⟩ trivial rfl) ?_
  intro k ⟨hk, hs⟩
  conv => whnf
  refine br_i (fun h => ?_) (fun h => ?_)
  · have hlt : k < l.length := by simpa using h
    conv => whnf
    refine ⟨_, idx_map l intEl k hlt 1, ?_⟩
    conv => whnf
    refine call_i (m_all1 l[k]) ?_
    conv => whnf
    refine br_i (fun h => ?_) (fun h => ?_) <;> conv => whnf
    · refine leaf_i rfl rfl ?_
      rw [firstBad_at hs hlt (by simpa using h)]
      rfl
    · exact ⟨k + 1, ⟨⟨hlt, all_succ hs hlt (by simpa using h)⟩, by omega⟩, le_mk [] rfl ⟨⟨rfl, rfl⟩, ⟨rfl, rfl⟩, ⟨rfl, rfl⟩, ⟨ctr (by omega), rfl⟩, trivial⟩ trivial rfl⟩
  · have hk : l.length ≤ k := by simpa using h
    conv => whnf
    refine leaf_i rfl rfl ?_
    rw [firstBad_none (all_end hs hk)]
    rfl
theorem m_contains (l : List Int) : PureC Try.prog 101 [intsV l, .one (.fn 102)] [boolv (!l.all word)] := by
  refine pureC_of (Γ := lookT tbl) (il := ilist) tg dr Try.func101 rfl (by kernel_rfl) rfl (Nat.le_of_ble_eq_true rfl) ?_
  (repeat' ((conv => whnf); first | refine br_i (fun _ => ?_) (fun _ => ?_) | (refine cur_leaf rfl rfl rfl ?_ ?_; · first | assumption | omega | exact hw ‹_›) | refine leaf_i rfl rfl ?_ | refine And.intro rfl ?_ | refine call_i (m_index l) ?_ | (refine Or.inl ?_; (conv => whnf); refine call_i (m_index l) ?_) | (refine And.intro ?_ ?_; · decide)))
  all_goals (rw [← firstBad_ge]; rfl)
theorem m_words (l : List Int) : PureC Try.prog 91 [intsV l] [boolv (l.all word)] := by
  refine pureC_of (Γ := lookT tbl) (il := ilist) tg dr Try.func91 rfl (by kernel_rfl) rfl (Nat.le_of_ble_eq_true rfl) ?_
  (repeat' ((conv => whnf); first | refine br_i (fun _ => ?_) (fun _ => ?_) | (refine cur_leaf rfl rfl rfl ?_ ?_; · first | assumption | omega | exact hw ‹_›) | refine leaf_i rfl rfl ?_ | refine And.intro rfl ?_ | refine call_i (m_contains l) ?_ | (refine Or.inl ?_; (conv => whnf); refine call_i (m_contains l) ?_) | (refine And.intro ?_ ?_; · decide)))
  all_goals simp [boolv]
theorem m_eqI (l m : List Int) : PureC Try.prog 78 [intsV l, intsV m] [boolv (decide (l = m))] := by
  refine pureC_fit ⟨_, Try.func78, by kernel_rfl, rfl⟩ fun hf => ?_
  have hl : l.length ≤ 9223372036854775807 := fits_len (hf (intsV l) (by simp))
  refine pureC_of (Γ := lookT tbl) (il := ilist) tg dr Try.func78 rfl (by kernel_rfl) rfl (Nat.le_of_ble_eq_true rfl) ?_
  conv => whnf
  refine br_i (fun h => ?_) (fun h => ?_) <;> conv => whnf
  · refine leaf_i rfl rfl ?_
    have : l ≠ m := fun e => by subst e; simp at h
    simp [boolv, this]
  have hlen : l.length = m.length := by simp at h; omega
  refine loop_i (fun k : Nat => ⟨envL [(0, .c (.pv (intsP l))), (1, .c (.pv (intsP m))), (12, .c (.pv (.int .i64 l.length))), (13, .c (.pv (.int .i64 k)))], resL [], 0, 26⟩) (fun k => k ≤ l.length ∧ l.take k = m.take k) (fun k => l.length - k) 0 ⟨Nat.zero_le _, rfl⟩ (le_mk [] rfl ⟨⟨rfl, rfl⟩, ⟨rfl, rfl⟩, ⟨i64_eq (by simp), rfl⟩, ⟨rfl, rfl⟩, trivial⟩ trivial rfl) ?_
  intro k ⟨hk, hs⟩
  conv => whnf
  refine br_i (fun h => ?_) (fun h => ?_)
  · have hlt : k < l.length := by simpa using h
    have hlt2 : k < m.length := by omega
    conv => whnf
    refine ⟨_, idx_map l intEl k hlt 1, ?_⟩
    conv => whnf
    refine ⟨_, idx_map m intEl k hlt2 1, ?_⟩
    conv => whnf
    refine And.intro (by decide) ?_
    conv => whnf
    refine br_i (fun h => ?_) (fun h => ?_) <;> conv => whnf
    · refine leaf_i rfl rfl ?_
      have : l ≠ m := ne_of_get hlt hlt2 (by simpa using h)
      simp [boolv, this]
    · exact ⟨k + 1, ⟨⟨hlt, take_eq_succ hs hlt hlt2 (by simpa using h)⟩, by omega⟩, le_mk [] rfl ⟨⟨rfl, rfl⟩, ⟨rfl, rfl⟩, ⟨rfl, rfl⟩, ⟨ctr (by omega), rfl⟩, trivial⟩ trivial rfl⟩
  · have hk : l.length ≤ k := by simpa using h
    conv => whnf
    refine leaf_i rfl rfl ?_
    have : l = m := take_eq_all hs hk hlen.symm
    simp [boolv, this]
theorem m_eqB (l m : List Bool) : PureC Try.prog 79 [boolsV l, boolsV m] [boolv (decide (l = m))] := by
  refine pureC_fit ⟨_, Try.func79, by kernel_rfl, rfl⟩ fun hf => ?_
  have hl : l.length ≤ 9223372036854775807 := fits_len (hf (boolsV l) (by simp))
  refine pureC_of (Γ := lookT tbl) (il := ilist) tg dr Try.func79 rfl (by kernel_rfl) rfl (Nat.le_of_ble_eq_true rfl) ?_
  conv => whnf
  refine br_i (fun h => ?_) (fun h => ?_) <;> conv => whnf
  · refine leaf_i rfl rfl ?_
    have : l ≠ m := fun e => by subst e; simp at h
    simp [boolv, this]
  have hlen : l.length = m.length := by simp at h; omega
  refine loop_i (fun k : Nat => ⟨envL [(0, .c (.pv (boolsP l))), (1, .c (.pv (boolsP m))), (12, .c (.pv (.int .i64 l.length))), (13, .c (.pv (.int .i64 k)))], resL [], 0, 26⟩) (fun k => k ≤ l.length ∧ l.take k = m.take k) (fun k => l.length - k) 0 ⟨Nat.zero_le _, rfl⟩ (le_mk [] rfl ⟨⟨rfl, rfl⟩, ⟨rfl, rfl⟩, ⟨i64_eq (by simp), rfl⟩, ⟨rfl, rfl⟩, trivial⟩ trivial rfl) ?_
  intro k ⟨hk, hs⟩
  conv => whnf
  refine br_i (fun h => ?_) (fun h => ?_)
  · have hlt : k < l.length := by simpa using h
    have hlt2 : k < m.length := by omega
    conv => whnf
    refine ⟨_, idx_map l boolEl k hlt 1, ?_⟩
    conv => whnf
    refine ⟨_, idx_map m boolEl k hlt2 1, ?_⟩
    conv => whnf
    refine And.intro (by decide) ?_
    conv => whnf
    refine br_i (fun h => ?_) (fun h => ?_) <;> conv => whnf
    · refine leaf_i rfl rfl ?_
      have : l ≠ m := ne_of_get hlt hlt2 (by simpa using h)
      simp [boolv, this]
    · exact ⟨k + 1, ⟨⟨hlt, take_eq_succ hs hlt hlt2 (by simpa using h)⟩, by omega⟩, le_mk [] rfl ⟨⟨rfl, rfl⟩, ⟨rfl, rfl⟩, ⟨rfl, rfl⟩, ⟨ctr (by omega), rfl⟩, trivial⟩ trivial rfl⟩
  · have hk : l.length ≤ k := by simpa using h
    conv => whnf
    refine leaf_i rfl rfl ?_
    have : l = m := take_eq_all hs hk hlen.symm
    simp [boolv, this]
theorem m_ReqOk (x : XReq) : PureC Try.prog 63 [x.v] [boolv (implReq x)] := by
  refine pureC_of (Γ := lookT tbl) (il := ilist) tg dr Try.func63 rfl (by kernel_rfl) rfl (Nat.le_of_ble_eq_true rfl) ?_
  (repeat' ((conv => whnf); first | refine br_i (fun _ => ?_) (fun _ => ?_) | (refine cur_leaf rfl rfl rfl ?_ ?_; · first | assumption | omega | exact hw ‹_›) | refine leaf_i rfl rfl ?_ | refine And.intro rfl ?_ | refine call_i (m_counts _) ?_ | (refine Or.inl ?_; (conv => whnf); refine call_i (m_counts _) ?_) | refine call_i (m_kind _) ?_ | (refine Or.inl ?_; (conv => whnf); refine call_i (m_kind _) ?_) | refine call_i (m_in _ _ _) ?_ | (refine Or.inl ?_; (conv => whnf); refine call_i (m_in _ _ _) ?_) | refine call_i (m_word _) ?_ | (refine Or.inl ?_; (conv => whnf); refine call_i (m_word _) ?_) | refine call_i (m_words x.Words) ?_ | (refine Or.inl ?_; (conv => whnf); refine call_i (m_words x.Words) ?_) | refine call_i (m_written x) ?_ | (refine Or.inl ?_; (conv => whnf); refine call_i (m_written x) ?_) | (refine And.intro ?_ ?_; · decide)))
  all_goals (refine bool_leaf ?_; first | (simp_all [implReq]; done) | (simp_all [implReq]; omega))
def zeroR (x : XResp) (a n w b : Bool) : Bool := (a || decide (x.At = 0)) && (n || decide (x.N = 0)) && (w || decide ((x.Words.length : Int) = 0)) && (b || decide ((x.Bits.length : Int) = 0))
def specResp (x : XResp) : Bool :=
  if !isKind x.Kind || !inB x.Fault 0 255 || !x.Words.all word || !inB x.At 0 65535 then false else
  if x.Fault > 0 then zeroR x false false false false else
  if x.Kind = 1 ∨ x.Kind = 2 then zeroR x false false false true && inB x.Bits.length 1 2000 && decide (Int.tmod x.Bits.length 8 = 0) else
  if x.Kind = 3 ∨ x.Kind = 4 ∨ x.Kind = 23 then zeroR x false false true false && inB x.Words.length 1 125 else
  if x.Kind = 5 then zeroR x true false false true && decide ((x.Bits.length : Int) = 1) else
  if x.Kind = 6 then zeroR x true false true false && decide ((x.Words.length : Int) = 1) else
  if x.Kind = 22 then zeroR x true false true false && decide ((x.Words.length : Int) = 2) else
  if x.Kind = 15 then zeroR x true true false false && inB x.N 1 1968 else
  zeroR x true true false false && inB x.N 1 123
theorem s_kind (n : Int) : PureC Try.prog 99 [i64v n] [boolv (isKind n)] := by
  refine pureC_of (Γ := lookT tbl) (il := ilist) tg dr Try.func99 rfl (by kernel_rfl) rfl (Nat.le_of_ble_eq_true rfl) ?_
  (repeat' ((conv => whnf); first | refine br_i (fun _ => ?_) (fun _ => ?_) | (refine cur_leaf rfl rfl rfl ?_ ?_; · first | assumption | omega | exact hw ‹_›) | refine leaf_i rfl rfl ?_ | refine And.intro rfl ?_ | refine call_i (s_in _ _ _) ?_ | (refine Or.inl ?_; (conv => whnf); refine call_i (s_in _ _ _) ?_) | (refine And.intro ?_ ?_; · decide)))
  all_goals (refine bool_leaf ?_; first | (simp_all [isKind]; done) | (simp_all [isKind]; omega))
theorem s_zeroR (x : XResp) (a b c d : Bool) : PureC Try.prog 100 [x.v, boolv a, boolv b, boolv c, boolv d] [boolv (zeroR x a b c d)] := by
  refine pureC_of (Γ := lookT tbl) (il := ilist) tg dr Try.func100 rfl (by kernel_rfl) rfl (Nat.le_of_ble_eq_true rfl) ?_
  (repeat' ((conv => whnf); first | refine br_i (fun _ => ?_) (fun _ => ?_) | (refine cur_leaf rfl rfl rfl ?_ ?_; · first | assumption | omega | exact hw ‹_›) | refine leaf_i rfl rfl ?_ | refine And.intro rfl ?_ | (refine And.intro ?_ ?_; · decide)))
  all_goals (refine bool_leaf ?_; first | (simp_all [zeroR]; done) | (simp_all [zeroR]; omega))
theorem s_RespOk (x : XResp) : PureC Try.prog 86 [x.v] [boolv (specResp x)] := by
  refine pureC_of (Γ := lookT tbl) (il := ilist) tg dr Try.func86 rfl (by kernel_rfl) rfl (Nat.le_of_ble_eq_true rfl) ?_
  (repeat' ((conv => whnf); first | refine br_i (fun _ => ?_) (fun _ => ?_) | (refine cur_leaf rfl rfl rfl ?_ ?_; · first | assumption | omega | exact hw ‹_›) | refine leaf_i rfl rfl ?_ | refine And.intro rfl ?_ | refine call_i (s_kind _) ?_ | (refine Or.inl ?_; (conv => whnf); refine call_i (s_kind _) ?_) | refine call_i (s_in _ _ _) ?_ | (refine Or.inl ?_; (conv => whnf); refine call_i (s_in _ _ _) ?_) | refine call_i (s_words x.Words) ?_ | (refine Or.inl ?_; (conv => whnf); refine call_i (s_words x.Words) ?_) | refine call_i (s_zeroR x _ _ _ _) ?_ | (refine Or.inl ?_; (conv => whnf); refine call_i (s_zeroR x _ _ _ _) ?_) | (refine And.intro ?_ ?_; · decide)))
  all_goals (refine bool_leaf ?_; first | (simp_all [specResp]; done) | (simp_all [specResp]; omega))
def faultB (x : XResp) : Bool := inB x.Fault 1 255 && zeroR x false false false false
def shapeR (k : Int) : Rng × Rng × Int × Bool :=
  if k = 1 ∨ k = 2 then ((0, 0), (1, 2000), 0, false) else
  if k = 3 ∨ k = 4 ∨ k = 23 then ((1, 125), (0, 0), 0, false) else
  if k = 5 then ((0, 0), (1, 1), 0, true) else
  if k = 6 then ((1, 1), (0, 0), 0, true) else
  if k = 15 then ((0, 0), (0, 0), 1968, true) else
  if k = 16 then ((0, 0), (0, 0), 123, true) else ((2, 2), (0, 0), 0, true)
def implResp (x : XResp) : Bool :=
  if !isKind x.Kind then false else
  if x.Fault ≠ 0 then faultB x else
  if !inB x.Words.length (shapeR x.Kind).1.1 (shapeR x.Kind).1.2 || !inB x.Bits.length (shapeR x.Kind).2.1.1 (shapeR x.Kind).2.1.2 || !x.Words.all word then false else
  if (decide ((shapeR x.Kind).2.1.2 > 1) && decide (Int.tmod x.Bits.length 8 ≠ 0)) || (decide ((shapeR x.Kind).2.2.1 = 0) && decide (x.N ≠ 0)) || (decide ((shapeR x.Kind).2.2.1 > 0) && !inB x.N 1 (shapeR x.Kind).2.2.1) then false else
  ((shapeR x.Kind).2.2.2 && word x.At) || decide (x.At = 0)
theorem m_fault (x : XResp) : PureC Try.prog 95 [x.v] [boolv (faultB x)] := by
  refine pureC_of (Γ := lookT tbl) (il := ilist) tg dr Try.func95 rfl (by kernel_rfl) rfl (Nat.le_of_ble_eq_true rfl) ?_
  (repeat' ((conv => whnf); first | refine br_i (fun _ => ?_) (fun _ => ?_) | (refine cur_leaf rfl rfl rfl ?_ ?_; · first | assumption | omega | exact hw ‹_›) | refine leaf_i rfl rfl ?_ | refine And.intro rfl ?_ | refine call_i (m_in _ _ _) ?_ | (refine Or.inl ?_; (conv => whnf); refine call_i (m_in _ _ _) ?_) | (refine And.intro ?_ ?_; · decide)))
  all_goals (refine bool_leaf ?_; first | (simp_all [faultB, zeroR]; done) | (simp_all [faultB, zeroR]; omega))
theorem m_shape (n : Int) : PureC Try.prog 96 [i64v n] [rngV (shapeR n).1, rngV (shapeR n).2.1, i64v (shapeR n).2.2.1, boolv (shapeR n).2.2.2] := by
  refine pureC_of (Γ := lookT tbl) (il := ilist) tg dr Try.func96 rfl (by kernel_rfl) rfl (Nat.le_of_ble_eq_true rfl) ?_
  (repeat' ((conv => whnf); first | refine br_i (fun _ => ?_) (fun _ => ?_) | (refine cur_leaf rfl rfl rfl ?_ ?_; · first | assumption | omega | exact hw ‹_›) | refine leaf_i rfl rfl ?_ | refine And.intro rfl ?_ | (refine And.intro ?_ ?_; · decide)))
  all_goals simp_all [shapeR, rngV, i64v, boolv]
theorem m_RespOk (x : XResp) : PureC Try.prog 75 [x.v] [boolv (implResp x)] := by
  refine pureC_of (Γ := lookT tbl) (il := ilist) tg dr Try.func75 rfl (by kernel_rfl) rfl (Nat.le_of_ble_eq_true rfl) ?_
  (repeat' ((conv => whnf); first | refine br_i (fun _ => ?_) (fun _ => ?_) | (refine cur_leaf rfl rfl rfl ?_ ?_; · first | assumption | omega | exact hw ‹_›) | refine leaf_i rfl rfl ?_ | refine And.intro rfl ?_ | refine call_i (m_kind _) ?_ | (refine Or.inl ?_; (conv => whnf); refine call_i (m_kind _) ?_) | refine call_i (m_fault x) ?_ | (refine Or.inl ?_; (conv => whnf); refine call_i (m_fault x) ?_) | refine call_i (m_shape _) ?_ | (refine Or.inl ?_; (conv => whnf); refine call_i (m_shape _) ?_) | refine call_i (m_in _ _ _) ?_ | (refine Or.inl ?_; (conv => whnf); refine call_i (m_in _ _ _) ?_) | refine call_i (m_words x.Words) ?_ | (refine Or.inl ?_; (conv => whnf); refine call_i (m_words x.Words) ?_) | refine call_i (m_word _) ?_ | (refine Or.inl ?_; (conv => whnf); refine call_i (m_word _) ?_) | (refine And.intro ?_ ?_; · decide)))
  all_goals (refine bool_leaf ?_; first | (simp_all [implResp]; done) | (simp_all [implResp]; omega))
theorem implResp_eq (x : XResp) : implResp x = specResp x := by
  rw [Bool.eq_iff_iff]
  unfold implResp specResp
  by_cases hk : isKind x.Kind = true
  · have : x.Kind = 1 ∨ x.Kind = 2 ∨ x.Kind = 3 ∨ x.Kind = 4 ∨ x.Kind = 5 ∨ x.Kind = 6 ∨ x.Kind = 15 ∨ x.Kind = 16 ∨ x.Kind = 22 ∨ x.Kind = 23 := by
      simp [isKind, inB] at hk; omega
    by_cases hf : x.Fault = 0
    · cases hall : x.Words.all word with
      | false => simp [hf]
      | true =>
      rcases this with h | h | h | h | h | h | h | h | h | h <;> (clear hk; simp only [h, hf, isKind, shapeR, inB, word, zeroR] at *; simp)
      all_goals (simp only [← List.length_eq_zero_iff]; omega)
    · cases hall : x.Words.all word with
      | false =>
        have h0 : x.Words ≠ [] := by intro e; rw [e] at hall; simp at hall
        simp [hf, hk, faultB, zeroR, h0]
      | true =>
        by_cases hp : x.Fault > 0
        · by_cases hq : x.Fault ≤ 255
          · have h1 : inB x.Fault 1 255 = true := by simp [inB]; omega
            have h0 : inB x.Fault 0 255 = true := by simp [inB]; omega
            have ha : x.At = 0 → inB x.At 0 65535 = true := by intro e; rw [e]; decide
            by_cases hA : x.At = 0
            · have hz : inB 0 0 65535 = true := by decide
              simp [hf, hk, hp, faultB, zeroR, h1, h0, hA, hz]
            · simp [hf, hk, hp, faultB, zeroR, h1, h0, hA]
          · have h1 : inB x.Fault 1 255 = false := by simp [inB]; omega
            have h0 : inB x.Fault 0 255 = false := by simp [inB]; omega
            simp [hf, hk, faultB, h1, h0]
        · have h1 : inB x.Fault 1 255 = false := by simp [inB]; omega
          have h0 : inB x.Fault 0 255 = false := by simp [inB]; omega
          simp [hf, hk, faultB, h1, h0]
  · have hk : isKind x.Kind = false := by simpa using hk
    simp [hk]
def suits (q : XReq) (a : XResp) : Bool :=
  if !specReq q || !specResp a || decide (q.Kind ≠ a.Kind) then false else
  if a.Fault > 0 then true else
  if q.Kind = 1 ∨ q.Kind = 2 then (a.Bits.drop q.N.toNat).all (fun b => !b) && decide ((a.Bits.length : Int) = Int.tdiv (q.N + 7) 8 * 8) else
  if q.Kind = 3 ∨ q.Kind = 4 ∨ q.Kind = 23 then decide ((a.Words.length : Int) = q.N) else
  if q.Kind = 5 then decide (a.At = q.At) && decide (a.Bits = q.Bits) else
  if q.Kind = 6 ∨ q.Kind = 22 then decide (a.At = q.At) && decide (a.Words = q.Words) else
  if q.Kind = 15 then decide (a.At = q.At) && decide (a.N = q.Bits.length) else
  decide (a.At = q.At) && decide (a.N = q.Words.length)
theorem s_sameW (l m : List Int) : PureC Try.prog 87 [intsV l, intsV m] [boolv (decide (l = m))] := by
  refine pureC_fit ⟨_, Try.func87, by kernel_rfl, rfl⟩ fun hf => ?_
  have hl : l.length ≤ 9223372036854775807 := fits_len (hf (intsV l) (by simp))
  refine pureC_of (Γ := lookT tbl) (il := ilist) tg dr Try.func87 rfl (by kernel_rfl) rfl (Nat.le_of_ble_eq_true rfl) ?_
  conv => whnf
  refine br_i (fun h => ?_) (fun h => ?_) <;> conv => whnf
  · refine leaf_i rfl rfl ?_
    have : l ≠ m := fun e => by subst e; simp at h
    simp [boolv, this]
  have hlen : l.length = m.length := by simp at h; omega
  refine loop_i (fun k : Nat => ⟨envL [(0, .c (.pv (intsP l))), (1, .c (.pv (intsP m))), (5, .c (.pv (.int .i64 k)))], resL [], 0, 26⟩) (fun k => k ≤ l.length ∧ l.take k = m.take k) (fun k => l.length - k) 0 ⟨Nat.zero_le _, rfl⟩ (le_mk [] rfl ⟨⟨rfl, rfl⟩, ⟨rfl, rfl⟩, ⟨rfl, rfl⟩, trivial⟩ trivial rfl) ?_
  intro k ⟨hk, hs⟩
  conv => whnf
  refine br_i (fun h => ?_) (fun h => ?_)
  · have hlt : k < l.length := by simpa using h
    have hlt2 : k < m.length := by omega
    conv => whnf
    refine ⟨_, idx_map l intEl k hlt 1, ?_⟩
    conv => whnf
    refine ⟨_, idx_map m intEl k hlt2 1, ?_⟩
    conv => whnf
    refine And.intro rfl ?_
    conv => whnf
    refine br_i (fun h => ?_) (fun h => ?_) <;> conv => whnf
    · refine leaf_i rfl rfl ?_
      have : l ≠ m := ne_of_get hlt hlt2 (by simpa using h)
      simp [boolv, this]
    · exact ⟨k + 1, ⟨⟨hlt, take_eq_succ hs hlt hlt2 (by simpa using h)⟩, by omega⟩, le_mk [] rfl ⟨⟨rfl, rfl⟩, ⟨rfl, rfl⟩, ⟨ctr (by omega), rfl⟩, trivial⟩ trivial rfl⟩
  · have hk : l.length ≤ k := by simpa using h
    conv => whnf
    refine leaf_i rfl rfl ?_
    have : l = m := take_eq_all hs hk hlen.symm
    simp [boolv, this]
theorem m_indexB (l : List Bool) (b : Bool) : PureC Try.prog 94 [boolsV l, boolv b] [i64v (firstBad (fun x => !(b == x)) l)] := by
  refine pureC_fit ⟨_, Try.func94, by kernel_rfl, rfl⟩ fun hf => ?_
  have hl : l.length ≤ 9223372036854775807 := fits_len (hf (boolsV l) (by simp))
  refine pureC_of (Γ := lookT tbl) (il := ilist) tg dr Try.func94 rfl (by kernel_rfl) rfl (Nat.le_of_ble_eq_true rfl) ?_
  conv => whnf
  refine loop_i (fun k : Nat => ⟨envL [(0, .c (.pv (boolsP l))), (1, .c (.pv (.bool b))), (7, .c (.pv (.int .i64 l.length))), (8, .c (.pv (.int .i64 k)))], resL [], 0, 19⟩) (fun k => k ≤ l.length ∧ (l.take k).all (fun x => !(b == x)) = true) (fun k => l.length - k) 0 ⟨Nat.zero_le _, rfl⟩ (le_mk [] rfl ⟨⟨rfl, rfl⟩, ⟨rfl, rfl⟩, ⟨i64_eq (by simp), rfl⟩, ⟨rfl, rfl⟩, trivial⟩ trivial rfl) ?_
  intro k ⟨hk, hs⟩
  conv => whnf
  refine br_i (fun h => ?_) (fun h => ?_)
  · have hlt : k < l.length := by simpa using h
    conv => whnf
    refine ⟨_, idx_map l boolEl k hlt 1, ?_⟩
    conv => whnf
    refine br_i (fun h => ?_) (fun h => ?_) <;> conv => whnf
    · refine leaf_i rfl rfl ?_
      rw [firstBad_at hs hlt (by rw [h]; rfl)]
      rfl
    · exact ⟨k + 1, ⟨⟨hlt, all_succ hs hlt (by rw [h]; rfl)⟩, by omega⟩, le_mk [] rfl ⟨⟨rfl, rfl⟩, ⟨rfl, rfl⟩, ⟨rfl, rfl⟩, ⟨ctr (by omega), rfl⟩, trivial⟩ trivial rfl⟩
  · have hk : l.length ≤ k := by simpa using h
    conv => whnf
    refine leaf_i rfl rfl ?_
    rw [firstBad_none (all_end hs hk)]
    rfl
theorem m_containsB (l : List Bool) (b : Bool) : PureC Try.prog 67 [boolsV l, boolv b] [boolv (!l.all (fun x => !(b == x)))] := by
  refine pureC_of (Γ := lookT tbl) (il := ilist) tg dr Try.func67 rfl (by kernel_rfl) rfl (Nat.le_of_ble_eq_true rfl) ?_
  (repeat' ((conv => whnf); first | refine br_i (fun _ => ?_) (fun _ => ?_) | (refine cur_leaf rfl rfl rfl ?_ ?_; · first | assumption | omega | exact hw ‹_›) | refine leaf_i rfl rfl ?_ | refine And.intro rfl ?_ | refine call_i (m_indexB l b) ?_ | (refine Or.inl ?_; (conv => whnf); refine call_i (m_indexB l b) ?_) | (refine And.intro ?_ ?_; · decide)))
  all_goals (rw [← firstBad_ge]; rfl)
def bitsSuit (n : Int) (l : List Bool) : Bool := decide ((l.length : Int) = Int.tdiv (n + 7) 8 * 8) && (l.drop n.toNat).all (fun b => !b)
theorem m_bitsSuit (n : Int) (l : List Bool) (h0 : 1 ≤ n) (h1 : n ≤ 2000) : PureC Try.prog 76 [i64v n, boolsV l] [boolv (bitsSuit n l)] := by
  refine pureC_of (Γ := lookT tbl) (il := ilist) tg dr Try.func76 rfl (by kernel_rfl) rfl (Nat.le_of_ble_eq_true rfl) ?_
  have hw : IntKind.i64.wrap (n + 7) = n + 7 := wrap_ok (by omega) (by omega)
  have hd : Int.tdiv (n + 7) 8 = (n + 7) / 8 := Int.tdiv_eq_ediv_of_nonneg (by omega)
  have hw2 : IntKind.i64.wrap ((n + 7) / 8) = (n + 7) / 8 := wrap_ok (by omega) (by omega)
  have hw3 : IntKind.i64.wrap ((n + 7) / 8 * 8) = (n + 7) / 8 * 8 := wrap_ok (by omega) (by omega)
  conv => whnf
  refine And.intro (by decide) ?_
  conv => whnf
  refine br_i (fun h => ?_) (fun h => ?_)
  · rw [hw, hd, hw2, hw3, List.length_map] at h
    have hlen : (l.length : Int) = (n + 7) / 8 * 8 := by simpa using h
    conv => whnf
    refine ⟨_, cut_i boolEl 1 l n (by omega), ?_⟩
    (repeat' ((conv => whnf); first | refine br_i (fun _ => ?_) (fun _ => ?_) | (refine cur_leaf rfl rfl rfl ?_ ?_; · first | assumption | omega | exact hw ‹_›) | refine leaf_i rfl rfl ?_ | refine And.intro rfl ?_ | refine call_i (m_containsB (l.drop n.toNat) true) ?_ | (refine Or.inl ?_; (conv => whnf); refine call_i (m_containsB (l.drop n.toNat) true) ?_) | (refine And.intro ?_ ?_; · decide)))
    all_goals (refine bool_leaf ?_; first | (simp_all [bitsSuit, hd]; done) | (simp_all [bitsSuit, hd]; omega))
  · rw [hw, hd, hw2, hw3, List.length_map] at h
    have hlen : ¬ (l.length : Int) = (n + 7) / 8 * 8 := by simpa using h
    (repeat' ((conv => whnf); first | refine br_i (fun _ => ?_) (fun _ => ?_) | (refine cur_leaf rfl rfl rfl ?_ ?_; · first | assumption | omega | exact hw ‹_›) | refine leaf_i rfl rfl ?_ | refine And.intro rfl ?_ | (refine And.intro ?_ ?_; · decide)))
    all_goals (refine bool_leaf ?_; first | (simp_all [bitsSuit, hd]; done) | (simp_all [bitsSuit, hd]; omega))
theorem resp_facts (x : XResp) (h : specResp x = true) (hf : ¬ x.Fault > 0) : ((x.Kind = 1 ∨ x.Kind = 2) → x.Words = [] ∧ 1 ≤ x.Bits.length ∧ x.Bits.length ≤ 2000) ∧ ((x.Kind = 3 ∨ x.Kind = 4 ∨ x.Kind = 23) → x.Bits = []) ∧ (x.Kind = 5 → x.Words = [] ∧ x.Bits.length = 1) ∧ ((x.Kind = 6 ∨ x.Kind = 22) → x.Bits = []) ∧ ((x.Kind = 15 ∨ x.Kind = 16) → x.Words = [] ∧ x.Bits = []) := by
  unfold specResp at h
  split at h
  · cases h
  first | rw [if_neg hf] at h | skip
  simp only [← List.length_eq_zero_iff]
  refine ⟨fun k => ?_, fun k => ?_, fun k => ?_, fun k => ?_, fun k => ?_⟩
  · rcases k with k | k <;> simp [k, zeroR, inB, ← List.length_eq_zero_iff] at h <;> omega
  · rcases k with k | k | k <;> simp [k, zeroR, inB, ← List.length_eq_zero_iff] at h <;> omega
  · simp [k, zeroR, inB, ← List.length_eq_zero_iff] at h; omega
  · rcases k with k | k <;> simp [k, zeroR, inB, ← List.length_eq_zero_iff] at h <;> omega
  · rcases k with k | k <;> simp [k, zeroR, inB, ← List.length_eq_zero_iff] at h <;> omega
theorem req_facts (x : XReq) (h : specReq x = true) : ((x.Kind = 1 ∨ x.Kind = 2) → 1 ≤ x.N ∧ x.N ≤ 2000) ∧ (x.Kind = 5 → x.Words = [] ∧ x.Bits.length = 1) ∧ ((x.Kind = 6 ∨ x.Kind = 22) → x.Bits = []) ∧ (x.Kind = 15 → x.Words = [] ∧ x.Bits.length ≤ 1968) ∧ (x.Kind = 16 → x.Bits = [] ∧ x.Words.length ≤ 123) := by
  unfold specReq at h
  split at h
  · cases h
  simp only [← List.length_eq_zero_iff]
  refine ⟨fun k => ?_, fun k => ?_, fun k => ?_, fun k => ?_, fun k => ?_⟩
  · rcases k with k | k <;> simp [k, zeroB, inB, ← List.length_eq_zero_iff] at h <;> omega
  · simp [k, zeroB, inB, ← List.length_eq_zero_iff] at h; omega
  · rcases k with k | k <;> simp [k, zeroB, inB, ← List.length_eq_zero_iff] at h <;> omega
  · simp [k, zeroB, inB, ← List.length_eq_zero_iff] at h; omega
  · simp [k, zeroB, inB, ← List.length_eq_zero_iff] at h; omega
theorem resp_fault (x : XResp) (h : specResp x = true) : 0 ≤ x.Fault := by
  by_cases hf : inB x.Fault 0 255 = true
  · simp [inB] at hf; omega
  · simp [specResp, hf] at h
theorem req_kind (x : XReq) (h : specReq x = true) : x.Kind = 1 ∨ x.Kind = 2 ∨ x.Kind = 3 ∨ x.Kind = 4 ∨ x.Kind = 5 ∨ x.Kind = 6 ∨ x.Kind = 15 ∨ x.Kind = 16 ∨ x.Kind = 22 ∨ x.Kind = 23 := by
  rw [← implReq_eq] at h
  have hk : isKind x.Kind = true := by
    cases hk : isKind x.Kind with
    | true => rfl
    | false => simp [implReq, hk] at h
  simp [isKind, inB] at hk
  omega
theorem all_step {l : List Bool} {m j : Nat} (hm : m ≤ j) (hj : j < l.length) (h : ((l.take j).drop m).all (fun b => !b) = true) (hb : l[j] = false) : ((l.take (j + 1)).drop m).all (fun b => !b) = true := by
  rw [List.take_succ_eq_append_getElem hj, List.drop_append_of_le_length (by rw [List.length_take]; omega), List.all_append, h, hb]
  rfl
theorem all_stop {l : List Bool} {m j : Nat} (hm : m ≤ j) (hj : j < l.length) (hb : l[j] = true) : (l.drop m).all (fun b => !b) = false := by
  rw [List.all_eq_false]
  refine ⟨l[j], ?_, by simp [hb]⟩
  rw [show l[j] = (l.drop m)[j - m]'(by rw [List.length_drop]; omega) by simp [show m + (j - m) = j by omega]]
  exact List.getElem_mem _
theorem s_Suits (q : XReq) (a : XResp) : PureC Try.prog 61 [q.v, a.v] [boolv (suits q a)] := by
  have hsq := s_ReqOk q
  have hsa := s_RespOk a
  have fa := resp_facts a
  have fq := req_facts q
  have fk := req_kind q
  have hd : suits q a = suits q a := rfl
  conv at hd => rhs; unfold suits
  rw [hd]
  clear hd
  obtain ⟨k, qa, qn, qw, qb, qx⟩ := q
  obtain ⟨k2, af, aa, an, aw, ab⟩ := a
  dsimp only at *
  generalize specReq ⟨k, qa, qn, qw, qb, qx⟩ = B1 at *
  generalize specResp ⟨k2, af, aa, an, aw, ab⟩ = B2 at *
  refine pureC_of (Γ := lookT tbl) (il := ilist) tg dr Try.func61 rfl (by kernel_rfl) rfl (Nat.le_of_ble_eq_true rfl) ?_
  cases B1 with
  | false => (repeat' ((conv => whnf); first | refine br_i (fun _ => ?_) (fun _ => ?_) | (refine cur_leaf rfl rfl rfl ?_ ?_; · first | assumption | omega | exact hw ‹_›) | refine leaf_i rfl rfl ?_ | refine And.intro rfl ?_ | refine call_i (hsq) ?_ | (refine Or.inl ?_; (conv => whnf); refine call_i (hsq) ?_) | refine call_i (hsa) ?_ | (refine Or.inl ?_; (conv => whnf); refine call_i (hsa) ?_) | (refine And.intro ?_ ?_; · decide))); all_goals rfl
  | true =>
  cases B2 with
  | false => (repeat' ((conv => whnf); first | refine br_i (fun _ => ?_) (fun _ => ?_) | (refine cur_leaf rfl rfl rfl ?_ ?_; · first | assumption | omega | exact hw ‹_›) | refine leaf_i rfl rfl ?_ | refine And.intro rfl ?_ | refine call_i (hsq) ?_ | (refine Or.inl ?_; (conv => whnf); refine call_i (hsq) ?_) | refine call_i (hsa) ?_ | (refine Or.inl ?_; (conv => whnf); refine call_i (hsa) ?_) | (refine And.intro ?_ ?_; · decide))); all_goals rfl
  | true =>
  replace fa := fa rfl
  replace fq := fq rfl
  replace fk := fk rfl
  by_cases hk : k = k2
  · subst hk
    conv => whnf
    refine call_i hsq ?_
    conv => whnf
    refine call_i hsa ?_
    conv => whnf
    refine br_i (fun h => by simp at h) (fun _ => ?_)
    conv => whnf
    refine br_i (fun h => ?_) (fun h => ?_)
    · have hf : af > 0 := by simpa using h
      rw [if_neg (by simp), if_pos hf]
      (repeat' ((conv => whnf); first | refine br_i (fun _ => ?_) (fun _ => ?_) | (refine cur_leaf rfl rfl rfl ?_ ?_; · first | assumption | omega | exact hw ‹_›) | refine leaf_i rfl rfl ?_ | refine And.intro rfl ?_ | (refine And.intro ?_ ?_; · decide)))
      all_goals rfl
    have hf : ¬ af > 0 := by simpa using h
    replace fa := fa hf
    rw [if_neg (by simp), if_neg hf]
    clear h
    rcases fk with rfl | rfl | rfl | rfl | rfl | rfl | rfl | rfl | rfl | rfl
    iterate 2
      · rw [if_pos (by decide)]
        obtain ⟨n1, n2⟩ := fq.1 (by decide)
        obtain ⟨w0, b1, b2⟩ := fa.1 (by decide)
        have hw : IntKind.i64.wrap (qn + 7) = qn + 7 := wrap_ok (by omega) (by omega)
        have hd : Int.tdiv (qn + 7) 8 = (qn + 7) / 8 := Int.tdiv_eq_ediv_of_nonneg (by omega)
        have hw2 : IntKind.i64.wrap ((qn + 7) / 8) = (qn + 7) / 8 := wrap_ok (by omega) (by omega)
        have hw3 : IntKind.i64.wrap ((qn + 7) / 8 * 8) = (qn + 7) / 8 * 8 := wrap_ok (by omega) (by omega)
        conv => whnf
        refine loop_i (fun j : Nat => ⟨envL [(2, .c (.ptr 0 0)), (3, .c (.ptr 1 0)), (5, .c (.pv (.int .i64 j)))], resL [(0, .box [.pv (.int .i64 _), .pv (.int .i64 qa), .pv (.int .i64 qn), .pv (intsP qw), .pv (boolsP qb), .pv (.int .i64 qx)]), (1, .box [.pv (.int .i64 _), .pv (.int .i64 af), .pv (.int .i64 aa), .pv (.int .i64 an), .pv (intsP aw), .pv (boolsP ab)])], 2, 123⟩) (fun j => qn.toNat ≤ j ∧ ((ab.take j).drop qn.toNat).all (fun b => !b) = true) (fun j => ab.length - j) qn.toNat ⟨Nat.le_refl _, by simp [List.drop_take]⟩ (le_mk [(0, _), (1, _)] rfl ⟨⟨rfl, rfl⟩, ⟨rfl, rfl⟩, ⟨i64_eq (by show qn = _; omega), rfl⟩, trivial⟩ ⟨⟨rfl, rfl⟩, ⟨rfl, rfl⟩, trivial⟩ rfl) ?_
        intro j ⟨hj, hs⟩
        conv => whnf
        refine br_i (fun h => ?_) (fun h => ?_)
        · have hlt : j < ab.length := by simpa using h
          conv => whnf
          refine ⟨_, idx_map ab boolEl j hlt 1, ?_⟩
          conv => whnf
          refine br_i (fun h => ?_) (fun h => ?_) <;> conv => whnf
          · refine leaf_i rfl rfl ?_
            rw [all_stop hj hlt h]; rfl
          · exact ⟨j + 1, ⟨⟨by omega, all_step hj hlt hs h⟩, by omega⟩, le_mk [] rfl ⟨⟨rfl, rfl⟩, ⟨rfl, rfl⟩, ⟨ctr (by omega), rfl⟩, trivial⟩ ⟨⟨rfl, rfl⟩, ⟨rfl, rfl⟩, trivial⟩ rfl⟩
        · have hge : ab.length ≤ j := by simpa using h
          rw [List.take_of_length_le hge] at hs
          rw [hs, hd]
          (repeat' ((conv => whnf); first | refine br_i (fun _ => ?_) (fun _ => ?_) | (refine cur_leaf rfl rfl rfl ?_ ?_; · first | assumption | omega | exact hw ‹_›) | refine leaf_i rfl rfl ?_ | refine And.intro rfl ?_ | (refine And.intro ?_ ?_; · decide)))
          all_goals (rw [hw, hd, hw2, hw3]; (refine bool_leaf ?_; first | (simp_all []; done) | (simp_all []; omega)))
    iterate 2
      · rw [if_neg (by decide), if_pos (by decide)]
        (repeat' ((conv => whnf); first | refine br_i (fun _ => ?_) (fun _ => ?_) | (refine cur_leaf rfl rfl rfl ?_ ?_; · first | assumption | omega | exact hw ‹_›) | refine leaf_i rfl rfl ?_ | refine And.intro rfl ?_ | (refine And.intro ?_ ?_; · decide)))
        all_goals (refine bool_leaf ?_; first | (simp_all []; done) | (simp_all []; omega))
    · rw [if_neg (by decide), if_neg (by decide), if_pos (by decide)]
      obtain ⟨c, rfl⟩ := List.length_eq_one_iff.1 (fq.2.1 rfl).2
      obtain ⟨b, rfl⟩ := List.length_eq_one_iff.1 (fa.2.2.1 rfl).2
      (repeat' ((conv => whnf); first | refine br_i (fun _ => ?_) (fun _ => ?_) | (refine cur_leaf rfl rfl rfl ?_ ?_; · first | assumption | omega | exact hw ‹_›) | refine leaf_i rfl rfl ?_ | refine And.intro rfl ?_ | (refine ⟨[.bool b], ⟨⟨by decide, rfl⟩, rfl⟩, ?_⟩) | (refine ⟨[.bool c], ⟨⟨by decide, rfl⟩, rfl⟩, ?_⟩) | (refine And.intro ?_ ?_; · decide)))
      all_goals (refine bool_leaf ?_; first | (simp_all []; done) | (simp_all []; omega))
    · rw [if_neg (by decide), if_neg (by decide), if_neg (by decide), if_pos (by decide)]
      (repeat' ((conv => whnf); first | refine br_i (fun _ => ?_) (fun _ => ?_) | (refine cur_leaf rfl rfl rfl ?_ ?_; · first | assumption | omega | exact hw ‹_›) | refine leaf_i rfl rfl ?_ | refine And.intro rfl ?_ | refine call_i (s_sameW aw qw) ?_ | (refine Or.inl ?_; (conv => whnf); refine call_i (s_sameW aw qw) ?_) | (refine And.intro ?_ ?_; · decide)))
      all_goals (refine bool_leaf ?_; first | (simp_all []; done) | (simp_all []; omega))
    · rw [if_neg (by decide), if_neg (by decide), if_neg (by decide), if_neg (by decide), if_pos (by decide)]
      (repeat' ((conv => whnf); first | refine br_i (fun _ => ?_) (fun _ => ?_) | (refine cur_leaf rfl rfl rfl ?_ ?_; · first | assumption | omega | exact hw ‹_›) | refine leaf_i rfl rfl ?_ | refine And.intro rfl ?_ | (refine And.intro ?_ ?_; · decide)))
      all_goals (refine bool_leaf ?_; first | (simp_all []; done) | (simp_all []; omega))
    · rw [if_neg (by decide), if_neg (by decide), if_neg (by decide), if_neg (by decide), if_neg (by decide)]
      (repeat' ((conv => whnf); first | refine br_i (fun _ => ?_) (fun _ => ?_) | (refine cur_leaf rfl rfl rfl ?_ ?_; · first | assumption | omega | exact hw ‹_›) | refine leaf_i rfl rfl ?_ | refine And.intro rfl ?_ | (refine And.intro ?_ ?_; · decide)))
      all_goals (refine bool_leaf ?_; first | (simp_all []; done) | (simp_all []; omega))
    · rw [if_neg (by decide), if_neg (by decide), if_neg (by decide), if_pos (by decide)]
      (repeat' ((conv => whnf); first | refine br_i (fun _ => ?_) (fun _ => ?_) | (refine cur_leaf rfl rfl rfl ?_ ?_; · first | assumption | omega | exact hw ‹_›) | refine leaf_i rfl rfl ?_ | refine And.intro rfl ?_ | refine call_i (s_sameW aw qw) ?_ | (refine Or.inl ?_; (conv => whnf); refine call_i (s_sameW aw qw) ?_) | (refine And.intro ?_ ?_; · decide)))
      all_goals (refine bool_leaf ?_; first | (simp_all []; done) | (simp_all []; omega))
    · rw [if_neg (by decide), if_pos (by decide)]
      (repeat' ((conv => whnf); first | refine br_i (fun _ => ?_) (fun _ => ?_) | (refine cur_leaf rfl rfl rfl ?_ ?_; · first | assumption | omega | exact hw ‹_›) | refine leaf_i rfl rfl ?_ | refine And.intro rfl ?_ | (refine And.intro ?_ ?_; · decide)))
      all_goals (refine bool_leaf ?_; first | (simp_all []; done) | (simp_all []; omega))
  · conv => whnf
    refine call_i hsq ?_
    conv => whnf
    refine call_i hsa ?_
    conv => whnf
    refine br_i (fun h => ?_) (fun h => absurd (by simpa using h) hk)
    rw [if_pos (by simp [hk])]
    (repeat' ((conv => whnf); first | refine br_i (fun _ => ?_) (fun _ => ?_) | (refine cur_leaf rfl rfl rfl ?_ ?_; · first | assumption | omega | exact hw ‹_›) | refine leaf_i rfl rfl ?_ | refine And.intro rfl ?_ | (refine And.intro ?_ ?_; · decide)))
    all_goals rfl
theorem m_Suits (q : XReq) (a : XResp) : PureC Try.prog 40 [q.v, a.v] [boolv (suits q a)] := by
  have hsq := m_ReqOk q
  have hsa := m_RespOk a
  rw [implReq_eq] at hsq
  rw [implResp_eq] at hsa
  have fa := resp_facts a
  have fq := req_facts q
  have fk := req_kind q
  have hd : suits q a = suits q a := rfl
  conv at hd => rhs; unfold suits
  rw [hd]
  clear hd
  obtain ⟨k, qa, qn, qw, qb, qx⟩ := q
  obtain ⟨k2, af, aa, an, aw, ab⟩ := a
  dsimp only at *
  generalize specReq ⟨k, qa, qn, qw, qb, qx⟩ = B1 at *
  have hsa0 : specResp ⟨k2, af, aa, an, aw, ab⟩ = true → 0 ≤ af := fun h => by
    have := resp_fault _ h; exact this
  generalize specResp ⟨k2, af, aa, an, aw, ab⟩ = B2 at *
  refine pureC_of (Γ := lookT tbl) (il := ilist) tg dr Try.func40 rfl (by kernel_rfl) rfl (Nat.le_of_ble_eq_true rfl) ?_
  cases B1 with
  | false => (repeat' ((conv => whnf); first | refine br_i (fun _ => ?_) (fun _ => ?_) | (refine cur_leaf rfl rfl rfl ?_ ?_; · first | assumption | omega | exact hw ‹_›) | refine leaf_i rfl rfl ?_ | refine And.intro rfl ?_ | refine call_i (hsq) ?_ | (refine Or.inl ?_; (conv => whnf); refine call_i (hsq) ?_) | refine call_i (hsa) ?_ | (refine Or.inl ?_; (conv => whnf); refine call_i (hsa) ?_) | (refine And.intro ?_ ?_; · decide))); all_goals rfl
  | true =>
  cases B2 with
  | false => (repeat' ((conv => whnf); first | refine br_i (fun _ => ?_) (fun _ => ?_) | (refine cur_leaf rfl rfl rfl ?_ ?_; · first | assumption | omega | exact hw ‹_›) | refine leaf_i rfl rfl ?_ | refine And.intro rfl ?_ | refine call_i (hsq) ?_ | (refine Or.inl ?_; (conv => whnf); refine call_i (hsq) ?_) | refine call_i (hsa) ?_ | (refine Or.inl ?_; (conv => whnf); refine call_i (hsa) ?_) | (refine And.intro ?_ ?_; · decide))); all_goals rfl
  | true =>
  replace fa := fa rfl
  replace fq := fq rfl
  replace fk := fk rfl
  by_cases hk : k = k2
  · subst hk
    conv => whnf
    refine call_i hsq ?_
    conv => whnf
    refine call_i hsa ?_
    conv => whnf
    refine br_i (fun h => by simp at h) (fun _ => ?_)
    conv => whnf
    refine br_i (fun h => ?_) (fun h => ?_)
    · have hf : af > 0 := by have := hsa0 rfl; simp at h; omega
      rw [if_neg (by simp), if_pos hf]
      (repeat' ((conv => whnf); first | refine br_i (fun _ => ?_) (fun _ => ?_) | (refine cur_leaf rfl rfl rfl ?_ ?_; · first | assumption | omega | exact hw ‹_›) | refine leaf_i rfl rfl ?_ | refine And.intro rfl ?_ | (refine And.intro ?_ ?_; · decide)))
      all_goals rfl
    have hf0 : af = 0 := by simpa using h
    have hf : ¬ af > 0 := by omega
    replace fa := fa hf
    rw [if_neg (by simp), if_neg hf]
    clear h
    rcases fk with rfl | rfl | rfl | rfl | rfl | rfl | rfl | rfl | rfl | rfl
    iterate 2
      · rw [if_pos (by decide)]
        obtain ⟨n1, n2⟩ := fq.1 (by decide)
        (repeat' ((conv => whnf); first | refine br_i (fun _ => ?_) (fun _ => ?_) | (refine cur_leaf rfl rfl rfl ?_ ?_; · first | assumption | omega | exact hw ‹_›) | refine leaf_i rfl rfl ?_ | refine And.intro rfl ?_ | refine call_i (m_bitsSuit qn ab n1 n2) ?_ | (refine Or.inl ?_; (conv => whnf); refine call_i (m_bitsSuit qn ab n1 n2) ?_) | (refine And.intro ?_ ?_; · decide)))
        all_goals (show [boolv (bitsSuit qn ab)] = _; rw [bitsSuit, Bool.and_comm])
    iterate 2
      · rw [if_neg (by decide), if_pos (by decide)]
        (repeat' ((conv => whnf); first | refine br_i (fun _ => ?_) (fun _ => ?_) | (refine cur_leaf rfl rfl rfl ?_ ?_; · first | assumption | omega | exact hw ‹_›) | refine leaf_i rfl rfl ?_ | refine And.intro rfl ?_ | (refine And.intro ?_ ?_; · decide)))
        all_goals (refine bool_leaf ?_; first | (simp_all []; done) | (simp_all []; omega))
    · rw [if_neg (by decide), if_neg (by decide), if_pos (by decide)]
      obtain ⟨w1, _⟩ := fq.2.1 rfl
      obtain ⟨w2, _⟩ := fa.2.2.1 rfl
      subst w1 w2
      (repeat' ((conv => whnf); first | refine br_i (fun _ => ?_) (fun _ => ?_) | (refine cur_leaf rfl rfl rfl ?_ ?_; · first | assumption | omega | exact hw ‹_›) | refine leaf_i rfl rfl ?_ | refine And.intro rfl ?_ | refine call_i (m_eqI [] []) ?_ | (refine Or.inl ?_; (conv => whnf); refine call_i (m_eqI [] []) ?_) | refine call_i (m_eqB ab qb) ?_ | (refine Or.inl ?_; (conv => whnf); refine call_i (m_eqB ab qb) ?_) | (refine And.intro ?_ ?_; · decide)))
      all_goals (refine bool_leaf ?_; first | (simp_all []; done) | (simp_all []; omega))
    · rw [if_neg (by decide), if_neg (by decide), if_neg (by decide), if_pos (by decide)]
      obtain w1 := fq.2.2.1 (by decide)
      obtain w2 := fa.2.2.2.1 (by decide)
      subst w1 w2
      (repeat' ((conv => whnf); first | refine br_i (fun _ => ?_) (fun _ => ?_) | (refine cur_leaf rfl rfl rfl ?_ ?_; · first | assumption | omega | exact hw ‹_›) | refine leaf_i rfl rfl ?_ | refine And.intro rfl ?_ | refine call_i (m_eqI aw qw) ?_ | (refine Or.inl ?_; (conv => whnf); refine call_i (m_eqI aw qw) ?_) | refine call_i (m_eqB [] []) ?_ | (refine Or.inl ?_; (conv => whnf); refine call_i (m_eqB [] []) ?_) | (refine And.intro ?_ ?_; · decide)))
      all_goals (refine bool_leaf ?_; first | (simp_all []; done) | (simp_all []; omega))
    · rw [if_neg (by decide), if_neg (by decide), if_neg (by decide), if_neg (by decide), if_pos (by decide)]
      obtain ⟨w1, w2⟩ := fq.2.2.2.1 rfl
      subst w1
      have hw : writtenF ⟨15, qa, qn, [], qb, qx⟩ = qb.length := by simp [writtenF]; exact wrap_ok (by omega) (by omega)
      (repeat' ((conv => whnf); first | refine br_i (fun _ => ?_) (fun _ => ?_) | (refine cur_leaf rfl rfl rfl ?_ ?_; · first | assumption | omega | exact hw ‹_›) | refine leaf_i rfl rfl ?_ | refine And.intro rfl ?_ | refine call_i (m_written _) ?_ | (refine Or.inl ?_; (conv => whnf); refine call_i (m_written _) ?_) | (refine And.intro ?_ ?_; · decide)))
      all_goals (first | (refine bool_leaf ?_; first | (simp_all []; done) | (simp_all []; omega)) | (rw [hw]; (refine bool_leaf ?_; first | (simp_all []; done) | (simp_all []; omega))))
    · rw [if_neg (by decide), if_neg (by decide), if_neg (by decide), if_neg (by decide), if_neg (by decide)]
      obtain ⟨w1, w2⟩ := fq.2.2.2.2 rfl
      subst w1
      have hw : writtenF ⟨16, qa, qn, qw, [], qx⟩ = qw.length := by simp [writtenF]; exact wrap_ok (by omega) (by omega)
      (repeat' ((conv => whnf); first | refine br_i (fun _ => ?_) (fun _ => ?_) | (refine cur_leaf rfl rfl rfl ?_ ?_; · first | assumption | omega | exact hw ‹_›) | refine leaf_i rfl rfl ?_ | refine And.intro rfl ?_ | refine call_i (m_written _) ?_ | (refine Or.inl ?_; (conv => whnf); refine call_i (m_written _) ?_) | (refine And.intro ?_ ?_; · decide)))
      all_goals (first | (refine bool_leaf ?_; first | (simp_all []; done) | (simp_all []; omega)) | (rw [hw]; (refine bool_leaf ?_; first | (simp_all []; done) | (simp_all []; omega))))
    · rw [if_neg (by decide), if_neg (by decide), if_neg (by decide), if_pos (by decide)]
      obtain w1 := fq.2.2.1 (by decide)
      obtain w2 := fa.2.2.2.1 (by decide)
      subst w1 w2
      (repeat' ((conv => whnf); first | refine br_i (fun _ => ?_) (fun _ => ?_) | (refine cur_leaf rfl rfl rfl ?_ ?_; · first | assumption | omega | exact hw ‹_›) | refine leaf_i rfl rfl ?_ | refine And.intro rfl ?_ | refine call_i (m_eqI aw qw) ?_ | (refine Or.inl ?_; (conv => whnf); refine call_i (m_eqI aw qw) ?_) | refine call_i (m_eqB [] []) ?_ | (refine Or.inl ?_; (conv => whnf); refine call_i (m_eqB [] []) ?_) | (refine And.intro ?_ ?_; · decide)))
      all_goals (refine bool_leaf ?_; first | (simp_all []; done) | (simp_all []; omega))
    · rw [if_neg (by decide), if_pos (by decide)]
      (repeat' ((conv => whnf); first | refine br_i (fun _ => ?_) (fun _ => ?_) | (refine cur_leaf rfl rfl rfl ?_ ?_; · first | assumption | omega | exact hw ‹_›) | refine leaf_i rfl rfl ?_ | refine And.intro rfl ?_ | (refine And.intro ?_ ?_; · decide)))
      all_goals (refine bool_leaf ?_; first | (simp_all []; done) | (simp_all []; omega))
  · conv => whnf
    refine call_i hsq ?_
    conv => whnf
    refine call_i hsa ?_
    conv => whnf
    refine br_i (fun h => ?_) (fun h => absurd (show k2 = k by simpa using h) (fun e => hk e.symm))
    rw [if_pos (by simp [hk])]
    (repeat' ((conv => whnf); first | refine br_i (fun _ => ?_) (fun _ => ?_) | (refine cur_leaf rfl rfl rfl ?_ ?_; · first | assumption | omega | exact hw ‹_›) | refine leaf_i rfl rfl ?_ | refine And.intro rfl ?_ | (refine And.intro ?_ ?_; · decide)))
    all_goals rfl
/-! ### Matters -/
def partB (x : XPart) : Bool := inB x.Port 0 5 && inB x.Unit 1 247 && specReq x.Req
theorem s_part (x : XPart) : PureC Try.prog 60 [x.v] [boolv (partB x)] := by
  refine pureC_of (Γ := lookT tbl) (il := ilist) tg dr Try.func60 rfl (by kernel_rfl) rfl (Nat.le_of_ble_eq_true rfl) ?_
  (repeat' ((conv => whnf); first | refine br_i (fun _ => ?_) (fun _ => ?_) | (refine cur_leaf rfl rfl rfl ?_ ?_; · first | assumption | omega | exact hw ‹_›) | refine leaf_i rfl rfl ?_ | refine And.intro rfl ?_ | refine call_i (s_in _ _ _) ?_ | (refine Or.inl ?_; (conv => whnf); refine call_i (s_in _ _ _) ?_) | refine call_i (s_ReqOk x.Req) ?_ | (refine Or.inl ?_; (conv => whnf); refine call_i (s_ReqOk x.Req) ?_) | (refine And.intro ?_ ?_; · decide)))
  all_goals (refine bool_leaf ?_; first | (simp_all [partB]; done) | (simp_all [partB]; omega))
theorem m_port (n : Int) : PureC Try.prog 92 [i64v n] [boolv (inB n 0 5)] := by
  refine pureC_of (Γ := lookT tbl) (il := ilist) tg dr Try.func92 rfl (by kernel_rfl) rfl (Nat.le_of_ble_eq_true rfl) ?_
  (repeat' ((conv => whnf); first | refine br_i (fun _ => ?_) (fun _ => ?_) | (refine cur_leaf rfl rfl rfl ?_ ?_; · first | assumption | omega | exact hw ‹_›) | refine leaf_i rfl rfl ?_ | refine And.intro rfl ?_ | refine call_i (m_in _ _ _) ?_ | (refine Or.inl ?_; (conv => whnf); refine call_i (m_in _ _ _) ?_) | (refine And.intro ?_ ?_; · decide)))
  all_goals rfl
theorem m_part (x : XPart) : PureC Try.prog 65 [x.v] [boolv (partB x)] := by
  refine pureC_of (Γ := lookT tbl) (il := ilist) tg dr Try.func65 rfl (by kernel_rfl) rfl (Nat.le_of_ble_eq_true rfl) ?_
  (repeat' ((conv => whnf); first | refine br_i (fun _ => ?_) (fun _ => ?_) | (refine cur_leaf rfl rfl rfl ?_ ?_; · first | assumption | omega | exact hw ‹_›) | refine leaf_i rfl rfl ?_ | refine And.intro rfl ?_ | refine call_i (m_port _) ?_ | (refine Or.inl ?_; (conv => whnf); refine call_i (m_port _) ?_) | refine call_i (m_unit _) ?_ | (refine Or.inl ?_; (conv => whnf); refine call_i (m_unit _) ?_) | refine call_i (m_ReqOk x.Req) ?_ | (refine Or.inl ?_; (conv => whnf); refine call_i (m_ReqOk x.Req) ?_) | (refine And.intro ?_ ?_; · decide)))
  all_goals (refine bool_leaf ?_; first | (simp_all [partB, implReq_eq]; done) | (simp_all [partB, implReq_eq]; omega))
theorem s_noResp (x : XResp) : PureC Try.prog 62 [x.v] [boolv (decide (x = XResp.zero))] := by
  refine pureC_of (Γ := lookT tbl) (il := ilist) tg dr Try.func62 rfl (by kernel_rfl) rfl (Nat.le_of_ble_eq_true rfl) ?_
  (repeat' ((conv => whnf); first | refine br_i (fun _ => ?_) (fun _ => ?_) | (refine cur_leaf rfl rfl rfl ?_ ?_; · first | assumption | omega | exact hw ‹_›) | refine leaf_i rfl rfl ?_ | refine And.intro rfl ?_ | (refine And.intro ?_ ?_; · decide)))
  all_goals (cases x; (refine bool_leaf ?_; first | (simp_all [XResp.zero]; done) | (simp_all [XResp.zero]; omega)))
theorem m_sameResp (x y : XResp) : PureC Try.prog 66 [x.v, y.v] [boolv (decide (x = y))] := by
  refine pureC_of (Γ := lookT tbl) (il := ilist) tg dr Try.func66 rfl (by kernel_rfl) rfl (Nat.le_of_ble_eq_true rfl) ?_
  (repeat' ((conv => whnf); first | refine br_i (fun _ => ?_) (fun _ => ?_) | (refine cur_leaf rfl rfl rfl ?_ ?_; · first | assumption | omega | exact hw ‹_›) | refine leaf_i rfl rfl ?_ | refine And.intro rfl ?_ | refine call_i (m_eqI x.Words y.Words) ?_ | (refine Or.inl ?_; (conv => whnf); refine call_i (m_eqI x.Words y.Words) ?_) | refine call_i (m_eqB x.Bits y.Bits) ?_ | (refine Or.inl ?_; (conv => whnf); refine call_i (m_eqB x.Bits y.Bits) ?_) | (refine And.intro ?_ ?_; · decide)))
  all_goals (cases x; cases y; (refine bool_leaf ?_; first | (simp_all []; done) | (simp_all []; omega)))
def cellB (p : XPend) (i : Nat) : Bool := partB (p.Parts.getD i XPart.zero) && (if p.Has.getD i false then suits (p.Parts.getD i XPart.zero).Req (p.Told.getD i XResp.zero) else decide (p.Told.getD i XResp.zero = XResp.zero))
def headB (p : XPend) : Bool := inB p.Source 0 1000000000 && inB p.Tag 0 1000000000 && specReq p.Req && inB p.Parts.length 1 8 && decide ((p.Has.length : Int) = p.Parts.length) && decide ((p.Told.length : Int) = p.Parts.length)
def pendB (p : XPend) : Bool := headB p && (List.range p.Parts.length).all (cellB p) && !p.Has.all id
theorem range_bad {p : XPend} {k : Nat} (hk : k < p.Parts.length) (h : cellB p k = false) : (List.range p.Parts.length).all (cellB p) = false := by
  rw [List.all_eq_false]
  exact ⟨k, List.mem_range.2 hk, by simp [h]⟩
theorem bad_leaf {p : XPend} {k : Nat} (hk : k < p.Parts.length) (h : cellB p k = false) : [VV.one (.bool false)] = [boolv (pendB p)] := by
  rw [show pendB p = false by simp [pendB, range_bad hk h]]; rfl
theorem range_end {p : XPend} {k : Nat} (hk : p.Parts.length ≤ k) (h : ∀ i, i < k → cellB p i = true) : (List.range p.Parts.length).all (cellB p) = true := by
  rw [List.all_eq_true]
  intro i hi
  exact h i (by have := List.mem_range.1 hi; omega)
theorem take_all_id {l : List Bool} {k : Nat} (hk : k < l.length) : (l.take (k + 1)).all id = ((l.take k).all id && l[k]) := by
  rw [List.take_succ_eq_append_getElem hk, List.all_append]
  simp
theorem s_Pend (p : XPend) : PureC Try.prog 31 [p.v] [boolv (pendB p)] := by
  refine pureC_of (Γ := lookT tbl) (il := ilist) tg dr Try.func31 rfl (by kernel_rfl) rfl (Nat.le_of_ble_eq_true rfl) ?_
  (repeat' ((conv => whnf); first | refine br_i (fun _ => ?_) (fun _ => ?_) | (refine cur_leaf rfl rfl rfl ?_ ?_; · first | assumption | omega | exact hw ‹_›) | refine leaf_i rfl rfl ?_ | refine And.intro rfl ?_ | refine call_i (s_in _ _ _) ?_ | (refine Or.inl ?_; (conv => whnf); refine call_i (s_in _ _ _) ?_) | refine call_i (s_ReqOk p.Req) ?_ | (refine Or.inl ?_; (conv => whnf); refine call_i (s_ReqOk p.Req) ?_) | (refine And.intro ?_ ?_; · decide)))
  all_goals try ((refine bool_leaf ?_; first | (simp_all [pendB, headB]; done) | (simp_all [pendB, headB]; omega)); done)
  have hH : headB p = true := by (first | (simp_all [headB]; done) | (simp_all [headB]; omega))
  have h8 : p.Parts.length ≤ 8 ∧ p.Has.length = p.Parts.length ∧ p.Told.length = p.Parts.length := by simp [headB, inB] at hH; omega
  obtain ⟨h8, hh, ht⟩ := h8
  conv => whnf
  refine loop_i (fun k : Nat => ⟨envL [(1, .c (.ptr 0 0)), (3, .c (.pv (.bool ((p.Has.take k).all id)))), (4, .c (.pv (.int .i64 k)))], resL [(0, .box (p.ps.map .pv))], 1, 109⟩) (fun k => k ≤ p.Parts.length ∧ ∀ i, i < k → cellB p i = true) (fun k => p.Parts.length - k) 0 ⟨Nat.zero_le _, by omega⟩ (le_mk [(0, _)] rfl ⟨⟨rfl, rfl⟩, ⟨rfl, rfl⟩, ⟨rfl, rfl⟩, trivial⟩ ⟨⟨rfl, rfl⟩, trivial⟩ rfl) ?_
  intro k ⟨hk, hs⟩
  conv => whnf
  refine br_i (fun h => ?_) (fun h => ?_)
  · have hlt : k < p.Parts.length := by simpa using h
    have hl2 : k < p.Has.length := by omega
    have hl3 : k < p.Told.length := by omega
    have c1 : cellB p k = (partB p.Parts[k] && (if p.Has[k] then suits p.Parts[k].Req p.Told[k] else decide (p.Told[k] = XResp.zero))) := by
      simp [cellB, List.getD, List.getElem?_eq_getElem hlt, List.getElem?_eq_getElem hl2, List.getElem?_eq_getElem hl3]
    have ha := take_all_id hl2
    clear h
    have f1 := s_part p.Parts[k]
    have f2 := s_Suits p.Parts[k].Req p.Told[k]
    have f3 := s_noResp p.Told[k]
    have i1 := idx_map p.Has boolEl k hl2 1
    generalize partB p.Parts[k] = A at *
    generalize suits p.Parts[k].Req p.Told[k] = B at *
    generalize p.Has[k] = C at *
    generalize decide (p.Told[k] = XResp.zero) = D at *
    (repeat' ((conv => whnf); first | refine br_i (fun _ => ?_) (fun _ => ?_) | (refine cur_leaf rfl rfl rfl ?_ ?_; · first | assumption | omega | exact hw ‹_›) | refine leaf_i rfl rfl ?_ | refine And.intro rfl ?_ | refine call_i (f1) ?_ | (refine Or.inl ?_; (conv => whnf); refine call_i (f1) ?_) | refine call_i (f2) ?_ | (refine Or.inl ?_; (conv => whnf); refine call_i (f2) ?_) | refine call_i (f3) ?_ | (refine Or.inl ?_; (conv => whnf); refine call_i (f3) ?_) | (refine ⟨_, idx_map p.Parts XPart.ps k hlt 8, ?_⟩) | (refine ⟨_, i1, ?_⟩) | (refine ⟨_, idx_map p.Told XResp.ps k hl3 6, ?_⟩) | (refine And.intro ?_ ?_; · decide)))
    all_goals try (refine bad_leaf (k := k) hlt ?_; rw [c1]; clear c1 hs hk f1 f2 f3 i1; cases A <;> cases B <;> cases C <;> cases D <;> simp_all)
    all_goals (have hc : cellB p k = true := by (rw [c1]; clear c1 hs hk f1 f2 f3 i1; cases A <;> cases B <;> cases C <;> cases D <;> simp_all))
    all_goals (have hn : ∀ i, i < k + 1 → cellB p i = true := by intro i hi; rcases Nat.lt_or_ge i k with h | h; exact hs i h; rw [show i = k by omega]; exact hc)
    all_goals (conv => whnf)
    all_goals exact ⟨k + 1, ⟨⟨hlt, hn⟩, by omega⟩, le_mk [(0, _)] rfl ⟨⟨rfl, rfl⟩, ⟨congrArg (fun b => AV.c (.pv (.bool b))) (by rw [ha]; clear c1 hs hk f1 f2 f3 i1 hn hc; cases C <;> simp_all), rfl⟩, ⟨ctr (by omega), rfl⟩, trivial⟩ ⟨⟨rfl, rfl⟩, trivial⟩ rfl⟩
  · have hge : p.Parts.length ≤ k := by simpa using h
    (repeat' ((conv => whnf); first | refine br_i (fun _ => ?_) (fun _ => ?_) | (refine cur_leaf rfl rfl rfl ?_ ?_; · first | assumption | omega | exact hw ‹_›) | refine leaf_i rfl rfl ?_ | refine And.intro rfl ?_ | (refine And.intro ?_ ?_; · decide)))
    all_goals (rw [List.take_of_length_le (by omega), show pendB p = !p.Has.all id by simp [pendB, hH, range_end hge hs]]; rfl)
theorem m_Pend (p : XPend) : PureC Try.prog 32 [p.v] [boolv (decide (p.Id ≥ 0) && pendB p)] := by
  refine pureC_of (Γ := lookT tbl) (il := ilist) tg dr Try.func32 rfl (by kernel_rfl) rfl (Nat.le_of_ble_eq_true rfl) ?_
  (repeat' ((conv => whnf); first | refine br_i (fun _ => ?_) (fun _ => ?_) | (refine cur_leaf rfl rfl rfl ?_ ?_; · first | assumption | omega | exact hw ‹_›) | refine leaf_i rfl rfl ?_ | refine And.intro rfl ?_ | refine call_i (m_in _ _ _) ?_ | (refine Or.inl ?_; (conv => whnf); refine call_i (m_in _ _ _) ?_) | refine call_i (m_count _) ?_ | (refine Or.inl ?_; (conv => whnf); refine call_i (m_count _) ?_) | refine call_i (m_ReqOk p.Req) ?_ | (refine Or.inl ?_; (conv => whnf); refine call_i (m_ReqOk p.Req) ?_) | (refine And.intro ?_ ?_; · decide)))
  all_goals try ((refine bool_leaf ?_; first | (simp_all [pendB, headB, implReq_eq]; done) | (simp_all [pendB, headB, implReq_eq]; omega)); done)
  have hH : headB p = true := by (first | (simp_all [headB, implReq_eq]; done) | (simp_all [headB, implReq_eq]; omega))
  have h8 : p.Parts.length ≤ 8 ∧ p.Has.length = p.Parts.length ∧ p.Told.length = p.Parts.length := by simp [headB, inB] at hH; omega
  obtain ⟨h8, hh, ht⟩ := h8
  have hid : decide (p.Id ≥ 0) = true := by (first | (simp_all []; done) | (simp_all []; omega))
  rw [hid, Bool.true_and]
  clear hid
  conv => whnf
  refine loop_i (fun k : Nat => ⟨envL [(1, .c (.ptr 0 0)), (50, .c (.pv (XPart.sP p.Parts))), (51, .c (.pv (.int .i64 p.Parts.length))), (52, .c (.pv (.int .i64 k)))], resL [(0, .box (p.ps.map .pv))], 1, 100⟩) (fun k => k ≤ p.Parts.length ∧ ∀ i, i < k → cellB p i = true) (fun k => p.Parts.length - k) 0 ⟨Nat.zero_le _, by omega⟩ (le_mk [(0, _)] rfl ⟨⟨rfl, rfl⟩, ⟨rfl, rfl⟩, ⟨i64_eq (by simp), rfl⟩, ⟨rfl, rfl⟩, trivial⟩ ⟨⟨rfl, rfl⟩, trivial⟩ rfl) ?_
  intro k ⟨hk, hs⟩
  conv => whnf
  refine br_i (fun h => ?_) (fun h => ?_)
  · have hlt : k < p.Parts.length := by simpa using h
    have hl2 : k < p.Has.length := by omega
    have hl3 : k < p.Told.length := by omega
    have c1 : cellB p k = (partB p.Parts[k] && (if p.Has[k] then suits p.Parts[k].Req p.Told[k] else decide (p.Told[k] = XResp.zero))) := by
      simp [cellB, List.getD, List.getElem?_eq_getElem hlt, List.getElem?_eq_getElem hl2, List.getElem?_eq_getElem hl3]
    clear h
    have f1 := m_part p.Parts[k]
    have f2 := m_Suits p.Parts[k].Req p.Told[k]
    have f3 := m_sameResp p.Told[k] XResp.zero
    have i1 := idx_map p.Has boolEl k hl2 1
    generalize partB p.Parts[k] = A at *
    generalize suits p.Parts[k].Req p.Told[k] = B at *
    generalize p.Has[k] = C at *
    generalize decide (p.Told[k] = XResp.zero) = D at *
    (repeat' ((conv => whnf); first | refine br_i (fun _ => ?_) (fun _ => ?_) | (refine cur_leaf rfl rfl rfl ?_ ?_; · first | assumption | omega | exact hw ‹_›) | refine leaf_i rfl rfl ?_ | refine And.intro rfl ?_ | refine call_i (f1) ?_ | (refine Or.inl ?_; (conv => whnf); refine call_i (f1) ?_) | refine call_i (f2) ?_ | (refine Or.inl ?_; (conv => whnf); refine call_i (f2) ?_) | refine call_i (f3) ?_ | (refine Or.inl ?_; (conv => whnf); refine call_i (f3) ?_) | (refine ⟨_, idx_map p.Parts XPart.ps k hlt 8, ?_⟩) | (refine ⟨_, i1, ?_⟩) | (refine ⟨_, idx_map p.Told XResp.ps k hl3 6, ?_⟩) | (refine And.intro ?_ ?_; · decide)))
    all_goals try (refine bad_leaf (k := k) hlt ?_; rw [c1]; clear c1 hs hk f1 f2 f3 i1; cases A <;> cases B <;> cases C <;> cases D <;> simp_all)
    all_goals (have hc : cellB p k = true := by (rw [c1]; clear c1 hs hk f1 f2 f3 i1; cases A <;> cases B <;> cases C <;> cases D <;> simp_all))
    all_goals (have hn : ∀ i, i < k + 1 → cellB p i = true := by intro i hi; rcases Nat.lt_or_ge i k with h | h; exact hs i h; rw [show i = k by omega]; exact hc)
    all_goals (conv => whnf)
    all_goals exact ⟨k + 1, ⟨⟨hlt, hn⟩, by omega⟩, le_mk [(0, _)] rfl ⟨⟨rfl, rfl⟩, ⟨rfl, rfl⟩, ⟨rfl, rfl⟩, ⟨ctr (by omega), rfl⟩, trivial⟩ ⟨⟨rfl, rfl⟩, trivial⟩ rfl⟩
  · have hge : p.Parts.length ≤ k := by simpa using h
    (repeat' ((conv => whnf); first | refine br_i (fun _ => ?_) (fun _ => ?_) | (refine cur_leaf rfl rfl rfl ?_ ?_; · first | assumption | omega | exact hw ‹_›) | refine leaf_i rfl rfl ?_ | refine And.intro rfl ?_ | refine call_i (m_containsB p.Has false) ?_ | (refine Or.inl ?_; (conv => whnf); refine call_i (m_containsB p.Has false) ?_) | (refine And.intro ?_ ?_; · decide)))
    all_goals (rw [show pendB p = !p.Has.all id by simp [pendB, hH, range_end hge hs]]; simp; rfl)
def rowB (t : XTable) (i : Nat) : Bool := pendB (t.List_.getD i XPend.zero) && (decide (0 ≤ (t.List_.getD i XPend.zero).Id) && decide ((t.List_.getD i XPend.zero).Id < t.Next)) && (decide (i = 0) || decide ((t.List_.getD (i - 1) XPend.zero).Id < (t.List_.getD i XPend.zero).Id))
def tableB (t : XTable) : Bool := inB t.Next 0 1000000000 && decide ((t.List_.length : Int) ≤ 16) && (List.range t.List_.length).all (rowB t)
theorem trow_bad {t : XTable} {k : Nat} (hk : k < t.List_.length) (h : rowB t k = false) : [VV.one (.bool false)] = [boolv (tableB t)] := by
  have : (List.range t.List_.length).all (rowB t) = false := by
    rw [List.all_eq_false]
    exact ⟨k, List.mem_range.2 hk, by simp [h]⟩
  rw [show tableB t = false by simp [tableB, this]]
  rfl
theorem trow_end {t : XTable} {k : Nat} (hk : t.List_.length ≤ k) (h : ∀ i, i < k → rowB t i = true) : (List.range t.List_.length).all (rowB t) = true := by
  rw [List.all_eq_true]
  intro i hi
  exact h i (by have := List.mem_range.1 hi; omega)
theorem s_TableOk (t : XTable) : PureC Try.prog 30 [t.v] [boolv (tableB t)] := by
  refine pureC_of (Γ := lookT tbl) (il := ilist) tg dr Try.func30 rfl (by kernel_rfl) rfl (Nat.le_of_ble_eq_true rfl) ?_
  (repeat' ((conv => whnf); first | refine br_i (fun _ => ?_) (fun _ => ?_) | (refine cur_leaf rfl rfl rfl ?_ ?_; · first | assumption | omega | exact hw ‹_›) | refine leaf_i rfl rfl ?_ | refine And.intro rfl ?_ | refine call_i (s_in _ _ _) ?_ | (refine Or.inl ?_; (conv => whnf); refine call_i (s_in _ _ _) ?_) | (refine And.intro ?_ ?_; · decide)))
  all_goals try ((refine bool_leaf ?_; first | (simp_all [tableB]; done) | (simp_all [tableB]; omega)); done)
  have hH : inB t.Next 0 1000000000 = true := by (first | (simp_all []; done) | (simp_all []; omega))
  have hl : t.List_.length ≤ 16 := by rename_i h; simp at h; omega
  have hN : 0 ≤ t.Next ∧ t.Next ≤ 1000000000 := by simp [inB] at hH; omega
  have hw : IntKind.i64.wrap (t.Next - 1) = t.Next - 1 := wrap_ok (by omega) (by omega)
  conv => whnf
  refine loop_i (fun k : Nat => ⟨envL [(1, .c (.ptr 0 0)), (3, .c (.pv (.int .i64 k)))], resL [(0, .box (t.ps.map .pv))], 1, 61⟩) (fun k => k ≤ t.List_.length ∧ ∀ i, i < k → rowB t i = true) (fun k => t.List_.length - k) 0 ⟨Nat.zero_le _, by omega⟩ (le_mk [(0, _)] rfl ⟨⟨rfl, rfl⟩, ⟨rfl, rfl⟩, trivial⟩ ⟨⟨rfl, rfl⟩, trivial⟩ rfl) ?_
  intro k ⟨hk, hs⟩
  conv => whnf
  refine br_i (fun h => ?_) (fun h => ?_)
  · have hlt : k < t.List_.length := by simpa using h
    have c1 : rowB t k = (pendB t.List_[k] && (decide (0 ≤ t.List_[k].Id) && decide (t.List_[k].Id < t.Next)) && (decide (k = 0) || decide ((t.List_.getD (k - 1) XPend.zero).Id < t.List_[k].Id))) := by
      have hg : t.List_.getD k XPend.zero = t.List_[k] := by simp [List.getD, List.getElem?_eq_getElem hlt]
      rw [rowB, hg]
    have ip : 0 < k → (0 ≤ IntKind.i64.wrap ((k : Int) - 1) ∧ (t.List_.map XPend.ps)[(IntKind.i64.wrap ((k : Int) - 1)).toNat]? = some (XPend.ps (t.List_.getD (k - 1) XPend.zero))) ∧ 13 = 13 := by
      intro h0
      have hw1 : IntKind.i64.wrap ((k : Int) - 1) = ((k - 1 : Nat) : Int) := (wrap_ok (by omega) (by omega)).trans (by omega)
      rw [hw1]
      refine ⟨⟨by omega, ?_⟩, rfl⟩
      rw [List.getElem?_map, Int.toNat_natCast, List.getElem?_eq_getElem (by omega)]
      simp [List.getD, List.getElem?_eq_getElem (show k - 1 < t.List_.length by omega)]
    have f1 := s_Pend t.List_[k]
    have i1 := idx_map t.List_ XPend.ps k hlt 13
    have f2 : PureC Try.prog 35 [i64v t.List_[k].Id, i64v 0, i64v (IntKind.i64.wrap (t.Next - 1))] [boolv (decide (0 ≤ t.List_[k].Id) && decide (t.List_[k].Id < t.Next))] := by
      have := s_in t.List_[k].Id 0 (IntKind.i64.wrap (t.Next - 1))
      rwa [hw, show inB t.List_[k].Id 0 (t.Next - 1) = (decide (0 ≤ t.List_[k].Id) && decide (t.List_[k].Id < t.Next)) by rw [Bool.eq_iff_iff]; simp [inB]; omega, ← hw] at this
    generalize pendB t.List_[k] = A at *
    generalize (decide (0 ≤ t.List_[k].Id) && decide (t.List_[k].Id < t.Next)) = B at *
    (repeat' ((conv => whnf); first | refine br_i (fun _ => ?_) (fun _ => ?_) | (refine cur_leaf rfl rfl rfl ?_ ?_; · first | assumption | omega | exact hw ‹_›) | refine leaf_i rfl rfl ?_ | refine And.intro rfl ?_ | refine call_i (f1) ?_ | (refine Or.inl ?_; (conv => whnf); refine call_i (f1) ?_) | refine call_i (f2) ?_ | (refine Or.inl ?_; (conv => whnf); refine call_i (f2) ?_) | (refine ⟨_, i1, ?_⟩) | (refine ⟨_, ip (by clear hs c1 ip; simp at *; omega), ?_⟩) | (refine And.intro ?_ ?_; · decide)))
    all_goals try (refine trow_bad (k := k) hlt ?_; rw [c1]; clear c1 hs hk f1 f2 i1 ip; cases A <;> cases B <;> simp_all <;> omega)
    all_goals (have hc : rowB t k = true := by (rw [c1]; clear c1 hs hk f1 f2 i1 ip; cases A <;> cases B <;> simp_all <;> omega))
    all_goals (have hn : ∀ i, i < k + 1 → rowB t i = true := by intro i hi; rcases Nat.lt_or_ge i k with h | h; exact hs i h; rw [show i = k by omega]; exact hc)
    all_goals (conv => whnf)
    all_goals exact ⟨k + 1, ⟨⟨hlt, hn⟩, by omega⟩, le_mk [(0, _)] rfl ⟨⟨rfl, rfl⟩, ⟨ctr (by omega), rfl⟩, trivial⟩ ⟨⟨rfl, rfl⟩, trivial⟩ rfl⟩
  · have hge : t.List_.length ≤ k := by simpa using h
    have he := trow_end hge hs
    clear hs h
    (repeat' ((conv => whnf); first | refine br_i (fun _ => ?_) (fun _ => ?_) | (refine cur_leaf rfl rfl rfl ?_ ?_; · first | assumption | omega | exact hw ‹_›) | refine leaf_i rfl rfl ?_ | refine And.intro rfl ?_ | (refine And.intro ?_ ?_; · decide)))
    all_goals (refine bool_leaf ?_; first | (simp_all [tableB, he]; done) | (simp_all [tableB, he]; omega))
theorem m_TableOk (t : XTable) (hl : t.List_.length ≤ 1048577) : PureC Try.prog 9 [t.v] [boolv (tableB t)] := by
  refine pureC_of (Γ := lookT tbl) (il := ilist) tg dr Try.func9 rfl (by kernel_rfl) rfl (Nat.le_of_ble_eq_true rfl) ?_
  conv => whnf
  refine loop_i (fun k : Nat => ⟨envL [(1, .c (.ptr 0 0)), (6, .c (.pv (XPend.sP t.List_))), (7, .c (.pv (.int .i64 t.List_.length))), (8, .c (.pv (.int .i64 k)))], resL [(0, .box (t.ps.map .pv))], 1, 49⟩) (fun k => k ≤ t.List_.length ∧ ∀ i, i < k → rowB t i = true) (fun k => t.List_.length - k) 0 ⟨Nat.zero_le _, by omega⟩ (le_mk [(0, _)] rfl ⟨⟨rfl, rfl⟩, ⟨rfl, rfl⟩, ⟨i64_eq (by simp), rfl⟩, ⟨rfl, rfl⟩, trivial⟩ ⟨⟨rfl, rfl⟩, trivial⟩ rfl) ?_
  intro k ⟨hk, hs⟩
  conv => whnf
  refine br_i (fun h => ?_) (fun h => ?_)
  · have hlt : k < t.List_.length := by simpa using h
    have c1 : rowB t k = (pendB t.List_[k] && (decide (0 ≤ t.List_[k].Id) && decide (t.List_[k].Id < t.Next)) && (decide (k = 0) || decide ((t.List_.getD (k - 1) XPend.zero).Id < t.List_[k].Id))) := by
      have hg : t.List_.getD k XPend.zero = t.List_[k] := by simp [List.getD, List.getElem?_eq_getElem hlt]
      rw [rowB, hg]
    have ip : 0 < k → (0 ≤ IntKind.i64.wrap ((k : Int) - 1) ∧ (t.List_.map XPend.ps)[(IntKind.i64.wrap ((k : Int) - 1)).toNat]? = some (XPend.ps (t.List_.getD (k - 1) XPend.zero))) ∧ 13 = 13 := by
      intro h0
      have hw1 : IntKind.i64.wrap ((k : Int) - 1) = ((k - 1 : Nat) : Int) := (wrap_ok (by omega) (by omega)).trans (by omega)
      rw [hw1]
      refine ⟨⟨by omega, ?_⟩, rfl⟩
      rw [List.getElem?_map, Int.toNat_natCast, List.getElem?_eq_getElem (by omega)]
      simp [List.getD, List.getElem?_eq_getElem (show k - 1 < t.List_.length by omega)]
    have f1 := m_Pend t.List_[k]
    have i1 := idx_map t.List_ XPend.ps k hlt 13
    generalize pendB t.List_[k] = A at *
    (repeat' ((conv => whnf); first | refine br_i (fun _ => ?_) (fun _ => ?_) | (refine cur_leaf rfl rfl rfl ?_ ?_; · first | assumption | omega | exact hw ‹_›) | refine leaf_i rfl rfl ?_ | refine And.intro rfl ?_ | refine call_i (f1) ?_ | (refine Or.inl ?_; (conv => whnf); refine call_i (f1) ?_) | (refine ⟨_, i1, ?_⟩) | (refine ⟨_, ip (by clear hs c1 ip; simp at *; omega), ?_⟩) | (refine And.intro ?_ ?_; · decide)))
    all_goals try (refine trow_bad (k := k) hlt ?_; rw [c1]; clear c1 hs hk f1 i1 ip; cases A <;> simp_all <;> omega)
    all_goals (have hc : rowB t k = true := by (rw [c1]; clear c1 hs hk f1 i1 ip; cases A <;> simp_all <;> omega))
    all_goals (have hn : ∀ i, i < k + 1 → rowB t i = true := by intro i hi; rcases Nat.lt_or_ge i k with h | h; exact hs i h; rw [show i = k by omega]; exact hc)
    all_goals (conv => whnf)
    all_goals exact ⟨k + 1, ⟨⟨hlt, hn⟩, by omega⟩, le_mk [(0, _)] rfl ⟨⟨rfl, rfl⟩, ⟨rfl, rfl⟩, ⟨rfl, rfl⟩, ⟨ctr (by omega), rfl⟩, trivial⟩ ⟨⟨rfl, rfl⟩, trivial⟩ rfl⟩
  · have hge : t.List_.length ≤ k := by simpa using h
    have he := trow_end hge hs
    clear hs h
    (repeat' ((conv => whnf); first | refine br_i (fun _ => ?_) (fun _ => ?_) | (refine cur_leaf rfl rfl rfl ?_ ?_; · first | assumption | omega | exact hw ‹_›) | refine leaf_i rfl rfl ?_ | refine And.intro rfl ?_ | refine call_i (m_count _) ?_ | (refine Or.inl ?_; (conv => whnf); refine call_i (m_count _) ?_) | (refine And.intro ?_ ?_; · decide)))
    all_goals (refine bool_leaf ?_; first | (simp_all [tableB, he]; done) | (simp_all [tableB, he]; omega))
def cntF (l : List Bool) : Nat := (l.filter (fun b => !b)).length
def waitN (t : XTable) : Nat := sumF (fun p : XPend => cntF p.Has) t.List_
def waitF (t : XTable) : Int := if tableB t then (waitN t : Nat) else 0
theorem cnt_le (l : List Bool) : cntF l ≤ l.length := List.length_filter_le _ _
theorem cnt_take (l : List Bool) (k : Nat) (h : k < l.length) : cntF (l.take (k + 1)) = cntF (l.take k) + (if l[k] then 0 else 1) := by
  unfold cntF
  rw [List.take_succ_eq_append_getElem h, List.filter_append, List.length_append]
  cases l[k] <;> simp
theorem sumF_mono {α : Type} (f g : α → Nat) (l : List α) (h : ∀ x ∈ l, f x ≤ g x) : sumF f l ≤ sumF g l := by
  induction l with
  | nil => simp [sumF]
  | cons a l ih => have := h a (by simp); have := ih (fun x hx => h x (by simp [hx])); simp [sumF]; omega
theorem wait_le (t : XTable) : waitN t ≤ t.tot := by
  have := sumF_mono (fun p : XPend => cntF p.Has) XPend.tot t.List_ (fun p _ => by have := cnt_le p.Has; unfold XPend.tot; omega)
  have h1 : t.tot = t.List_.length + sumF XPend.tot t.List_ := rfl
  unfold waitN
  omega
theorem m_Waiting (t : XTable) (ht : t.tot ≤ 1048576) : PureC Try.prog 8 [t.v] [i64v (waitF t)] := by
  refine pureC_of (Γ := lookT tbl) (il := ilist) tg dr Try.func8 rfl (by kernel_rfl) rfl (Nat.le_of_ble_eq_true rfl) ?_
  have h1 : t.tot = t.List_.length + sumF XPend.tot t.List_ := rfl
  have f := m_TableOk t (by omega)
  have hwl := wait_le t
  unfold waitF
  generalize tableB t = A at *
  cases A with
  | false => (repeat' ((conv => whnf); first | refine br_i (fun _ => ?_) (fun _ => ?_) | (refine cur_leaf rfl rfl rfl ?_ ?_; · first | assumption | omega | exact hw ‹_›) | refine leaf_i rfl rfl ?_ | refine And.intro rfl ?_ | refine call_i (f) ?_ | (refine Or.inl ?_; (conv => whnf); refine call_i (f) ?_) | (refine And.intro ?_ ?_; · decide))); all_goals rfl
  | true =>
  conv => whnf
  refine call_i f ?_
  conv => whnf
  refine loop_i (fun k : Nat => ⟨envL [(3, .c (.pv (.int .i64 (sumF (fun p : XPend => cntF p.Has) (t.List_.take k) : Nat)))), (12, .c (.pv (XPend.sP t.List_))), (13, .c (.pv (.int .i64 t.List_.length))), (14, .c (.pv (.int .i64 k)))], resL [], 0, 32⟩) (fun k => k ≤ t.List_.length) (fun k => t.List_.length - k) 0 (Nat.zero_le _) (le_mk [] rfl ⟨⟨i64_eq (by simp [sumF]), rfl⟩, ⟨rfl, rfl⟩, ⟨i64_eq (by simp), rfl⟩, ⟨rfl, rfl⟩, trivial⟩ trivial rfl) ?_
  intro k hk
  conv => whnf
  refine br_i (fun h => ?_) (fun h => ?_)
  · have hlt : k < t.List_.length := by simpa using h
    have hsu := sumF_succ (fun p : XPend => cntF p.Has) t.List_ k hlt
    have hge := sumF_get (fun p : XPend => cntF p.Has) t.List_ k hlt
    have hgt := sumF_get XPend.tot t.List_ k hlt
    have hhl : t.List_[k].Has.length ≤ 1048576 := by have : t.List_[k].Has.length ≤ XPend.tot t.List_[k] := by unfold XPend.tot; omega
                                                     omega
    unfold waitN at hwl
    conv => whnf
    refine ⟨_, idx_map t.List_ XPend.ps k hlt 13, ?_⟩
    generalize hs0 : sumF (fun p : XPend => cntF p.Has) (t.List_.take k) = s0 at *
    conv => whnf
    refine loop_i (fun j : Nat => ⟨envL [(3, .c (.pv (.int .i64 (s0 + cntF (t.List_[k].Has.take j) : Nat)))), (12, .c (.pv (XPend.sP t.List_))), (13, .c (.pv (.int .i64 t.List_.length))), (14, .c (.pv (.int .i64 k))), (19, .c (.pv (boolsP t.List_[k].Has))), (20, .c (.pv (.int .i64 t.List_[k].Has.length))), (21, .c (.pv (.int .i64 j)))], resL [], 0, 32⟩) (fun j => j ≤ t.List_[k].Has.length) (fun j => t.List_[k].Has.length - j) 0 (Nat.zero_le _) (le_mk [] rfl ⟨⟨i64_eq (by simp [cntF]), rfl⟩, ⟨rfl, rfl⟩, ⟨rfl, rfl⟩, ⟨rfl, rfl⟩, ⟨rfl, rfl⟩, ⟨i64_eq (by simp), rfl⟩, ⟨rfl, rfl⟩, trivial⟩ trivial rfl) ?_
    intro j hj
    conv => whnf
    refine br_i (fun h => ?_) (fun h => ?_)
    · have hjt : j < t.List_[k].Has.length := by simpa using h
      have hct := cnt_take t.List_[k].Has j hjt
      have hc1 := cnt_le (t.List_[k].Has.take (j + 1))
      have hc2 := cnt_le (t.List_[k].Has.take j)
      rw [List.length_take] at hc1 hc2
      conv => whnf
      refine ⟨_, idx_map t.List_[k].Has boolEl j hjt 1, ?_⟩
      conv => whnf
      refine br_i (fun h => ?_) (fun h => ?_)
      · have hb : t.List_[k].Has[j] = false := by simpa using h
        rw [hb] at hct
        conv => whnf
        exact ⟨j + 1, ⟨hjt, by omega⟩, le_mk [] rfl ⟨⟨i64_eq (by rw [hct]; exact (wrap_ok (by omega) (by omega)).trans (by simp; omega)), rfl⟩, ⟨rfl, rfl⟩, ⟨rfl, rfl⟩, ⟨rfl, rfl⟩, ⟨rfl, rfl⟩, ⟨rfl, rfl⟩, ⟨ctr (by omega), rfl⟩, trivial⟩ trivial rfl⟩
      · have hb : t.List_[k].Has[j] = true := by simpa using h
        rw [hb] at hct
        conv => whnf
        exact ⟨j + 1, ⟨hjt, by omega⟩, le_mk [] rfl ⟨⟨i64_eq (by rw [hct]; simp), rfl⟩, ⟨rfl, rfl⟩, ⟨rfl, rfl⟩, ⟨rfl, rfl⟩, ⟨rfl, rfl⟩, ⟨rfl, rfl⟩, ⟨ctr (by omega), rfl⟩, trivial⟩ trivial rfl⟩
    · have hj2 : t.List_[k].Has.length ≤ j := by simp at h; omega
      rw [List.take_of_length_le hj2]
      conv => whnf
      exact ⟨k + 1, ⟨hlt, by omega⟩, le_mk [] rfl ⟨⟨i64_eq (by rw [hsu]), rfl⟩, ⟨rfl, rfl⟩, ⟨rfl, rfl⟩, ⟨ctr (by omega), rfl⟩, trivial⟩ trivial rfl⟩
  · have hk2 : k = t.List_.length := by simp at h; omega
    subst hk2
    (repeat' ((conv => whnf); first | refine br_i (fun _ => ?_) (fun _ => ?_) | (refine cur_leaf rfl rfl rfl ?_ ?_; · first | assumption | omega | exact hw ‹_›) | refine leaf_i rfl rfl ?_ | refine And.intro rfl ?_ | (refine And.intro ?_ ?_; · decide)))
    all_goals (rw [List.take_length]; rfl)
end Go.Proofs.Ytnpcgheojijpjaa
