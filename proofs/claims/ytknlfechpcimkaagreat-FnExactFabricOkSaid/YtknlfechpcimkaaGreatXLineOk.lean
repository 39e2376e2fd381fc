/- Line: what 'ok' means, and both packages' functions. -/
import Derived.Test.YtknlfechpcimkaaGreatXMark
namespace Go.Proofs.YtknlfechpcimkaaGreat
open Go Go.Vi
set_option linter.unusedVariables false
set_option linter.unusedSimpArgs false
set_option maxRecDepth 100000
def inB (n lo hi : Int) : Bool := decide (n ≥ lo) && decide (n ≤ hi)
def word (n : Int) : Bool := inB n 0 65535
abbrev wrap64 (n : Int) : Int := IntKind.i64.wrap n
def fitsB (a n : Int) : Bool := inB a 0 65535 && decide (wrap64 (a + n) ≤ 65536)
def zeroB (x : XReq) (a b c d : Bool) : Bool := (a || decide (x.N = 0)) && (b || decide ((x.Words.length : Int) = 0)) && (c || decide ((x.Bits.length : Int) = 0)) && (d || decide (x.WAt = 0))
def specReq (x : XReq) : Bool :=
  if !x.Words.all word || !inB x.At 0 65535 then false else
  if x.Kind = 1 ∨ x.Kind = 2 then zeroB x true false false false && inB x.N 1 2000 && fitsB x.At x.N else
  if x.Kind = 3 ∨ x.Kind = 4 then zeroB x true false false false && inB x.N 1 125 && fitsB x.At x.N else
  if x.Kind = 5 then zeroB x false false true false && decide ((x.Bits.length : Int) = 1) else
  if x.Kind = 6 then zeroB x false true false false && decide ((x.Words.length : Int) = 1) else
  if x.Kind = 15 then zeroB x false false true false && inB x.Bits.length 1 1968 && fitsB x.At x.Bits.length else
  if x.Kind = 16 then zeroB x false true false false && inB x.Words.length 1 123 && fitsB x.At x.Words.length else
  if x.Kind = 22 then zeroB x false true false false && decide ((x.Words.length : Int) = 2) else
  if x.Kind = 23 then zeroB x true true false true && inB x.N 1 125 && fitsB x.At x.N && inB x.Words.length 1 121 && fitsB x.WAt x.Words.length else false
def specCall (x : XCall) : Bool := inB x.Id 0 1000000000 && inB x.Part 0 7 && inB x.Unit 1 247 && specReq x.Req
def noReq (x : XReq) : Bool := decide (x = XReq.zero)
def noCall (x : XCall) : Bool := decide (x = XCall.zero)
def lineOk (x : XLine) : Bool :=
  inB x.Wait 1 100 && inB x.Tries 0 5 && decide ((x.Queue.length : Int) ≤ 40) && inB x.Next 0 65535 && x.Queue.all specCall &&
  (if x.Busy then specCall x.Call && inB x.Number 0 65535 && inB x.Due 0 4294967295 && inB x.Left 0 x.Tries else noCall x.Call && decide (x.Number = 0) && decide (x.Due = 0) && decide (x.Left = 0))
theorem s_in (n lo hi : Int) : PureC Tryz.prog 15 [i64v n, i64v lo, i64v hi] [boolv (inB n lo hi)] := by
  refine pureC_of (Γ := lookT tbl) (il := ilist) tg dr Tryz.func15 rfl (by kernel_rfl) rfl (Nat.le_of_ble_eq_true rfl) ?_
  (repeat' ((conv => whnf); first | refine br_i (fun _ => ?_) (fun _ => ?_) | (refine cur_leaf rfl rfl rfl ?_ ?_; · first | assumption | omega | exact hw ‹_›) | refine leaf_i rfl rfl ?_ | refine And.intro rfl ?_ | (refine And.intro ?_ ?_; · decide)))
  all_goals (refine bool_leaf ?_; first | (simp_all [inB]; done) | (simp_all [inB]; omega))
theorem s_tick (n : Int) : PureC Tryz.prog 12 [i64v n] [boolv (inB n 0 4294967295)] := by
  refine pureC_of (Γ := lookT tbl) (il := ilist) tg dr Tryz.func12 rfl (by kernel_rfl) rfl (Nat.le_of_ble_eq_true rfl) ?_
  (repeat' ((conv => whnf); first | refine br_i (fun _ => ?_) (fun _ => ?_) | (refine cur_leaf rfl rfl rfl ?_ ?_; · first | assumption | omega | exact hw ‹_›) | refine leaf_i rfl rfl ?_ | refine And.intro rfl ?_ | refine call_i (s_in _ _ _) ?_ | (refine Or.inl ?_; (conv => whnf); refine call_i (s_in _ _ _) ?_) | (refine And.intro ?_ ?_; · decide)))
  all_goals rfl
theorem s_words (l : List Int) : PureC Tryz.prog 96 [intsV l] [boolv (l.all word)] := by
  refine pureC_fit ⟨_, Tryz.func96, by kernel_rfl, rfl⟩ fun hf => ?_
  have hl : l.length ≤ 9223372036854775807 := fits_len (hf (intsV l) (by simp))
  refine pureC_of (Γ := lookT tbl) (il := ilist) tg dr Tryz.func96 rfl (by kernel_rfl) rfl (Nat.le_of_ble_eq_true rfl) ?_
  conv => whnf
  refine loop_i (fun k : Nat => ⟨envL [(0, .c (.pv (intsP l))), (3, .c (.pv (.int .i64 k)))], resL [], 0, 16⟩) (fun k => k ≤ l.length ∧ (l.take k).all word = true) (fun k => l.length - k) 0 ⟨Nat.zero_le _, rfl⟩ (le_mk [] rfl ⟨⟨rfl, rfl⟩, ⟨rfl, rfl⟩, trivial⟩ trivial rfl) ?_
  intro k ⟨hk, hs⟩
  conv => whnf
  refine br_i (fun h => ?_) (fun h => ?_)
  · have hlt : k < l.length := by simpa using h
    conv => whnf
    refine ⟨_, idx_map l intEl k hlt 1, ?_⟩
    conv => whnf
    refine call_i (s_in l[k] 0 65535) ?_
    conv => whnf
    refine br_i (fun h => ?_) (fun h => ?_) <;> conv => whnf
    · refine leaf_i rfl rfl ?_
      rw [all_bad hlt (by simpa [word] using h)]
      rfl
    · exact ⟨k + 1, ⟨⟨hlt, all_succ hs hlt (by simpa [word] using h)⟩, by omega⟩, le_mk [] rfl ⟨⟨rfl, rfl⟩, ⟨ctr (by omega), rfl⟩, trivial⟩ trivial rfl⟩
  · have hk : l.length ≤ k := by simpa using h
    conv => whnf
    refine leaf_i rfl rfl ?_
    rw [all_end hs hk]
    rfl
theorem s_zero (x : XReq) (a b c d : Bool) : PureC Tryz.prog 97 [x.v, boolv a, boolv b, boolv c, boolv d] [boolv (zeroB x a b c d)] := by
  refine pureC_of (Γ := lookT tbl) (il := ilist) tg dr Tryz.func97 rfl (by kernel_rfl) rfl (Nat.le_of_ble_eq_true rfl) ?_
  (repeat' ((conv => whnf); first | refine br_i (fun _ => ?_) (fun _ => ?_) | (refine cur_leaf rfl rfl rfl ?_ ?_; · first | assumption | omega | exact hw ‹_›) | refine leaf_i rfl rfl ?_ | refine And.intro rfl ?_ | (refine And.intro ?_ ?_; · decide)))
  all_goals (refine bool_leaf ?_; first | (simp_all [zeroB]; done) | (simp_all [zeroB]; omega))
theorem s_fits (a n : Int) : PureC Tryz.prog 98 [i64v a, i64v n] [boolv (fitsB a n)] := by
  refine pureC_of (Γ := lookT tbl) (il := ilist) tg dr Tryz.func98 rfl (by kernel_rfl) rfl (Nat.le_of_ble_eq_true rfl) ?_
  (repeat' ((conv => whnf); first | refine br_i (fun _ => ?_) (fun _ => ?_) | (refine cur_leaf rfl rfl rfl ?_ ?_; · first | assumption | omega | exact hw ‹_›) | refine leaf_i rfl rfl ?_ | refine And.intro rfl ?_ | refine call_i (s_in _ _ _) ?_ | (refine Or.inl ?_; (conv => whnf); refine call_i (s_in _ _ _) ?_) | (refine And.intro ?_ ?_; · decide)))
  all_goals (refine bool_leaf ?_; first | (simp_all [fitsB]; done) | (simp_all [fitsB]; omega))
theorem s_ReqOk (x : XReq) : PureC Tryz.prog 66 [x.v] [boolv (specReq x)] := by
  refine pureC_of (Γ := lookT tbl) (il := ilist) tg dr Tryz.func66 rfl (by kernel_rfl) rfl (Nat.le_of_ble_eq_true rfl) ?_
  (repeat' ((conv => whnf); first | refine br_i (fun _ => ?_) (fun _ => ?_) | (refine cur_leaf rfl rfl rfl ?_ ?_; · first | assumption | omega | exact hw ‹_›) | refine leaf_i rfl rfl ?_ | refine And.intro rfl ?_ | refine call_i (s_in _ _ _) ?_ | (refine Or.inl ?_; (conv => whnf); refine call_i (s_in _ _ _) ?_) | refine call_i (s_words x.Words) ?_ | (refine Or.inl ?_; (conv => whnf); refine call_i (s_words x.Words) ?_) | refine call_i (s_zero x _ _ _ _) ?_ | (refine Or.inl ?_; (conv => whnf); refine call_i (s_zero x _ _ _ _) ?_) | refine call_i (s_fits _ _) ?_ | (refine Or.inl ?_; (conv => whnf); refine call_i (s_fits _ _) ?_) | (refine And.intro ?_ ?_; · decide)))
  all_goals (refine bool_leaf ?_; first | (simp_all [specReq]; done) | (simp_all [specReq]; omega))
theorem s_noReq (x : XReq) : PureC Tryz.prog 70 [x.v] [boolv (noReq x)] := by
  refine pureC_of (Γ := lookT tbl) (il := ilist) tg dr Tryz.func70 rfl (by kernel_rfl) rfl (Nat.le_of_ble_eq_true rfl) ?_
  (repeat' ((conv => whnf); first | refine br_i (fun _ => ?_) (fun _ => ?_) | (refine cur_leaf rfl rfl rfl ?_ ?_; · first | assumption | omega | exact hw ‹_›) | refine leaf_i rfl rfl ?_ | refine And.intro rfl ?_ | (refine And.intro ?_ ?_; · decide)))
  all_goals (cases x; (refine bool_leaf ?_; first | (simp_all [noReq, XReq.zero]; done) | (simp_all [noReq, XReq.zero]; omega)))
theorem s_call (x : XCall) : PureC Tryz.prog 40 [x.v] [boolv (specCall x)] := by
  refine pureC_of (Γ := lookT tbl) (il := ilist) tg dr Tryz.func40 rfl (by kernel_rfl) rfl (Nat.le_of_ble_eq_true rfl) ?_
  (repeat' ((conv => whnf); first | refine br_i (fun _ => ?_) (fun _ => ?_) | (refine cur_leaf rfl rfl rfl ?_ ?_; · first | assumption | omega | exact hw ‹_›) | refine leaf_i rfl rfl ?_ | refine And.intro rfl ?_ | refine call_i (s_in _ _ _) ?_ | (refine Or.inl ?_; (conv => whnf); refine call_i (s_in _ _ _) ?_) | refine call_i (s_ReqOk x.Req) ?_ | (refine Or.inl ?_; (conv => whnf); refine call_i (s_ReqOk x.Req) ?_) | (refine And.intro ?_ ?_; · decide)))
  all_goals (refine bool_leaf ?_; first | (simp_all [specCall]; done) | (simp_all [specCall]; omega))
theorem s_noCall (x : XCall) : PureC Tryz.prog 41 [x.v] [boolv (noCall x)] := by
  refine pureC_of (Γ := lookT tbl) (il := ilist) tg dr Tryz.func41 rfl (by kernel_rfl) rfl (Nat.le_of_ble_eq_true rfl) ?_
  (repeat' ((conv => whnf); first | refine br_i (fun _ => ?_) (fun _ => ?_) | (refine cur_leaf rfl rfl rfl ?_ ?_; · first | assumption | omega | exact hw ‹_›) | refine leaf_i rfl rfl ?_ | refine And.intro rfl ?_ | refine call_i (s_noReq x.Req) ?_ | (refine Or.inl ?_; (conv => whnf); refine call_i (s_noReq x.Req) ?_) | (refine And.intro ?_ ?_; · decide)))
  all_goals (cases x; (refine bool_leaf ?_; first | (simp_all [noCall, noReq, XCall.zero]; done) | (simp_all [noCall, noReq, XCall.zero]; omega)))
theorem s_LineOk (x : XLine) : PureC Tryz.prog 16 [x.v] [boolv (lineOk x)] := by
  refine pureC_of (Γ := lookT tbl) (il := ilist) tg dr Tryz.func16 rfl (by kernel_rfl) rfl (Nat.le_of_ble_eq_true rfl) ?_
  (repeat' ((conv => whnf); first | refine br_i (fun _ => ?_) (fun _ => ?_) | (refine cur_leaf rfl rfl rfl ?_ ?_; · first | assumption | omega | exact hw ‹_›) | refine leaf_i rfl rfl ?_ | refine And.intro rfl ?_ | refine call_i (s_in _ _ _) ?_ | (refine Or.inl ?_; (conv => whnf); refine call_i (s_in _ _ _) ?_) | (refine And.intro ?_ ?_; · decide)))
  · (refine bool_leaf ?_; first | (simp_all [lineOk]; done) | (simp_all [lineOk]; omega))
  · (refine bool_leaf ?_; first | (simp_all [lineOk]; done) | (simp_all [lineOk]; omega))
  · (refine bool_leaf ?_; first | (simp_all [lineOk]; done) | (simp_all [lineOk]; omega))
  · (refine bool_leaf ?_; first | (simp_all [lineOk]; done) | (simp_all [lineOk]; omega))
  rename_i h1 h2 h3 h4
  refine loop_i (fun k : Nat => ⟨envL [(1, .c (.ptr 0 0)), (3, .c (.pv (.int .i64 k)))], resL [(0, .box (x.ps.map .pv))], 1, 81⟩) (fun k => k ≤ x.Queue.length ∧ (x.Queue.take k).all specCall = true) (fun k => x.Queue.length - k) 0 ⟨Nat.zero_le _, rfl⟩ (le_mk [] rfl ⟨⟨rfl, rfl⟩, ⟨rfl, rfl⟩, trivial⟩ ⟨⟨rfl, rfl⟩, trivial⟩ rfl) ?_
  intro k ⟨hk, hs⟩
  conv => whnf
  refine br_i (fun h => ?_) (fun h => ?_)
  · have hlt : k < x.Queue.length := by simpa using h
    conv => whnf
    refine ⟨_, idx_map x.Queue XCall.ps k hlt 9, ?_⟩
    conv => whnf
    refine call_i (s_call x.Queue[k]) ?_
    conv => whnf
    refine br_i (fun h => ?_) (fun h => ?_) <;> conv => whnf
    · refine leaf_i rfl rfl ?_
      have := all_bad hlt (p := specCall) (by simpa using h)
      unfold lineOk
      rw [this]
      simp [boolv]
    · exact ⟨k + 1, ⟨⟨hlt, all_succ hs hlt (by simpa using h)⟩, by omega⟩, le_mk [] rfl ⟨⟨rfl, rfl⟩, ⟨ctr (by simp at h3; omega), rfl⟩, trivial⟩ ⟨⟨rfl, rfl⟩, trivial⟩ rfl⟩
  · have hk : x.Queue.length ≤ k := by simpa using h
    have := all_end hs hk
    clear hs h hk
    (repeat' ((conv => whnf); first | refine br_i (fun _ => ?_) (fun _ => ?_) | (refine cur_leaf rfl rfl rfl ?_ ?_; · first | assumption | omega | exact hw ‹_›) | refine leaf_i rfl rfl ?_ | refine And.intro rfl ?_ | refine call_i (s_in _ _ _) ?_ | (refine Or.inl ?_; (conv => whnf); refine call_i (s_in _ _ _) ?_) | refine call_i (s_tick _) ?_ | (refine Or.inl ?_; (conv => whnf); refine call_i (s_tick _) ?_) | refine call_i (s_noCall x.Call) ?_ | (refine Or.inl ?_; (conv => whnf); refine call_i (s_noCall x.Call) ?_) | refine call_i (s_call x.Call) ?_ | (refine Or.inl ?_; (conv => whnf); refine call_i (s_call x.Call) ?_) | (refine And.intro ?_ ?_; · decide)))
    all_goals (refine bool_leaf ?_; first | (simp_all [lineOk, this]; done) | (simp_all [lineOk, this]; omega))
def isKind (k : Int) : Bool := inB k 1 6 || k == 15 || k == 16 || k == 22 || k == 23
abbrev Rng := Int × Int
def cnt (k : Int) : Rng × Rng × Rng :=
  if k = 1 ∨ k = 2 then ((1, 2000), (0, 0), (0, 0)) else
  if k = 3 ∨ k = 4 then ((1, 125), (0, 0), (0, 0)) else
  if k = 5 then ((0, 0), (0, 0), (1, 1)) else
  if k = 6 then ((0, 0), (1, 1), (0, 0)) else
  if k = 15 then ((0, 0), (0, 0), (1, 1968)) else
  if k = 16 then ((0, 0), (1, 123), (0, 0)) else
  if k = 22 then ((0, 0), (2, 2), (0, 0)) else ((1, 125), (1, 121), (0, 0))
def rngV (r : Rng) : VV := .agg [.int .i64 r.1, .int .i64 r.2]
def writtenF (x : XReq) : Int := if x.Kind = 22 then 1 else wrap64 (x.Words.length + x.Bits.length)
def implReq (x : XReq) : Bool :=
  if !(isKind x.Kind && inB x.N (cnt x.Kind).1.1 (cnt x.Kind).1.2 && inB x.Words.length (cnt x.Kind).2.1.1 (cnt x.Kind).2.1.2 && inB x.Bits.length (cnt x.Kind).2.2.1 (cnt x.Kind).2.2.2) then false else
  if !word x.At || !word x.WAt || !x.Words.all word || decide (wrap64 (x.At + x.N) > 65536) then false else
  if x.Kind = 23 then decide (wrap64 (x.WAt + writtenF x) ≤ 65536) else decide (x.WAt = 0) && decide (wrap64 (x.At + writtenF x) ≤ 65536)
theorem implReq_eq (x : XReq) : implReq x = specReq x := by
  rw [Bool.eq_iff_iff]
  have hw : ∀ a : Int, -9223372036854775808 ≤ a → a ≤ 9223372036854775807 → wrap64 a = a := fun a h h' => wrap_ok h h'
  unfold implReq specReq
  by_cases hk : isKind x.Kind = true
  · have : x.Kind = 1 ∨ x.Kind = 2 ∨ x.Kind = 3 ∨ x.Kind = 4 ∨ x.Kind = 5 ∨ x.Kind = 6 ∨ x.Kind = 15 ∨ x.Kind = 16 ∨ x.Kind = 22 ∨ x.Kind = 23 := by
      simp [isKind, inB] at hk; omega
    cases hall : x.Words.all word with
    | false => simp
    | true =>
    rcases this with h | h | h | h | h | h | h | h | h | h <;> (clear hk; simp only [h, isKind, cnt, inB, word, zeroB, fitsB, writtenF] at *; simp)
    all_goals (simp only [← List.length_eq_zero_iff, wrap64, wrap_def]; omega)
  · have hk : isKind x.Kind = false := by simpa using hk
    have : ¬ (x.Kind = 1 ∨ x.Kind = 2 ∨ x.Kind = 3 ∨ x.Kind = 4 ∨ x.Kind = 5 ∨ x.Kind = 6 ∨ x.Kind = 15 ∨ x.Kind = 16 ∨ x.Kind = 22 ∨ x.Kind = 23) := by
      intro h
      rcases h with h | h | h | h | h | h | h | h | h | h <;> simp [isKind, h, inB] at hk
    simp only [not_or] at this
    simp [hk, this]
theorem m_in (n lo hi : Int) : PureC Tryz.prog 47 [i64v n, i64v lo, i64v hi] [boolv (inB n lo hi)] := by
  refine pureC_of (Γ := lookT tbl) (il := ilist) tg dr Tryz.func47 rfl (by kernel_rfl) rfl (Nat.le_of_ble_eq_true rfl) ?_
  (repeat' ((conv => whnf); first | refine br_i (fun _ => ?_) (fun _ => ?_) | (refine cur_leaf rfl rfl rfl ?_ ?_; · first | assumption | omega | exact hw ‹_›) | refine leaf_i rfl rfl ?_ | refine And.intro rfl ?_ | (refine And.intro ?_ ?_; · decide)))
  all_goals (refine bool_leaf ?_; first | (simp_all [inB]; done) | (simp_all [inB]; omega))
theorem m_tick (n : Int) : PureC Tryz.prog 23 [i64v n] [boolv (inB n 0 4294967295)] := by
  refine pureC_of (Γ := lookT tbl) (il := ilist) tg dr Tryz.func23 rfl (by kernel_rfl) rfl (Nat.le_of_ble_eq_true rfl) ?_
  (repeat' ((conv => whnf); first | refine br_i (fun _ => ?_) (fun _ => ?_) | (refine cur_leaf rfl rfl rfl ?_ ?_; · first | assumption | omega | exact hw ‹_›) | refine leaf_i rfl rfl ?_ | refine And.intro rfl ?_ | refine call_i (m_in _ _ _) ?_ | (refine Or.inl ?_; (conv => whnf); refine call_i (m_in _ _ _) ?_) | (refine And.intro ?_ ?_; · decide)))
  all_goals rfl
theorem m_word (n : Int) : PureC Tryz.prog 51 [i64v n] [boolv (word n)] := by
  refine pureC_of (Γ := lookT tbl) (il := ilist) tg dr Tryz.func51 rfl (by kernel_rfl) rfl (Nat.le_of_ble_eq_true rfl) ?_
  (repeat' ((conv => whnf); first | refine br_i (fun _ => ?_) (fun _ => ?_) | (refine cur_leaf rfl rfl rfl ?_ ?_; · first | assumption | omega | exact hw ‹_›) | refine leaf_i rfl rfl ?_ | refine And.intro rfl ?_ | refine call_i (m_in _ _ _) ?_ | (refine Or.inl ?_; (conv => whnf); refine call_i (m_in _ _ _) ?_) | (refine And.intro ?_ ?_; · decide)))
  all_goals rfl
theorem m_count (n : Int) : PureC Tryz.prog 26 [i64v n] [boolv (inB n 0 1000000000)] := by
  refine pureC_of (Γ := lookT tbl) (il := ilist) tg dr Tryz.func26 rfl (by kernel_rfl) rfl (Nat.le_of_ble_eq_true rfl) ?_
  (repeat' ((conv => whnf); first | refine br_i (fun _ => ?_) (fun _ => ?_) | (refine cur_leaf rfl rfl rfl ?_ ?_; · first | assumption | omega | exact hw ‹_›) | refine leaf_i rfl rfl ?_ | refine And.intro rfl ?_ | refine call_i (m_in _ _ _) ?_ | (refine Or.inl ?_; (conv => whnf); refine call_i (m_in _ _ _) ?_) | (refine And.intro ?_ ?_; · decide)))
  all_goals rfl
theorem m_unit (n : Int) : PureC Tryz.prog 85 [i64v n] [boolv (inB n 1 247)] := by
  refine pureC_of (Γ := lookT tbl) (il := ilist) tg dr Tryz.func85 rfl (by kernel_rfl) rfl (Nat.le_of_ble_eq_true rfl) ?_
  (repeat' ((conv => whnf); first | refine br_i (fun _ => ?_) (fun _ => ?_) | (refine cur_leaf rfl rfl rfl ?_ ?_; · first | assumption | omega | exact hw ‹_›) | refine leaf_i rfl rfl ?_ | refine And.intro rfl ?_ | refine call_i (m_in _ _ _) ?_ | (refine Or.inl ?_; (conv => whnf); refine call_i (m_in _ _ _) ?_) | (refine And.intro ?_ ?_; · decide)))
  all_goals rfl
theorem m_wait (a b : Int) : PureC Tryz.prog 48 [i64v a, i64v b] [boolv (inB a 1 100 && inB b 0 5)] := by
  refine pureC_of (Γ := lookT tbl) (il := ilist) tg dr Tryz.func48 rfl (by kernel_rfl) rfl (Nat.le_of_ble_eq_true rfl) ?_
  (repeat' ((conv => whnf); first | refine br_i (fun _ => ?_) (fun _ => ?_) | (refine cur_leaf rfl rfl rfl ?_ ?_; · first | assumption | omega | exact hw ‹_›) | refine leaf_i rfl rfl ?_ | refine And.intro rfl ?_ | refine call_i (m_in _ _ _) ?_ | (refine Or.inl ?_; (conv => whnf); refine call_i (m_in _ _ _) ?_) | (refine And.intro ?_ ?_; · decide)))
  all_goals (refine bool_leaf ?_; first | (simp_all []; done) | (simp_all []; omega))
theorem m_kind (n : Int) : PureC Tryz.prog 107 [i64v n] [boolv (isKind n)] := by
  refine pureC_of (Γ := lookT tbl) (il := ilist) tg dr Tryz.func107 rfl (by kernel_rfl) rfl (Nat.le_of_ble_eq_true rfl) ?_
  (repeat' ((conv => whnf); first | refine br_i (fun _ => ?_) (fun _ => ?_) | (refine cur_leaf rfl rfl rfl ?_ ?_; · first | assumption | omega | exact hw ‹_›) | refine leaf_i rfl rfl ?_ | refine And.intro rfl ?_ | refine call_i (m_in _ _ _) ?_ | (refine Or.inl ?_; (conv => whnf); refine call_i (m_in _ _ _) ?_) | (refine And.intro ?_ ?_; · decide)))
  all_goals (refine bool_leaf ?_; first | (simp_all [isKind]; done) | (simp_all [isKind]; omega))
theorem m_counts (n : Int) : PureC Tryz.prog 106 [i64v n] [rngV (cnt n).1, rngV (cnt n).2.1, rngV (cnt n).2.2] := by
  refine pureC_of (Γ := lookT tbl) (il := ilist) tg dr Tryz.func106 rfl (by kernel_rfl) rfl (Nat.le_of_ble_eq_true rfl) ?_
  (repeat' ((conv => whnf); first | refine br_i (fun _ => ?_) (fun _ => ?_) | (refine cur_leaf rfl rfl rfl ?_ ?_; · first | assumption | omega | exact hw ‹_›) | refine leaf_i rfl rfl ?_ | refine And.intro rfl ?_ | (refine And.intro ?_ ?_; · decide)))
  all_goals simp_all [cnt, rngV]
theorem m_written (x : XReq) : PureC Tryz.prog 109 [x.v] [i64v (writtenF x)] := by
  refine pureC_of (Γ := lookT tbl) (il := ilist) tg dr Tryz.func109 rfl (by kernel_rfl) rfl (Nat.le_of_ble_eq_true rfl) ?_
  (repeat' ((conv => whnf); first | refine br_i (fun _ => ?_) (fun _ => ?_) | (refine cur_leaf rfl rfl rfl ?_ ?_; · first | assumption | omega | exact hw ‹_›) | refine leaf_i rfl rfl ?_ | refine And.intro rfl ?_ | (refine And.intro ?_ ?_; · decide)))
  all_goals simp_all [writtenF, i64v]
theorem m_all1 (n : Int) : PureC Tryz.prog 126 [i64v n] [boolv (!word n)] := by
  refine pureC_of (Γ := lookT tbl) (il := ilist) tg dr Tryz.func126 rfl (by kernel_rfl) rfl (Nat.le_of_ble_eq_true rfl) ?_
  (repeat' ((conv => whnf); first | refine br_i (fun _ => ?_) (fun _ => ?_) | (refine cur_leaf rfl rfl rfl ?_ ?_; · first | assumption | omega | exact hw ‹_›) | refine leaf_i rfl rfl ?_ | refine And.intro rfl ?_ | refine call_i (m_word _) ?_ | (refine Or.inl ?_; (conv => whnf); refine call_i (m_word _) ?_) | (refine And.intro ?_ ?_; · decide)))
  all_goals rfl
theorem m_index (l : List Int) : PureC Tryz.prog 132 [intsV l, .one (.fn 126)] [i64v (firstBad word l)] := by
  refine pureC_fit ⟨_, Tryz.func132, by kernel_rfl, rfl⟩ fun hf => ?_
  have hl : l.length ≤ 9223372036854775807 := fits_len (hf (intsV l) (by simp))
  refine pureC_of (Γ := lookT tbl) (il := ilist) tg dr Tryz.func132 rfl (by kernel_rfl) rfl (Nat.le_of_ble_eq_true rfl) ?_
  conv => whnf
  refine loop_i (fun k : Nat => ⟨envL [(0, .c (.pv (intsP l))), (1, .c (.pv (.fn 126))), (7, .c (.pv (.int .i64 l.length))), (8, .c (.pv (.int .i64 k)))], resL [], 0, 19⟩) (fun k => k ≤ l.length ∧ (l.take k).all word = true) (fun k => l.length - k) 0 ⟨Nat.zero_le _, rfl⟩ (le_mk [] rfl ⟨⟨rfl, rfl⟩, ⟨rfl, rfl⟩, ⟨i64_eq (by simp), rfl⟩, ⟨rfl, rfl⟩, trivial⟩ trivial rfl) ?_
  intro k ⟨hk, hs⟩
  conv => whnf
  refine br_i (fun h => ?_) (fun h => ?_)
  · have hlt : k < l.length := by simpa using h
    conv => whnf
    refine ⟨_, idx_map l intEl k hlt 1, ?_⟩
    conv => whnf
    refine call_i (m_all1 l[k]) ?_
    conv => whnf
    refine br_i (fun h => ?_) (fun h => ?_) <;> conv => whnf
    · refine leaf_i rfl rfl ?_
      rw [firstBad_at hs hlt (by simpa using h)]
      rfl
    · exact ⟨k + 1, ⟨⟨hlt, all_succ hs hlt (by simpa using h)⟩, by omega⟩, le_mk [] rfl ⟨⟨rfl, rfl⟩, ⟨rfl, rfl⟩, ⟨rfl, rfl⟩, ⟨ctr (by omega), rfl⟩, trivial⟩ trivial rfl⟩
  · have hk : l.length ≤ k := by simpa using h
    conv => whnf
    refine leaf_i rfl rfl ?_
    rw [firstBad_none (all_end hs hk)]
    rfl
theorem m_contains (l : List Int) : PureC Tryz.prog 125 [intsV l, .one (.fn 126)] [boolv (!l.all word)] := by
  refine pureC_of (Γ := lookT tbl) (il := ilist) tg dr Tryz.func125 rfl (by kernel_rfl) rfl (Nat.le_of_ble_eq_true rfl) ?_
  (repeat' ((conv => whnf); first | refine br_i (fun _ => ?_) (fun _ => ?_) | (refine cur_leaf rfl rfl rfl ?_ ?_; · first | assumption | omega | exact hw ‹_›) | refine leaf_i rfl rfl ?_ | refine And.intro rfl ?_ | refine call_i (m_index l) ?_ | (refine Or.inl ?_; (conv => whnf); refine call_i (m_index l) ?_) | (refine And.intro ?_ ?_; · decide)))
  all_goals (rw [← firstBad_ge]; rfl)
theorem m_words (l : List Int) : PureC Tryz.prog 108 [intsV l] [boolv (l.all word)] := by
  refine pureC_of (Γ := lookT tbl) (il := ilist) tg dr Tryz.func108 rfl (by kernel_rfl) rfl (Nat.le_of_ble_eq_true rfl) ?_
  (repeat' ((conv => whnf); first | refine br_i (fun _ => ?_) (fun _ => ?_) | (refine cur_leaf rfl rfl rfl ?_ ?_; · first | assumption | omega | exact hw ‹_›) | refine leaf_i rfl rfl ?_ | refine And.intro rfl ?_ | refine call_i (m_contains l) ?_ | (refine Or.inl ?_; (conv => whnf); refine call_i (m_contains l) ?_) | (refine And.intro ?_ ?_; · decide)))
  all_goals simp [boolv]
theorem m_eqI (l m : List Int) : PureC Tryz.prog 86 [intsV l, intsV m] [boolv (decide (l = m))] := by
  refine pureC_fit ⟨_, Tryz.func86, by kernel_rfl, rfl⟩ fun hf => ?_
  have hl : l.length ≤ 9223372036854775807 := fits_len (hf (intsV l) (by simp))
  refine pureC_of (Γ := lookT tbl) (il := ilist) tg dr Tryz.func86 rfl (by kernel_rfl) rfl (Nat.le_of_ble_eq_true rfl) ?_
  conv => whnf
  refine br_i (fun h => ?_) (fun h => ?_) <;> conv => whnf
  · refine leaf_i rfl rfl ?_
    have : l ≠ m := fun e => by subst e; simp at h
    simp [boolv, this]
  have hlen : l.length = m.length := by simp at h; omega
  refine loop_i (fun k : Nat => ⟨envL [(0, .c (.pv (intsP l))), (1, .c (.pv (intsP m))), (12, .c (.pv (.int .i64 l.length))), (13, .c (.pv (.int .i64 k)))], resL [], 0, 26⟩) (fun k => k ≤ l.length ∧ l.take k = m.take k) (fun k => l.length - k) 0 ⟨Nat.zero_le _, rfl⟩ (le_mk [] rfl ⟨⟨rfl, rfl⟩, ⟨rfl, rfl⟩, ⟨i64_eq (by simp), rfl⟩, ⟨rfl, rfl⟩, trivial⟩ trivial rfl) ?_
  intro k ⟨hk, hs⟩
  conv => whnf
  refine br_i (fun h => ?_) (fun h => ?_)
  · have hlt : k < l.length := by simpa using h
    have hlt2 : k < m.length := by omega
    conv => whnf
    refine ⟨_, idx_map l intEl k hlt 1, ?_⟩
    conv => whnf
    refine ⟨_, idx_map m intEl k hlt2 1, ?_⟩
    conv => whnf
    refine And.intro (by decide) ?_
    conv => whnf
    refine br_i (fun h => ?_) (fun h => ?_) <;> conv => whnf
    · refine leaf_i rfl rfl ?_
      have : l ≠ m := ne_of_get hlt hlt2 (by simpa using h)
      simp [boolv, this]
    · exact ⟨k + 1, ⟨⟨hlt, take_eq_succ hs hlt hlt2 (by simpa using h)⟩, by omega⟩, le_mk [] rfl ⟨⟨rfl, rfl⟩, ⟨rfl, rfl⟩, ⟨rfl, rfl⟩, ⟨ctr (by omega), rfl⟩, trivial⟩ trivial rfl⟩
  · have hk : l.length ≤ k := by simpa using h
    conv => whnf
    refine leaf_i rfl rfl ?_
    have : l = m := take_eq_all hs hk hlen.symm
    simp [boolv, this]
theorem m_eqB (l m : List Bool) : PureC Tryz.prog 87 [boolsV l, boolsV m] [boolv (decide (l = m))] := by
  refine pureC_fit ⟨_, Tryz.func87, by kernel_rfl, rfl⟩ fun hf => ?_
  have hl : l.length ≤ 9223372036854775807 := fits_len (hf (boolsV l) (by simp))
  refine pureC_of (Γ := lookT tbl) (il := ilist) tg dr Tryz.func87 rfl (by kernel_rfl) rfl (Nat.le_of_ble_eq_true rfl) ?_
  conv => whnf
  refine br_i (fun h => ?_) (fun h => ?_) <;> conv => whnf
  · refine leaf_i rfl rfl ?_
    have : l ≠ m := fun e => by subst e; simp at h
    simp [boolv, this]
  have hlen : l.length = m.length := by simp at h; omega
  refine loop_i (fun k : Nat => ⟨envL [(0, .c (.pv (boolsP l))), (1, .c (.pv (boolsP m))), (12, .c (.pv (.int .i64 l.length))), (13, .c (.pv (.int .i64 k)))], resL [], 0, 26⟩) (fun k => k ≤ l.length ∧ l.take k = m.take k) (fun k => l.length - k) 0 ⟨Nat.zero_le _, rfl⟩ (le_mk [] rfl ⟨⟨rfl, rfl⟩, ⟨rfl, rfl⟩, ⟨i64_eq (by simp), rfl⟩, ⟨rfl, rfl⟩, trivial⟩ trivial rfl) ?_
  intro k ⟨hk, hs⟩
  conv => whnf
  refine br_i (fun h => ?_) (fun h => ?_)
  · have hlt : k < l.length := by simpa using h
    have hlt2 : k < m.length := by omega
    conv => whnf
    refine ⟨_, idx_map l boolEl k hlt 1, ?_⟩
    conv => whnf
    refine ⟨_, idx_map m boolEl k hlt2 1, ?_⟩
    conv => whnf
    refine And.intro (by decide) ?_
    conv => whnf
    refine br_i (fun h => ?_) (fun h => ?_) <;> conv => whnf
    · refine leaf_i rfl rfl ?_
      have : l ≠ m := ne_of_get hlt hlt2 (by simpa using h)
      simp [boolv, this]
    · exact ⟨k + 1, ⟨⟨hlt, take_eq_succ hs hlt hlt2 (by simpa using h)⟩, by omega⟩, le_mk [] rfl ⟨⟨rfl, rfl⟩, ⟨rfl, rfl⟩, ⟨rfl, rfl⟩, ⟨ctr (by omega), rfl⟩, trivial⟩ trivial rfl⟩
  · have hk : l.length ≤ k := by simpa using h
    conv => whnf
    refine leaf_i rfl rfl ?_
    have : l = m := take_eq_all hs hk hlen.symm
    simp [boolv, this]
theorem m_same (x y : XReq) : PureC Tryz.prog 57 [x.v, y.v] [boolv (decide (x = y))] := by
  refine pureC_of (Γ := lookT tbl) (il := ilist) tg dr Tryz.func57 rfl (by kernel_rfl) rfl (Nat.le_of_ble_eq_true rfl) ?_
  (repeat' ((conv => whnf); first | refine br_i (fun _ => ?_) (fun _ => ?_) | (refine cur_leaf rfl rfl rfl ?_ ?_; · first | assumption | omega | exact hw ‹_›) | refine leaf_i rfl rfl ?_ | refine And.intro rfl ?_ | refine call_i (m_eqI x.Words y.Words) ?_ | (refine Or.inl ?_; (conv => whnf); refine call_i (m_eqI x.Words y.Words) ?_) | refine call_i (m_eqB x.Bits y.Bits) ?_ | (refine Or.inl ?_; (conv => whnf); refine call_i (m_eqB x.Bits y.Bits) ?_) | (refine And.intro ?_ ?_; · decide)))
  all_goals (cases x; cases y; (refine bool_leaf ?_; first | (simp_all []; done) | (simp_all []; omega)))
theorem m_ReqOk (x : XReq) : PureC Tryz.prog 80 [x.v] [boolv (implReq x)] := by
  refine pureC_of (Γ := lookT tbl) (il := ilist) tg dr Tryz.func80 rfl (by kernel_rfl) rfl (Nat.le_of_ble_eq_true rfl) ?_
  (repeat' ((conv => whnf); first | refine br_i (fun _ => ?_) (fun _ => ?_) | (refine cur_leaf rfl rfl rfl ?_ ?_; · first | assumption | omega | exact hw ‹_›) | refine leaf_i rfl rfl ?_ | refine And.intro rfl ?_ | refine call_i (m_counts _) ?_ | (refine Or.inl ?_; (conv => whnf); refine call_i (m_counts _) ?_) | refine call_i (m_kind _) ?_ | (refine Or.inl ?_; (conv => whnf); refine call_i (m_kind _) ?_) | refine call_i (m_in _ _ _) ?_ | (refine Or.inl ?_; (conv => whnf); refine call_i (m_in _ _ _) ?_) | refine call_i (m_word _) ?_ | (refine Or.inl ?_; (conv => whnf); refine call_i (m_word _) ?_) | refine call_i (m_words x.Words) ?_ | (refine Or.inl ?_; (conv => whnf); refine call_i (m_words x.Words) ?_) | refine call_i (m_written x) ?_ | (refine Or.inl ?_; (conv => whnf); refine call_i (m_written x) ?_) | (refine And.intro ?_ ?_; · decide)))
  all_goals (refine bool_leaf ?_; first | (simp_all [implReq]; done) | (simp_all [implReq]; omega))
theorem m_call (x : XCall) : PureC Tryz.prog 52 [x.v] [boolv (specCall x)] := by
  refine pureC_of (Γ := lookT tbl) (il := ilist) tg dr Tryz.func52 rfl (by kernel_rfl) rfl (Nat.le_of_ble_eq_true rfl) ?_
  (repeat' ((conv => whnf); first | refine br_i (fun _ => ?_) (fun _ => ?_) | (refine cur_leaf rfl rfl rfl ?_ ?_; · first | assumption | omega | exact hw ‹_›) | refine leaf_i rfl rfl ?_ | refine And.intro rfl ?_ | refine call_i (m_in _ _ _) ?_ | (refine Or.inl ?_; (conv => whnf); refine call_i (m_in _ _ _) ?_) | refine call_i (m_count _) ?_ | (refine Or.inl ?_; (conv => whnf); refine call_i (m_count _) ?_) | refine call_i (m_unit _) ?_ | (refine Or.inl ?_; (conv => whnf); refine call_i (m_unit _) ?_) | refine call_i (m_ReqOk x.Req) ?_ | (refine Or.inl ?_; (conv => whnf); refine call_i (m_ReqOk x.Req) ?_) | (refine And.intro ?_ ?_; · decide)))
  all_goals (refine bool_leaf ?_; first | (simp_all [specCall, implReq_eq]; done) | (simp_all [specCall, implReq_eq]; omega))
theorem m_noCall (x : XCall) : PureC Tryz.prog 53 [x.v] [boolv (noCall x)] := by
  refine pureC_of (Γ := lookT tbl) (il := ilist) tg dr Tryz.func53 rfl (by kernel_rfl) rfl (Nat.le_of_ble_eq_true rfl) ?_
  (repeat' ((conv => whnf); first | refine br_i (fun _ => ?_) (fun _ => ?_) | (refine cur_leaf rfl rfl rfl ?_ ?_; · first | assumption | omega | exact hw ‹_›) | refine leaf_i rfl rfl ?_ | refine And.intro rfl ?_ | refine call_i (m_same x.Req XReq.zero) ?_ | (refine Or.inl ?_; (conv => whnf); refine call_i (m_same x.Req XReq.zero) ?_) | (refine And.intro ?_ ?_; · decide)))
  all_goals (cases x; (refine bool_leaf ?_; first | (simp_all [noCall, XCall.zero]; done) | (simp_all [noCall, XCall.zero]; omega)))
theorem m_LineOk (x : XLine) : PureC Tryz.prog 27 [x.v] [boolv (lineOk x)] := by
  refine pureC_of (Γ := lookT tbl) (il := ilist) tg dr Tryz.func27 rfl (by kernel_rfl) rfl (Nat.le_of_ble_eq_true rfl) ?_
  (repeat' ((conv => whnf); first | refine br_i (fun _ => ?_) (fun _ => ?_) | (refine cur_leaf rfl rfl rfl ?_ ?_; · first | assumption | omega | exact hw ‹_›) | refine leaf_i rfl rfl ?_ | refine And.intro rfl ?_ | refine call_i (m_wait _ _) ?_ | (refine Or.inl ?_; (conv => whnf); refine call_i (m_wait _ _) ?_) | refine call_i (m_word _) ?_ | (refine Or.inl ?_; (conv => whnf); refine call_i (m_word _) ?_) | (refine And.intro ?_ ?_; · decide)))
  · cases h1 : inB x.Wait 1 100 <;> (refine bool_leaf ?_; first | (simp_all [lineOk, word]; done) | (simp_all [lineOk, word]; omega))
  · (refine bool_leaf ?_; first | (simp_all [lineOk, word]; done) | (simp_all [lineOk, word]; omega))
  · (refine bool_leaf ?_; first | (simp_all [lineOk, word]; done) | (simp_all [lineOk, word]; omega))
  rename_i h1 h2 h3
  have hl : x.Queue.length ≤ 40 := by simp at h2; omega
  conv => whnf
  refine loop_i (fun k : Nat => ⟨envL [(1, .c (.ptr 0 0)), (24, .c (.pv (XCall.sP x.Queue))), (25, .c (.pv (.int .i64 x.Queue.length))), (26, .c (.pv (.int .i64 k)))], resL [(0, .box (x.ps.map .pv))], 1, 75⟩) (fun k => k ≤ x.Queue.length ∧ (x.Queue.take k).all specCall = true) (fun k => x.Queue.length - k) 0 ⟨Nat.zero_le _, rfl⟩ (le_mk [] rfl ⟨⟨rfl, rfl⟩, ⟨rfl, rfl⟩, ⟨i64_eq (by simp), rfl⟩, ⟨rfl, rfl⟩, trivial⟩ ⟨⟨rfl, rfl⟩, trivial⟩ rfl) ?_
  intro k ⟨hk, hs⟩
  conv => whnf
  refine br_i (fun h => ?_) (fun h => ?_)
  · have hlt : k < x.Queue.length := by simpa using h
    conv => whnf
    refine ⟨_, idx_map x.Queue XCall.ps k hlt 9, ?_⟩
    conv => whnf
    refine call_i (m_call x.Queue[k]) ?_
    conv => whnf
    refine br_i (fun h => ?_) (fun h => ?_) <;> conv => whnf
    · refine leaf_i rfl rfl ?_
      have := all_bad hlt (p := specCall) (by simpa using h)
      unfold lineOk
      rw [this]
      simp [boolv]
    · exact ⟨k + 1, ⟨⟨hlt, all_succ hs hlt (by simpa using h)⟩, by omega⟩, le_mk [] rfl ⟨⟨rfl, rfl⟩, ⟨rfl, rfl⟩, ⟨rfl, rfl⟩, ⟨ctr (by omega), rfl⟩, trivial⟩ ⟨⟨rfl, rfl⟩, trivial⟩ rfl⟩
  · have hk : x.Queue.length ≤ k := by simpa using h
    have := all_end hs hk
    clear hs h hk
    (repeat' ((conv => whnf); first | refine br_i (fun _ => ?_) (fun _ => ?_) | (refine cur_leaf rfl rfl rfl ?_ ?_; · first | assumption | omega | exact hw ‹_›) | refine leaf_i rfl rfl ?_ | refine And.intro rfl ?_ | refine call_i (m_in _ _ _) ?_ | (refine Or.inl ?_; (conv => whnf); refine call_i (m_in _ _ _) ?_) | refine call_i (m_tick _) ?_ | (refine Or.inl ?_; (conv => whnf); refine call_i (m_tick _) ?_) | refine call_i (m_word _) ?_ | (refine Or.inl ?_; (conv => whnf); refine call_i (m_word _) ?_) | refine call_i (m_noCall x.Call) ?_ | (refine Or.inl ?_; (conv => whnf); refine call_i (m_noCall x.Call) ?_) | refine call_i (m_call x.Call) ?_ | (refine Or.inl ?_; (conv => whnf); refine call_i (m_call x.Call) ?_) | (refine And.intro ?_ ?_; · decide)))
    all_goals (refine bool_leaf ?_; first | (simp_all [lineOk, this, word]; done) | (simp_all [lineOk, this, word]; omega))
end Go.Proofs.YtknlfechpcimkaaGreat
