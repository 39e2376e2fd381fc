/- Line: what 'ok' means, and both packages' functions. -/
import Derived.Test.YtfpcgomngnfdeaaXMark
namespace Go.Proofs.Ytfpcgomngnfdeaa
open Go Go.Vi
set_option linter.unusedVariables false
set_option linter.unusedSimpArgs false
set_option maxRecDepth 100000
def inB (n lo hi : Int) : Bool := decide (n ≥ lo) && decide (n ≤ hi)
def word (n : Int) : Bool := inB n 0 65535
abbrev wrap64 (n : Int) : Int := IntKind.i64.wrap n
def fitsB (a n : Int) : Bool := inB a 0 65535 && decide (wrap64 (a + n) ≤ 65536)
def zeroB (x : XReq) (a b c d : Bool) : Bool := (a || decide (x.N = 0)) && (b || decide ((x.Words.length : Int) = 0)) && (c || decide ((x.Bits.length : Int) = 0)) && (d || decide (x.WAt = 0))
def specReq (x : XReq) : Bool :=
  if !x.Words.all word || !inB x.At 0 65535 then false else
  if x.Kind = 1 ∨ x.Kind = 2 then zeroB x true false false false && inB x.N 1 2000 && fitsB x.At x.N else
  if x.Kind = 3 ∨ x.Kind = 4 then zeroB x true false false false && inB x.N 1 125 && fitsB x.At x.N else
  if x.Kind = 5 then zeroB x false false true false && decide ((x.Bits.length : Int) = 1) else
  if x.Kind = 6 then zeroB x false true false false && decide ((x.Words.length : Int) = 1) else
  if x.Kind = 15 then zeroB x false false true false && inB x.Bits.length 1 1968 && fitsB x.At x.Bits.length else
  if x.Kind = 16 then zeroB x false true false false && inB x.Words.length 1 123 && fitsB x.At x.Words.length else
  if x.Kind = 22 then zeroB x false true false false && decide ((x.Words.length : Int) = 2) else
  if x.Kind = 23 then zeroB x true true false true && inB x.N 1 125 && fitsB x.At x.N && inB x.Words.length 1 121 && fitsB x.WAt x.Words.length else false
def specCall (x : XCall) : Bool := inB x.Id 0 1000000000 && inB x.Part 0 7 && inB x.Unit 1 247 && specReq x.Req
def noReq (x : XReq) : Bool := decide (x = XReq.zero)
def noCall (x : XCall) : Bool := decide (x = XCall.zero)
def lineOk (x : XLine) : Bool :=
  inB x.Wait 1 100 && inB x.Tries 0 5 && decide ((x.Queue.length : Int) ≤ 40) && inB x.Next 0 65535 && x.Queue.all specCall &&
  (if x.Busy then specCall x.Call && inB x.Number 0 65535 && inB x.Due 0 4294967295 && inB x.Left 0 x.Tries else noCall x.Call && decide (x.Number = 0) && decide (x.Due = 0) && decide (x.Left = 0))
theorem s_in (n lo hi : Int) : PureC Try.prog 29 [i64v n, i64v lo, i64v hi] [boolv (inB n lo hi)] := by
  refine pureC_of (Γ := lookT tbl) (il := ilist) tg dr Try.func29 rfl (by kernel_rfl) rfl (Nat.le_of_ble_eq_true rfl) ?_
  (repeat' ((conv => whnf); first | refine br_i (fun _ => ?_) (fun _ => ?_) | (refine cur_leaf rfl rfl rfl ?_ ?_; · first | assumption | omega | exact hw ‹_›) | refine leaf_i rfl rfl ?_ | refine And.intro rfl ?_ | (refine And.intro ?_ ?_; · decide)))
  all_goals (refine bool_leaf ?_; first | (simp_all [inB]; done) | (simp_all [inB]; omega))
def isKind (k : Int) : Bool := inB k 1 6 || k == 15 || k == 16 || k == 22 || k == 23
abbrev Rng := Int × Int
def cnt (k : Int) : Rng × Rng × Rng :=
  if k = 1 ∨ k = 2 then ((1, 2000), (0, 0), (0, 0)) else
  if k = 3 ∨ k = 4 then ((1, 125), (0, 0), (0, 0)) else
  if k = 5 then ((0, 0), (0, 0), (1, 1)) else
  if k = 6 then ((0, 0), (1, 1), (0, 0)) else
  if k = 15 then ((0, 0), (0, 0), (1, 1968)) else
  if k = 16 then ((0, 0), (1, 123), (0, 0)) else
  if k = 22 then ((0, 0), (2, 2), (0, 0)) else ((1, 125), (1, 121), (0, 0))
def rngV (r : Rng) : VV := .agg [.int .i64 r.1, .int .i64 r.2]
def writtenF (x : XReq) : Int := if x.Kind = 22 then 1 else wrap64 (x.Words.length + x.Bits.length)
def implReq (x : XReq) : Bool :=
  if !(isKind x.Kind && inB x.N (cnt x.Kind).1.1 (cnt x.Kind).1.2 && inB x.Words.length (cnt x.Kind).2.1.1 (cnt x.Kind).2.1.2 && inB x.Bits.length (cnt x.Kind).2.2.1 (cnt x.Kind).2.2.2) then false else
  if !word x.At || !word x.WAt || !x.Words.all word || decide (wrap64 (x.At + x.N) > 65536) then false else
  if x.Kind = 23 then decide (wrap64 (x.WAt + writtenF x) ≤ 65536) else decide (x.WAt = 0) && decide (wrap64 (x.At + writtenF x) ≤ 65536)
theorem implReq_eq (x : XReq) : implReq x = specReq x := by
  rw [Bool.eq_iff_iff]
  have hw : ∀ a : Int, -9223372036854775808 ≤ a → a ≤ 9223372036854775807 → wrap64 a = a := fun a h h' => wrap_ok h h'
  unfold implReq specReq
  by_cases hk : isKind x.Kind = true
  · have : x.Kind = 1 ∨ x.Kind = 2 ∨ x.Kind = 3 ∨ x.Kind = 4 ∨ x.Kind = 5 ∨ x.Kind = 6 ∨ x.Kind = 15 ∨ x.Kind = 16 ∨ x.Kind = 22 ∨ x.Kind = 23 := by
      simp [isKind, inB] at hk; omega
    cases hall : x.Words.all word with
    | false => simp
    | true =>
    rcases this with h | h | h | h | h | h | h | h | h | h <;> (clear hk; simp only [h, isKind, cnt, inB, word, zeroB, fitsB, writtenF] at *; simp)
    all_goals (simp only [← List.length_eq_zero_iff, wrap64, wrap_def]; omega)
  · have hk : isKind x.Kind = false := by simpa using hk
    have : ¬ (x.Kind = 1 ∨ x.Kind = 2 ∨ x.Kind = 3 ∨ x.Kind = 4 ∨ x.Kind = 5 ∨ x.Kind = 6 ∨ x.Kind = 15 ∨ x.Kind = 16 ∨ x.Kind = 22 ∨ x.Kind = 23) := by
      intro h
      rcases h with h | h | h | h | h | h | h | h | h | h <;> simp [isKind, h, inB] at hk
    simp only [not_or] at this
    simp [hk, this]
theorem m_in (n lo hi : Int) : PureC Try.prog 48 [i64v n, i64v lo, i64v hi] [boolv (inB n lo hi)] := by
  refine pureC_of (Γ := lookT tbl) (il := ilist) tg dr Try.func48 rfl (by kernel_rfl) rfl (Nat.le_of_ble_eq_true rfl) ?_
  (repeat' ((conv => whnf); first | refine br_i (fun _ => ?_) (fun _ => ?_) | (refine cur_leaf rfl rfl rfl ?_ ?_; · first | assumption | omega | exact hw ‹_›) | refine leaf_i rfl rfl ?_ | refine And.intro rfl ?_ | (refine And.intro ?_ ?_; · decide)))
  all_goals (refine bool_leaf ?_; first | (simp_all [inB]; done) | (simp_all [inB]; omega))
theorem m_word (n : Int) : PureC Try.prog 60 [i64v n] [boolv (word n)] := by
  refine pureC_of (Γ := lookT tbl) (il := ilist) tg dr Try.func60 rfl (by kernel_rfl) rfl (Nat.le_of_ble_eq_true rfl) ?_
  (repeat' ((conv => whnf); first | refine br_i (fun _ => ?_) (fun _ => ?_) | (refine cur_leaf rfl rfl rfl ?_ ?_; · first | assumption | omega | exact hw ‹_›) | refine leaf_i rfl rfl ?_ | refine And.intro rfl ?_ | refine call_i (m_in _ _ _) ?_ | (refine Or.inl ?_; (conv => whnf); refine call_i (m_in _ _ _) ?_) | (refine And.intro ?_ ?_; · decide)))
  all_goals rfl
theorem m_unit (n : Int) : PureC Try.prog 59 [i64v n] [boolv (inB n 1 247)] := by
  refine pureC_of (Γ := lookT tbl) (il := ilist) tg dr Try.func59 rfl (by kernel_rfl) rfl (Nat.le_of_ble_eq_true rfl) ?_
  (repeat' ((conv => whnf); first | refine br_i (fun _ => ?_) (fun _ => ?_) | (refine cur_leaf rfl rfl rfl ?_ ?_; · first | assumption | omega | exact hw ‹_›) | refine leaf_i rfl rfl ?_ | refine And.intro rfl ?_ | refine call_i (m_in _ _ _) ?_ | (refine Or.inl ?_; (conv => whnf); refine call_i (m_in _ _ _) ?_) | (refine And.intro ?_ ?_; · decide)))
  all_goals rfl
theorem m_wait (a b : Int) : PureC Try.prog 32 [i64v a, i64v b] [boolv (inB a 1 100 && inB b 0 5)] := by
  refine pureC_of (Γ := lookT tbl) (il := ilist) tg dr Try.func32 rfl (by kernel_rfl) rfl (Nat.le_of_ble_eq_true rfl) ?_
  (repeat' ((conv => whnf); first | refine br_i (fun _ => ?_) (fun _ => ?_) | (refine cur_leaf rfl rfl rfl ?_ ?_; · first | assumption | omega | exact hw ‹_›) | refine leaf_i rfl rfl ?_ | refine And.intro rfl ?_ | refine call_i (m_in _ _ _) ?_ | (refine Or.inl ?_; (conv => whnf); refine call_i (m_in _ _ _) ?_) | (refine And.intro ?_ ?_; · decide)))
  all_goals (refine bool_leaf ?_; first | (simp_all []; done) | (simp_all []; omega))
end Go.Proofs.Ytfpcgomngnfdeaa
