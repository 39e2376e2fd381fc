/- The laws' helpers: measure, copy, compare. -/
import Derived.Test.YtnpcgheojijpjaaXMod
namespace Go.Proofs.Ytnpcgheojijpjaa
open Go Go.Vi
set_option linter.unusedVariables false
set_option linter.unusedSimpArgs false
set_option maxRecDepth 100000
theorem eqSameI (l m : List Int) : PureC Try.prog 37 [intsV l, intsV m] [boolv (decide (l = m))] := by
  refine pureC_fit ⟨_, Try.func37, by kernel_rfl, rfl⟩ fun hf => ?_
  have hl : l.length ≤ 9223372036854775807 := fits_len (hf (intsV l) (by simp))
  refine pureC_of (Γ := lookT tbl) (il := ilist) tg dr Try.func37 rfl (by kernel_rfl) rfl (Nat.le_of_ble_eq_true rfl) ?_
  conv => whnf
  refine br_i (fun h => ?_) (fun h => ?_) <;> conv => whnf
  · refine leaf_i rfl rfl ?_
    have : l ≠ m := fun e => by subst e; simp at h
    simp [boolv, this]
  have hlen : l.length = m.length := by simp at h; omega
  refine loop_i (fun k : Nat => ⟨envL [(0, .c (.pv (intsP l))), (1, .c (.pv (intsP m))), (5, .c (.pv (.int .i64 k)))], resL [], 0, 26⟩) (fun k => k ≤ l.length ∧ l.take k = m.take k) (fun k => l.length - k) 0 ⟨Nat.zero_le _, rfl⟩ (le_mk [] rfl ⟨⟨rfl, rfl⟩, ⟨rfl, rfl⟩, ⟨rfl, rfl⟩, trivial⟩ trivial rfl) ?_
  intro k ⟨hk, hs⟩
  conv => whnf
  refine br_i (fun h => ?_) (fun h => ?_)
  · have hlt : k < l.length := by simpa using h
    have hlt2 : k < m.length := by omega
    conv => whnf
    refine ⟨_, idx_map l intEl k hlt 1, ?_⟩
    conv => whnf
    refine ⟨_, idx_map m intEl k hlt2 1, ?_⟩
    conv => whnf
    try refine And.intro rfl ?_
    conv => whnf
    refine br_i (fun h => ?_) (fun h => ?_) <;> conv => whnf
    · refine leaf_i rfl rfl ?_
      have : l ≠ m := ne_of_get hlt hlt2 (by simpa using h)
      simp [boolv, this]
    · exact ⟨k + 1, ⟨⟨hlt, take_eq_succ hs hlt hlt2 (by simpa using h)⟩, by omega⟩, le_mk [] rfl ⟨⟨rfl, rfl⟩, ⟨rfl, rfl⟩, ⟨ctr (by omega), rfl⟩, trivial⟩ trivial rfl⟩
  · have hk : l.length ≤ k := by simpa using h
    conv => whnf
    refine leaf_i rfl rfl ?_
    have : l = m := take_eq_all hs hk hlen.symm
    simp [boolv, this]
theorem eqSameO (l m : List Bool) : PureC Try.prog 38 [boolsV l, boolsV m] [boolv (decide (l = m))] := by
  refine pureC_fit ⟨_, Try.func38, by kernel_rfl, rfl⟩ fun hf => ?_
  have hl : l.length ≤ 9223372036854775807 := fits_len (hf (boolsV l) (by simp))
  refine pureC_of (Γ := lookT tbl) (il := ilist) tg dr Try.func38 rfl (by kernel_rfl) rfl (Nat.le_of_ble_eq_true rfl) ?_
  conv => whnf
  refine br_i (fun h => ?_) (fun h => ?_) <;> conv => whnf
  · refine leaf_i rfl rfl ?_
    have : l ≠ m := fun e => by subst e; simp at h
    simp [boolv, this]
  have hlen : l.length = m.length := by simp at h; omega
  refine loop_i (fun k : Nat => ⟨envL [(0, .c (.pv (boolsP l))), (1, .c (.pv (boolsP m))), (5, .c (.pv (.int .i64 k)))], resL [], 0, 26⟩) (fun k => k ≤ l.length ∧ l.take k = m.take k) (fun k => l.length - k) 0 ⟨Nat.zero_le _, rfl⟩ (le_mk [] rfl ⟨⟨rfl, rfl⟩, ⟨rfl, rfl⟩, ⟨rfl, rfl⟩, trivial⟩ trivial rfl) ?_
  intro k ⟨hk, hs⟩
  conv => whnf
  refine br_i (fun h => ?_) (fun h => ?_)
  · have hlt : k < l.length := by simpa using h
    have hlt2 : k < m.length := by omega
    conv => whnf
    refine ⟨_, idx_map l boolEl k hlt 1, ?_⟩
    conv => whnf
    refine ⟨_, idx_map m boolEl k hlt2 1, ?_⟩
    conv => whnf
    try refine And.intro rfl ?_
    conv => whnf
    refine br_i (fun h => ?_) (fun h => ?_) <;> conv => whnf
    · refine leaf_i rfl rfl ?_
      have : l ≠ m := ne_of_get hlt hlt2 (by simpa using h)
      simp [boolv, this]
    · exact ⟨k + 1, ⟨⟨hlt, take_eq_succ hs hlt hlt2 (by simpa using h)⟩, by omega⟩, le_mk [] rfl ⟨⟨rfl, rfl⟩, ⟨rfl, rfl⟩, ⟨ctr (by omega), rfl⟩, trivial⟩ trivial rfl⟩
  · have hk : l.length ≤ k := by simpa using h
    conv => whnf
    refine leaf_i rfl rfl ?_
    have : l = m := take_eq_all hs hk hlen.symm
    simp [boolv, this]
end Go.Proofs.Ytnpcgheojijpjaa
