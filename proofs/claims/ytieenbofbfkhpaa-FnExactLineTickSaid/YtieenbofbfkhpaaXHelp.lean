/- The laws' helpers: measure, copy, compare. -/
import Derived.Test.YtieenbofbfkhpaaXMod
namespace Go.Proofs.Ytieenbofbfkhpaa
open Go Go.Vi
set_option linter.unusedVariables false
set_option linter.unusedSimpArgs false
set_option maxRecDepth 100000
theorem szIntS (l : List Int) (n : Int) (h0 : 0 ≤ n) (h1 : n ≤ 1048576) : PureC Try.prog 49 [intsV l, i64v n] [i64v (sub n (l.length))] := by
  refine pureC_fit ⟨_, Try.func49, by kernel_rfl, rfl⟩ fun hf => ?_
  have hl : l.length ≤ 9223372036854775807 := fits_len (hf (intsV l) (by simp))
  refine pureC_of (Γ := lookT tbl) (il := ilist) tg dr Try.func49 rfl (by kernel_rfl) rfl (Nat.le_of_ble_eq_true rfl) ?_
  have hw : IntKind.i64.wrap (n - (l.map intEl).length) = n - l.length := by rw [List.length_map]; exact wrap_ok (by omega) (by omega)
  (repeat' ((conv => whnf); first | refine br_i (fun _ => ?_) (fun _ => ?_) | (refine cur_leaf rfl rfl rfl ?_ ?_; · first | assumption | omega | exact hw ‹_›) | refine leaf_i rfl rfl ?_ | refine And.intro rfl ?_ | (refine And.intro ?_ ?_; · decide)))
  all_goals simp only [hw] at *
  · rename_i h; rw [sub_lt (by have := dlt h; omega)]; rfl
  · rename_i h; rw [sub_ge (by have := dge h; omega)]; rfl
theorem szBoolS (l : List Bool) (n : Int) (h0 : 0 ≤ n) (h1 : n ≤ 1048576) : PureC Try.prog 50 [boolsV l, i64v n] [i64v (sub n (l.length))] := by
  refine pureC_fit ⟨_, Try.func50, by kernel_rfl, rfl⟩ fun hf => ?_
  have hl : l.length ≤ 9223372036854775807 := fits_len (hf (boolsV l) (by simp))
  refine pureC_of (Γ := lookT tbl) (il := ilist) tg dr Try.func50 rfl (by kernel_rfl) rfl (Nat.le_of_ble_eq_true rfl) ?_
  have hw : IntKind.i64.wrap (n - (l.map boolEl).length) = n - l.length := by rw [List.length_map]; exact wrap_ok (by omega) (by omega)
  (repeat' ((conv => whnf); first | refine br_i (fun _ => ?_) (fun _ => ?_) | (refine cur_leaf rfl rfl rfl ?_ ?_; · first | assumption | omega | exact hw ‹_›) | refine leaf_i rfl rfl ?_ | refine And.intro rfl ?_ | (refine And.intro ?_ ?_; · decide)))
  all_goals simp only [hw] at *
  · rename_i h; rw [sub_lt (by have := dlt h; omega)]; rfl
  · rename_i h; rw [sub_ge (by have := dge h; omega)]; rfl
theorem szReq (x : XReq) (n : Int) (h0 : 0 ≤ n) (h1 : n ≤ 1048576) : PureC Try.prog 32 [x.v, i64v n] [i64v (sub n x.tot)] := by
  refine pureC_of (Γ := lookT tbl) (il := ilist) tg dr Try.func32 rfl (by kernel_rfl) rfl (Nat.le_of_ble_eq_true rfl) ?_
  conv => whnf
  refine call_i (szIntS x.Words _ (by omega) (by omega)) ?_
  conv => whnf
  refine br_i (fun h => ?_) (fun h => ?_) <;> conv => whnf
  · refine leaf_i rfl rfl ?_
    rw [sub_lt (show n < x.tot by have := sub_neg (dlt h) (by omega); unfold XReq.tot; omega)]; rfl
  have h := sub_nn (dge h)
  refine call_i (szBoolS x.Bits _ (by omega) (by omega)) ?_
  conv => whnf
  refine br_i (fun h => ?_) (fun h => ?_) <;> conv => whnf
  · refine leaf_i rfl rfl ?_
    rw [sub_lt (show n < x.tot by have := sub_neg (dlt h) (by omega); unfold XReq.tot; omega)]; rfl
  have h := sub_nn (dge h)
  refine leaf_i rfl rfl ?_
  rw [sub_ge (show (x.tot : Int) ≤ n by unfold XReq.tot; omega)]
  show [i64v _] = [i64v _]
  congr 2
  unfold XReq.tot
  omega
theorem szCall (x : XCall) (n : Int) (h0 : 0 ≤ n) (h1 : n ≤ 1048576) : PureC Try.prog 7 [x.v, i64v n] [i64v (sub n x.tot)] := by
  refine pureC_of (Γ := lookT tbl) (il := ilist) tg dr Try.func7 rfl (by kernel_rfl) rfl (Nat.le_of_ble_eq_true rfl) ?_
  conv => whnf
  refine call_i (szReq x.Req _ (by omega) (by omega)) ?_
  conv => whnf
  refine br_i (fun h => ?_) (fun h => ?_) <;> conv => whnf
  · refine leaf_i rfl rfl ?_
    rw [sub_lt (show n < x.tot by have := sub_neg (dlt h) (by omega); unfold XCall.tot; omega)]; rfl
  have h := sub_nn (dge h)
  refine leaf_i rfl rfl ?_
  rw [sub_ge (show (x.tot : Int) ≤ n by unfold XCall.tot; omega)]
  show [i64v _] = [i64v _]
  congr 2
  unfold XCall.tot
  omega
theorem szCallS (l : List XCall) (n : Int) (h0 : 0 ≤ n) (h1 : n ≤ 1048576) : PureC Try.prog 31 [XCall.sV l, i64v n] [i64v (sub n (XCall.sTot l))] := by
  refine pureC_fit ⟨_, Try.func31, by kernel_rfl, rfl⟩ fun hf => ?_
  have hl : l.length ≤ 9223372036854775807 := fits_len (hf (XCall.sV l) (by simp))
  refine pureC_of (Γ := lookT tbl) (il := ilist) tg dr Try.func31 rfl (by kernel_rfl) rfl (Nat.le_of_ble_eq_true rfl) ?_
  have hw : IntKind.i64.wrap (n - (l.map XCall.ps).length) = n - l.length := by rw [List.length_map]; exact wrap_ok (by omega) (by omega)
  conv => whnf
  simp only [hw]
  refine br_i (fun h => ?_) (fun h => ?_) <;> conv => whnf
  · refine leaf_i rfl rfl ?_
    rw [sub_lt (show n < XCall.sTot l by have := dlt h; unfold XCall.sTot; omega)]; rfl
  have h := dge h
  refine loop_i (fun k : Nat => ⟨envL [(0, .c (.pv (XCall.sP l))), (1, .c (.pv (.int .i64 (n - l.length - sumF XCall.tot (l.take k))))), (5, .c (.pv (.int .i64 k)))], resL [], 0, 27⟩) (fun k => k ≤ l.length ∧ 0 ≤ n - l.length - sumF XCall.tot (l.take k)) (fun k => l.length - k) 0 ⟨Nat.zero_le _, by simp [sumF]; omega⟩ (le_mk [] rfl ⟨⟨rfl, rfl⟩, ⟨i64_eq (by simp [sumF]), rfl⟩, ⟨rfl, rfl⟩, trivial⟩ trivial rfl) ?_
  intro k ⟨hk, hs⟩
  conv => whnf
  refine br_i (fun h => ?_) (fun h => ?_)
  · have hlt : k < l.length := by simpa using h
    conv => whnf
    refine ⟨_, idx_map l XCall.ps k hlt 9, ?_⟩
    conv => whnf
    refine call_i (szCall l[k] _ (by omega) (by omega)) ?_
    conv => whnf
    have hg := sumF_get XCall.tot l k hlt
    refine br_i (fun h => ?_) (fun h => ?_) <;> conv => whnf
    · refine leaf_i rfl rfl ?_
      rw [sub_lt (show n < XCall.sTot l by have := sub_neg (dlt h) (by omega); unfold XCall.sTot; omega)]; rfl
    · have h := sub_nn (dge h)
      exact ⟨k + 1, ⟨⟨hlt, by rw [sumF_succ _ _ _ hlt]; omega⟩, by omega⟩, le_mk [] rfl ⟨⟨rfl, rfl⟩, ⟨i64_eq (by rw [h.1, sumF_succ _ _ _ hlt]; omega), rfl⟩, ⟨ctr (by omega), rfl⟩, trivial⟩ trivial rfl⟩
  · have hk : l.length ≤ k := by simpa using h
    conv => whnf
    refine leaf_i rfl rfl ?_
    rw [sumF_all _ _ _ hk] at *
    rw [sub_ge (show (XCall.sTot l : Int) ≤ n by unfold XCall.sTot; omega)]
    show [i64v _] = [i64v _]
    congr 2
    unfold XCall.sTot
    omega
theorem szLine (x : XLine) (n : Int) (h0 : 0 ≤ n) (h1 : n ≤ 1048576) : PureC Try.prog 6 [x.v, i64v n] [i64v (sub n x.tot)] := by
  refine pureC_of (Γ := lookT tbl) (il := ilist) tg dr Try.func6 rfl (by kernel_rfl) rfl (Nat.le_of_ble_eq_true rfl) ?_
  conv => whnf
  refine call_i (szCallS x.Queue _ (by omega) (by omega)) ?_
  conv => whnf
  refine br_i (fun h => ?_) (fun h => ?_) <;> conv => whnf
  · refine leaf_i rfl rfl ?_
    rw [sub_lt (show n < x.tot by have := sub_neg (dlt h) (by omega); unfold XLine.tot; omega)]; rfl
  have h := sub_nn (dge h)
  refine call_i (szCall x.Call _ (by omega) (by omega)) ?_
  conv => whnf
  refine br_i (fun h => ?_) (fun h => ?_) <;> conv => whnf
  · refine leaf_i rfl rfl ?_
    rw [sub_lt (show n < x.tot by have := sub_neg (dlt h) (by omega); unfold XLine.tot; omega)]; rfl
  have h := sub_nn (dge h)
  refine leaf_i rfl rfl ?_
  rw [sub_ge (show (x.tot : Int) ≤ n by unfold XLine.tot; omega)]
  show [i64v _] = [i64v _]
  congr 2
  unfold XLine.tot
  omega
theorem toIntS (l : List Int) (hl : l.length ≤ 1048576) : PureC Try.prog 54 [intsV l] [intsV l] := by
  refine pureC_of (Γ := lookT tbl) (il := ilist) tg dr Try.func54 rfl (by kernel_rfl) rfl (Nat.le_of_ble_eq_true rfl) ?_
  conv => whnf
  refine ⟨l.length, (fillK 0 l 0).map intEl, ⟨⟨⟨by simp, by simp⟩, by show 8 * _ ≤ _; omega, by decide⟩, by rw [fillK_zero, List.map_replicate]; rfl⟩, ?_⟩
  conv => whnf
  refine loop_i (fun k : Nat => ⟨envL [(0, .c (.pv (intsP l))), (3, .c (.row 0)), (4, .c (.pv (.int .i64 k)))], resL [(0, .row true 1 ((fillK 0 l k).map intEl))], 1, 22⟩) (fun k => k ≤ l.length) (fun k => l.length - k) 0 (Nat.zero_le _) (le_mk [(0, 3072)] rfl ⟨⟨rfl, rfl⟩, ⟨rfl, rfl⟩, ⟨rfl, rfl⟩, trivial⟩ ⟨⟨rfl, rfl⟩, trivial⟩ rfl) ?_
  intro k hk
  conv => whnf
  refine br_i (fun h => ?_) (fun h => ?_)
  · have hlt : k < l.length := by simpa using h
    conv => whnf
    refine ⟨_, idx_map l intEl k hlt 1, ?_⟩
    conv => whnf
    refine ⟨k, ⟨⟨rfl, by simp [fillK_len _ l k hk]; exact hlt⟩, rfl⟩, ?_⟩
    conv => whnf
    refine ⟨(fillK 0 l (k + 1)).map intEl, ⟨rfl, by simp [fillK_len _ l k hk]; exact hlt, by decide, by rw [← fillK_set 0 l k hlt]; exact set_map (PV.int .i64) _ k _⟩, ?_⟩
    conv => whnf
    exact ⟨k + 1, ⟨hlt, by omega⟩, le_mk [] rfl ⟨⟨rfl, rfl⟩, ⟨rfl, rfl⟩, ⟨ctr (by omega), rfl⟩, trivial⟩ ⟨⟨rfl, rfl⟩, trivial⟩ rfl⟩
  · have hk : k = l.length := by simp at h; omega
    subst hk
    conv => whnf
    refine leaf_i rfl rfl ?_
    rw [fillK_all]
    rfl
theorem toBoolS (l : List Bool) (hl : l.length ≤ 1048576) : PureC Try.prog 55 [boolsV l] [boolsV l] := by
  refine pureC_of (Γ := lookT tbl) (il := ilist) tg dr Try.func55 rfl (by kernel_rfl) rfl (Nat.le_of_ble_eq_true rfl) ?_
  conv => whnf
  refine ⟨l.length, (fillK false l 0).map boolEl, ⟨⟨⟨by simp, by simp⟩, by show 1 * _ ≤ _; omega, by decide⟩, by rw [fillK_zero, List.map_replicate]; rfl⟩, ?_⟩
  conv => whnf
  refine loop_i (fun k : Nat => ⟨envL [(0, .c (.pv (boolsP l))), (3, .c (.row 0)), (4, .c (.pv (.int .i64 k)))], resL [(0, .row true 1 ((fillK false l k).map boolEl))], 1, 22⟩) (fun k => k ≤ l.length) (fun k => l.length - k) 0 (Nat.zero_le _) (le_mk [(0, 3072)] rfl ⟨⟨rfl, rfl⟩, ⟨rfl, rfl⟩, ⟨rfl, rfl⟩, trivial⟩ ⟨⟨rfl, rfl⟩, trivial⟩ rfl) ?_
  intro k hk
  conv => whnf
  refine br_i (fun h => ?_) (fun h => ?_)
  · have hlt : k < l.length := by simpa using h
    conv => whnf
    refine ⟨_, idx_map l boolEl k hlt 1, ?_⟩
    conv => whnf
    refine ⟨k, ⟨⟨rfl, by simp [fillK_len _ l k hk]; exact hlt⟩, rfl⟩, ?_⟩
    conv => whnf
    refine ⟨(fillK false l (k + 1)).map boolEl, ⟨rfl, by simp [fillK_len _ l k hk]; exact hlt, by decide, by rw [← fillK_set false l k hlt]; exact set_map (PV.bool) _ k _⟩, ?_⟩
    conv => whnf
    exact ⟨k + 1, ⟨hlt, by omega⟩, le_mk [] rfl ⟨⟨rfl, rfl⟩, ⟨rfl, rfl⟩, ⟨ctr (by omega), rfl⟩, trivial⟩ ⟨⟨rfl, rfl⟩, trivial⟩ rfl⟩
  · have hk : k = l.length := by simp at h; omega
    subst hk
    conv => whnf
    refine leaf_i rfl rfl ?_
    rw [fillK_all]
    rfl
theorem toReq (x : XReq) (h : x.tot ≤ 1048576) : PureC Try.prog 38 [x.v] [x.v] := by
  refine pureC_of (Γ := lookT tbl) (il := ilist) tg dr Try.func38 rfl (by kernel_rfl) rfl (Nat.le_of_ble_eq_true rfl) ?_
  unfold XReq.tot at h
  conv => whnf
  refine call_i (toIntS x.Words (by omega)) ?_
  conv => whnf
  refine call_i (toBoolS x.Bits (by omega)) ?_
  conv => whnf
  exact leaf_i rfl rfl rfl
theorem toCall (x : XCall) (h : x.tot ≤ 1048576) : PureC Try.prog 10 [x.v] [x.v] := by
  refine pureC_of (Γ := lookT tbl) (il := ilist) tg dr Try.func10 rfl (by kernel_rfl) rfl (Nat.le_of_ble_eq_true rfl) ?_
  unfold XCall.tot at h
  conv => whnf
  refine call_i (toReq x.Req (by omega)) ?_
  conv => whnf
  exact leaf_i rfl rfl rfl
theorem toCallS (l : List XCall) (hl : XCall.sTot l ≤ 1048576) : PureC Try.prog 37 [XCall.sV l] [XCall.sV l] := by
  unfold XCall.sTot at hl
  refine pureC_of (Γ := lookT tbl) (il := ilist) tg dr Try.func37 rfl (by kernel_rfl) rfl (Nat.le_of_ble_eq_true rfl) ?_
  conv => whnf
  refine ⟨l.length, (fillK XCall.zero l 0).map XCall.ps, ⟨⟨⟨by simp, by simp⟩, by show 104 * _ ≤ _; omega, by decide⟩, by rw [fillK_zero, List.map_replicate]; rfl⟩, ?_⟩
  conv => whnf
  refine loop_i (fun k : Nat => ⟨envL [(0, .c (.pv (XCall.sP l))), (3, .c (.row 0)), (4, .c (.pv (.int .i64 k)))], resL [(0, .row true 9 ((fillK XCall.zero l k).map XCall.ps))], 1, 23⟩) (fun k => k ≤ l.length) (fun k => l.length - k) 0 (Nat.zero_le _) (le_mk [(0, 3072)] rfl ⟨⟨rfl, rfl⟩, ⟨rfl, rfl⟩, ⟨rfl, rfl⟩, trivial⟩ ⟨⟨rfl, rfl⟩, trivial⟩ rfl) ?_
  intro k hk
  conv => whnf
  refine br_i (fun h => ?_) (fun h => ?_)
  · have hlt : k < l.length := by simpa using h
    have hg := sumF_get XCall.tot l k hlt
    conv => whnf
    refine ⟨_, idx_map l XCall.ps k hlt 9, ?_⟩
    conv => whnf
    refine call_i (toCall l[k] (by omega)) ?_
    conv => whnf
    refine ⟨k, ⟨⟨rfl, by simp [fillK_len _ l k hk]; exact hlt⟩, rfl⟩, ?_⟩
    conv => whnf
    refine ⟨(fillK XCall.zero l (k + 1)).map XCall.ps, ⟨⟨rfl, by simp [fillK_len _ l k hk]; exact hlt, Nat.le_of_ble_eq_true rfl⟩, fill_el XCall.zero l k XCall.ps 9 (fun _ => rfl) hlt⟩, ?_⟩
    conv => whnf
    exact ⟨k + 1, ⟨hlt, by omega⟩, le_mk [] rfl ⟨⟨rfl, rfl⟩, ⟨rfl, rfl⟩, ⟨ctr (by omega), rfl⟩, trivial⟩ ⟨⟨rfl, rfl⟩, trivial⟩ rfl⟩
  · have hk : k = l.length := by simp at h; omega
    subst hk
    conv => whnf
    refine leaf_i rfl rfl ?_
    rw [fillK_all]
    rfl
theorem toLine (x : XLine) (h : x.tot ≤ 1048576) : PureC Try.prog 9 [x.v] [x.v] := by
  refine pureC_of (Γ := lookT tbl) (il := ilist) tg dr Try.func9 rfl (by kernel_rfl) rfl (Nat.le_of_ble_eq_true rfl) ?_
  unfold XLine.tot at h
  conv => whnf
  refine call_i (toCallS x.Queue (by omega)) ?_
  conv => whnf
  refine call_i (toCall x.Call (by omega)) ?_
  conv => whnf
  exact leaf_i rfl rfl rfl
theorem eqIntS (l m : List Int) : PureC Try.prog 60 [intsV l, intsV m] [boolv (decide (l = m))] := by
  refine pureC_fit ⟨_, Try.func60, by kernel_rfl, rfl⟩ fun hf => ?_
  have hl : l.length ≤ 9223372036854775807 := fits_len (hf (intsV l) (by simp))
  refine pureC_of (Γ := lookT tbl) (il := ilist) tg dr Try.func60 rfl (by kernel_rfl) rfl (Nat.le_of_ble_eq_true rfl) ?_
  conv => whnf
  refine br_i (fun h => ?_) (fun h => ?_) <;> conv => whnf
  · refine leaf_i rfl rfl ?_
    have : l ≠ m := fun e => by subst e; simp at h
    simp [boolv, this]
  have hlen : l.length = m.length := by simp at h; omega
  refine loop_i (fun k : Nat => ⟨envL [(0, .c (.pv (intsP l))), (1, .c (.pv (intsP m))), (5, .c (.pv (.int .i64 k)))], resL [], 0, 26⟩) (fun k => k ≤ l.length ∧ l.take k = m.take k) (fun k => l.length - k) 0 ⟨Nat.zero_le _, rfl⟩ (le_mk [] rfl ⟨⟨rfl, rfl⟩, ⟨rfl, rfl⟩, ⟨rfl, rfl⟩, trivial⟩ trivial rfl) ?_
  intro k ⟨hk, hs⟩
  conv => whnf
  refine br_i (fun h => ?_) (fun h => ?_)
  · have hlt : k < l.length := by simpa using h
    have hlt2 : k < m.length := by omega
    conv => whnf
    refine ⟨_, idx_map l intEl k hlt 1, ?_⟩
    conv => whnf
    refine ⟨_, idx_map m intEl k hlt2 1, ?_⟩
    conv => whnf
    try refine And.intro rfl ?_
    conv => whnf
    refine br_i (fun h => ?_) (fun h => ?_) <;> conv => whnf
    · refine leaf_i rfl rfl ?_
      have : l ≠ m := ne_of_get hlt hlt2 (by simpa using h)
      simp [boolv, this]
    · exact ⟨k + 1, ⟨⟨hlt, take_eq_succ hs hlt hlt2 (by simpa using h)⟩, by omega⟩, le_mk [] rfl ⟨⟨rfl, rfl⟩, ⟨rfl, rfl⟩, ⟨ctr (by omega), rfl⟩, trivial⟩ trivial rfl⟩
  · have hk : l.length ≤ k := by simpa using h
    conv => whnf
    refine leaf_i rfl rfl ?_
    have : l = m := take_eq_all hs hk hlen.symm
    simp [boolv, this]
theorem eqBoolS (l m : List Bool) : PureC Try.prog 61 [boolsV l, boolsV m] [boolv (decide (l = m))] := by
  refine pureC_fit ⟨_, Try.func61, by kernel_rfl, rfl⟩ fun hf => ?_
  have hl : l.length ≤ 9223372036854775807 := fits_len (hf (boolsV l) (by simp))
  refine pureC_of (Γ := lookT tbl) (il := ilist) tg dr Try.func61 rfl (by kernel_rfl) rfl (Nat.le_of_ble_eq_true rfl) ?_
  conv => whnf
  refine br_i (fun h => ?_) (fun h => ?_) <;> conv => whnf
  · refine leaf_i rfl rfl ?_
    have : l ≠ m := fun e => by subst e; simp at h
    simp [boolv, this]
  have hlen : l.length = m.length := by simp at h; omega
  refine loop_i (fun k : Nat => ⟨envL [(0, .c (.pv (boolsP l))), (1, .c (.pv (boolsP m))), (5, .c (.pv (.int .i64 k)))], resL [], 0, 26⟩) (fun k => k ≤ l.length ∧ l.take k = m.take k) (fun k => l.length - k) 0 ⟨Nat.zero_le _, rfl⟩ (le_mk [] rfl ⟨⟨rfl, rfl⟩, ⟨rfl, rfl⟩, ⟨rfl, rfl⟩, trivial⟩ trivial rfl) ?_
  intro k ⟨hk, hs⟩
  conv => whnf
  refine br_i (fun h => ?_) (fun h => ?_)
  · have hlt : k < l.length := by simpa using h
    have hlt2 : k < m.length := by omega
    conv => whnf
    refine ⟨_, idx_map l boolEl k hlt 1, ?_⟩
    conv => whnf
    refine ⟨_, idx_map m boolEl k hlt2 1, ?_⟩
    conv => whnf
    try refine And.intro rfl ?_
    conv => whnf
    refine br_i (fun h => ?_) (fun h => ?_) <;> conv => whnf
    · refine leaf_i rfl rfl ?_
      have : l ≠ m := ne_of_get hlt hlt2 (by simpa using h)
      simp [boolv, this]
    · exact ⟨k + 1, ⟨⟨hlt, take_eq_succ hs hlt hlt2 (by simpa using h)⟩, by omega⟩, le_mk [] rfl ⟨⟨rfl, rfl⟩, ⟨rfl, rfl⟩, ⟨ctr (by omega), rfl⟩, trivial⟩ trivial rfl⟩
  · have hk : l.length ≤ k := by simpa using h
    conv => whnf
    refine leaf_i rfl rfl ?_
    have : l = m := take_eq_all hs hk hlen.symm
    simp [boolv, this]
theorem eqReq (x y : XReq) : PureC Try.prog 44 [x.v, y.v] [boolv (decide (x = y))] := by
  refine pureC_of (Γ := lookT tbl) (il := ilist) tg dr Try.func44 rfl (by kernel_rfl) rfl (Nat.le_of_ble_eq_true rfl) ?_
  (repeat' ((conv => whnf); first | refine br_i (fun _ => ?_) (fun _ => ?_) | (refine cur_leaf rfl rfl rfl ?_ ?_; · first | assumption | omega | exact hw ‹_›) | refine leaf_i rfl rfl ?_ | refine And.intro rfl ?_ | refine call_i (eqIntS x.Words y.Words) ?_ | (refine Or.inl ?_; (conv => whnf); refine call_i (eqIntS x.Words y.Words) ?_) | refine call_i (eqBoolS x.Bits y.Bits) ?_ | (refine Or.inl ?_; (conv => whnf); refine call_i (eqBoolS x.Bits y.Bits) ?_) | (refine And.intro ?_ ?_; · decide)))
  all_goals (cases x; cases y; (refine bool_leaf ?_; first | (simp_all []; done) | (simp_all []; omega)))
theorem eqCall (x y : XCall) : PureC Try.prog 13 [x.v, y.v] [boolv (decide (x = y))] := by
  refine pureC_of (Γ := lookT tbl) (il := ilist) tg dr Try.func13 rfl (by kernel_rfl) rfl (Nat.le_of_ble_eq_true rfl) ?_
  (repeat' ((conv => whnf); first | refine br_i (fun _ => ?_) (fun _ => ?_) | (refine cur_leaf rfl rfl rfl ?_ ?_; · first | assumption | omega | exact hw ‹_›) | refine leaf_i rfl rfl ?_ | refine And.intro rfl ?_ | refine call_i (eqReq x.Req y.Req) ?_ | (refine Or.inl ?_; (conv => whnf); refine call_i (eqReq x.Req y.Req) ?_) | (refine And.intro ?_ ?_; · decide)))
  all_goals (cases x; cases y; (refine bool_leaf ?_; first | (simp_all []; done) | (simp_all []; omega)))
theorem eqCallS (l m : List XCall) : PureC Try.prog 43 [XCall.sV l, XCall.sV m] [boolv (decide (l = m))] := by
  refine pureC_fit ⟨_, Try.func43, by kernel_rfl, rfl⟩ fun hf => ?_
  have hl : l.length ≤ 9223372036854775807 := fits_len (hf (XCall.sV l) (by simp))
  refine pureC_of (Γ := lookT tbl) (il := ilist) tg dr Try.func43 rfl (by kernel_rfl) rfl (Nat.le_of_ble_eq_true rfl) ?_
  conv => whnf
  refine br_i (fun h => ?_) (fun h => ?_) <;> conv => whnf
  · refine leaf_i rfl rfl ?_
    have : l ≠ m := fun e => by subst e; simp at h
    simp [boolv, this]
  have hlen : l.length = m.length := by simp at h; omega
  refine loop_i (fun k : Nat => ⟨envL [(0, .c (.pv (XCall.sP l))), (1, .c (.pv (XCall.sP m))), (5, .c (.pv (.int .i64 k)))], resL [], 0, 27⟩) (fun k => k ≤ l.length ∧ l.take k = m.take k) (fun k => l.length - k) 0 ⟨Nat.zero_le _, rfl⟩ (le_mk [] rfl ⟨⟨rfl, rfl⟩, ⟨rfl, rfl⟩, ⟨rfl, rfl⟩, trivial⟩ trivial rfl) ?_
  intro k ⟨hk, hs⟩
  conv => whnf
  refine br_i (fun h => ?_) (fun h => ?_)
  · have hlt : k < l.length := by simpa using h
    have hlt2 : k < m.length := by omega
    conv => whnf
    refine ⟨_, idx_map l XCall.ps k hlt 9, ?_⟩
    conv => whnf
    refine ⟨_, idx_map m XCall.ps k hlt2 9, ?_⟩
    conv => whnf
    refine call_i (eqCall l[k] m[k]) ?_
    conv => whnf
    try refine And.intro rfl ?_
    conv => whnf
    refine br_i (fun h => ?_) (fun h => ?_) <;> conv => whnf
    · refine leaf_i rfl rfl ?_
      have : l ≠ m := ne_of_get hlt hlt2 (by simpa using h)
      simp [boolv, this]
    · exact ⟨k + 1, ⟨⟨hlt, take_eq_succ hs hlt hlt2 (by simpa using h)⟩, by omega⟩, le_mk [] rfl ⟨⟨rfl, rfl⟩, ⟨rfl, rfl⟩, ⟨ctr (by omega), rfl⟩, trivial⟩ trivial rfl⟩
  · have hk : l.length ≤ k := by simpa using h
    conv => whnf
    refine leaf_i rfl rfl ?_
    have : l = m := take_eq_all hs hk hlen.symm
    simp [boolv, this]
theorem eqLine (x y : XLine) : PureC Try.prog 12 [x.v, y.v] [boolv (decide (x = y))] := by
  refine pureC_of (Γ := lookT tbl) (il := ilist) tg dr Try.func12 rfl (by kernel_rfl) rfl (Nat.le_of_ble_eq_true rfl) ?_
  (repeat' ((conv => whnf); first | refine br_i (fun _ => ?_) (fun _ => ?_) | (refine cur_leaf rfl rfl rfl ?_ ?_; · first | assumption | omega | exact hw ‹_›) | refine leaf_i rfl rfl ?_ | refine And.intro rfl ?_ | refine call_i (eqCallS x.Queue y.Queue) ?_ | (refine Or.inl ?_; (conv => whnf); refine call_i (eqCallS x.Queue y.Queue) ?_) | refine call_i (eqCall x.Call y.Call) ?_ | (refine Or.inl ?_; (conv => whnf); refine call_i (eqCall x.Call y.Call) ?_) | (refine And.intro ?_ ?_; · decide)))
  all_goals (cases x; cases y; (refine bool_leaf ?_; first | (simp_all []; done) | (simp_all []; omega)))
theorem szResp (x : XResp) (n : Int) (h0 : 0 ≤ n) (h1 : n ≤ 1048576) : PureC Try.prog 17 [x.v, i64v n] [i64v (sub n x.tot)] := by
  refine pureC_of (Γ := lookT tbl) (il := ilist) tg dr Try.func17 rfl (by kernel_rfl) rfl (Nat.le_of_ble_eq_true rfl) ?_
  conv => whnf
  refine call_i (szIntS x.Words _ (by omega) (by omega)) ?_
  conv => whnf
  refine br_i (fun h => ?_) (fun h => ?_) <;> conv => whnf
  · refine leaf_i rfl rfl ?_
    rw [sub_lt (show n < x.tot by have := sub_neg (dlt h) (by omega); unfold XResp.tot; omega)]; rfl
  have h := sub_nn (dge h)
  refine call_i (szBoolS x.Bits _ (by omega) (by omega)) ?_
  conv => whnf
  refine br_i (fun h => ?_) (fun h => ?_) <;> conv => whnf
  · refine leaf_i rfl rfl ?_
    rw [sub_lt (show n < x.tot by have := sub_neg (dlt h) (by omega); unfold XResp.tot; omega)]; rfl
  have h := sub_nn (dge h)
  refine leaf_i rfl rfl ?_
  rw [sub_ge (show (x.tot : Int) ≤ n by unfold XResp.tot; omega)]
  show [i64v _] = [i64v _]
  congr 2
  unfold XResp.tot
  omega
theorem toResp (x : XResp) (h : x.tot ≤ 1048576) : PureC Try.prog 19 [x.v] [x.v] := by
  refine pureC_of (Γ := lookT tbl) (il := ilist) tg dr Try.func19 rfl (by kernel_rfl) rfl (Nat.le_of_ble_eq_true rfl) ?_
  unfold XResp.tot at h
  conv => whnf
  refine call_i (toIntS x.Words (by omega)) ?_
  conv => whnf
  refine call_i (toBoolS x.Bits (by omega)) ?_
  conv => whnf
  exact leaf_i rfl rfl rfl
theorem eqResp (x y : XResp) : PureC Try.prog 22 [x.v, y.v] [boolv (decide (x = y))] := by
  refine pureC_of (Γ := lookT tbl) (il := ilist) tg dr Try.func22 rfl (by kernel_rfl) rfl (Nat.le_of_ble_eq_true rfl) ?_
  (repeat' ((conv => whnf); first | refine br_i (fun _ => ?_) (fun _ => ?_) | (refine cur_leaf rfl rfl rfl ?_ ?_; · first | assumption | omega | exact hw ‹_›) | refine leaf_i rfl rfl ?_ | refine And.intro rfl ?_ | refine call_i (eqIntS x.Words y.Words) ?_ | (refine Or.inl ?_; (conv => whnf); refine call_i (eqIntS x.Words y.Words) ?_) | refine call_i (eqBoolS x.Bits y.Bits) ?_ | (refine Or.inl ?_; (conv => whnf); refine call_i (eqBoolS x.Bits y.Bits) ?_) | (refine And.intro ?_ ?_; · decide)))
  all_goals (cases x; cases y; (refine bool_leaf ?_; first | (simp_all []; done) | (simp_all []; omega)))
theorem eqDone (x y : XDone) : PureC Try.prog 59 [x.v, y.v] [boolv (decide (x = y))] := by
  refine pureC_of (Γ := lookT tbl) (il := ilist) tg dr Try.func59 rfl (by kernel_rfl) rfl (Nat.le_of_ble_eq_true rfl) ?_
  (repeat' ((conv => whnf); first | refine br_i (fun _ => ?_) (fun _ => ?_) | (refine cur_leaf rfl rfl rfl ?_ ?_; · first | assumption | omega | exact hw ‹_›) | refine leaf_i rfl rfl ?_ | refine And.intro rfl ?_ | refine call_i (eqResp x.Resp y.Resp) ?_ | (refine Or.inl ?_; (conv => whnf); refine call_i (eqResp x.Resp y.Resp) ?_) | (refine And.intro ?_ ?_; · decide)))
  all_goals (cases x; cases y; (refine bool_leaf ?_; first | (simp_all []; done) | (simp_all []; omega)))
theorem eqDoneS (l m : List XDone) : PureC Try.prog 21 [XDone.sV l, XDone.sV m] [boolv (decide (l = m))] := by
  refine pureC_fit ⟨_, Try.func21, by kernel_rfl, rfl⟩ fun hf => ?_
  have hl : l.length ≤ 9223372036854775807 := fits_len (hf (XDone.sV l) (by simp))
  refine pureC_of (Γ := lookT tbl) (il := ilist) tg dr Try.func21 rfl (by kernel_rfl) rfl (Nat.le_of_ble_eq_true rfl) ?_
  conv => whnf
  refine br_i (fun h => ?_) (fun h => ?_) <;> conv => whnf
  · refine leaf_i rfl rfl ?_
    have : l ≠ m := fun e => by subst e; simp at h
    simp [boolv, this]
  have hlen : l.length = m.length := by simp at h; omega
  refine loop_i (fun k : Nat => ⟨envL [(0, .c (.pv (XDone.sP l))), (1, .c (.pv (XDone.sP m))), (5, .c (.pv (.int .i64 k)))], resL [], 0, 27⟩) (fun k => k ≤ l.length ∧ l.take k = m.take k) (fun k => l.length - k) 0 ⟨Nat.zero_le _, rfl⟩ (le_mk [] rfl ⟨⟨rfl, rfl⟩, ⟨rfl, rfl⟩, ⟨rfl, rfl⟩, trivial⟩ trivial rfl) ?_
  intro k ⟨hk, hs⟩
  conv => whnf
  refine br_i (fun h => ?_) (fun h => ?_)
  · have hlt : k < l.length := by simpa using h
    have hlt2 : k < m.length := by omega
    conv => whnf
    refine ⟨_, idx_map l XDone.ps k hlt 8, ?_⟩
    conv => whnf
    refine ⟨_, idx_map m XDone.ps k hlt2 8, ?_⟩
    conv => whnf
    refine call_i (eqDone l[k] m[k]) ?_
    conv => whnf
    try refine And.intro rfl ?_
    conv => whnf
    refine br_i (fun h => ?_) (fun h => ?_) <;> conv => whnf
    · refine leaf_i rfl rfl ?_
      have : l ≠ m := ne_of_get hlt hlt2 (by simpa using h)
      simp [boolv, this]
    · exact ⟨k + 1, ⟨⟨hlt, take_eq_succ hs hlt hlt2 (by simpa using h)⟩, by omega⟩, le_mk [] rfl ⟨⟨rfl, rfl⟩, ⟨rfl, rfl⟩, ⟨ctr (by omega), rfl⟩, trivial⟩ trivial rfl⟩
  · have hk : l.length ≤ k := by simpa using h
    conv => whnf
    refine leaf_i rfl rfl ?_
    have : l = m := take_eq_all hs hk hlen.symm
    simp [boolv, this]
theorem eqOrder (x y : XOrder) : PureC Try.prog 73 [x.v, y.v] [boolv (decide (x = y))] := by
  refine pureC_of (Γ := lookT tbl) (il := ilist) tg dr Try.func73 rfl (by kernel_rfl) rfl (Nat.le_of_ble_eq_true rfl) ?_
  (repeat' ((conv => whnf); first | refine br_i (fun _ => ?_) (fun _ => ?_) | (refine cur_leaf rfl rfl rfl ?_ ?_; · first | assumption | omega | exact hw ‹_›) | refine leaf_i rfl rfl ?_ | refine And.intro rfl ?_ | refine call_i (eqReq x.Req y.Req) ?_ | (refine Or.inl ?_; (conv => whnf); refine call_i (eqReq x.Req y.Req) ?_) | (refine And.intro ?_ ?_; · decide)))
  all_goals (cases x; cases y; (refine bool_leaf ?_; first | (simp_all []; done) | (simp_all []; omega)))
theorem eqOrderS (l m : List XOrder) : PureC Try.prog 28 [XOrder.sV l, XOrder.sV m] [boolv (decide (l = m))] := by
  refine pureC_fit ⟨_, Try.func28, by kernel_rfl, rfl⟩ fun hf => ?_
  have hl : l.length ≤ 9223372036854775807 := fits_len (hf (XOrder.sV l) (by simp))
  refine pureC_of (Γ := lookT tbl) (il := ilist) tg dr Try.func28 rfl (by kernel_rfl) rfl (Nat.le_of_ble_eq_true rfl) ?_
  conv => whnf
  refine br_i (fun h => ?_) (fun h => ?_) <;> conv => whnf
  · refine leaf_i rfl rfl ?_
    have : l ≠ m := fun e => by subst e; simp at h
    simp [boolv, this]
  have hlen : l.length = m.length := by simp at h; omega
  refine loop_i (fun k : Nat => ⟨envL [(0, .c (.pv (XOrder.sP l))), (1, .c (.pv (XOrder.sP m))), (5, .c (.pv (.int .i64 k)))], resL [], 0, 27⟩) (fun k => k ≤ l.length ∧ l.take k = m.take k) (fun k => l.length - k) 0 ⟨Nat.zero_le _, rfl⟩ (le_mk [] rfl ⟨⟨rfl, rfl⟩, ⟨rfl, rfl⟩, ⟨rfl, rfl⟩, trivial⟩ trivial rfl) ?_
  intro k ⟨hk, hs⟩
  conv => whnf
  refine br_i (fun h => ?_) (fun h => ?_)
  · have hlt : k < l.length := by simpa using h
    have hlt2 : k < m.length := by omega
    conv => whnf
    refine ⟨_, idx_map l XOrder.ps k hlt 8, ?_⟩
    conv => whnf
    refine ⟨_, idx_map m XOrder.ps k hlt2 8, ?_⟩
    conv => whnf
    refine call_i (eqOrder l[k] m[k]) ?_
    conv => whnf
    try refine And.intro rfl ?_
    conv => whnf
    refine br_i (fun h => ?_) (fun h => ?_) <;> conv => whnf
    · refine leaf_i rfl rfl ?_
      have : l ≠ m := ne_of_get hlt hlt2 (by simpa using h)
      simp [boolv, this]
    · exact ⟨k + 1, ⟨⟨hlt, take_eq_succ hs hlt hlt2 (by simpa using h)⟩, by omega⟩, le_mk [] rfl ⟨⟨rfl, rfl⟩, ⟨rfl, rfl⟩, ⟨ctr (by omega), rfl⟩, trivial⟩ trivial rfl⟩
  · have hk : l.length ≤ k := by simpa using h
    conv => whnf
    refine leaf_i rfl rfl ?_
    have : l = m := take_eq_all hs hk hlen.symm
    simp [boolv, this]
end Go.Proofs.Ytieenbofbfkhpaa
