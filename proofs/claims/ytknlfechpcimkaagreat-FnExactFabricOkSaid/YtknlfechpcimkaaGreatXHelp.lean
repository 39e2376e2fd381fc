/- The laws' helpers: measure, copy, compare. -/
import Derived.Test.YtknlfechpcimkaaGreatXMod
namespace Go.Proofs.YtknlfechpcimkaaGreat
open Go Go.Vi
set_option linter.unusedVariables false
set_option linter.unusedSimpArgs false
set_option maxRecDepth 100000
theorem szRuleS (l : List XRule) (n : Int) (h0 : 0 ≤ n) (h1 : n ≤ 1048576) : PureC Tryz.prog 35 [XRule.sV l, i64v n] [i64v (sub n (l.length))] := by
  refine pureC_fit ⟨_, Tryz.func35, by kernel_rfl, rfl⟩ fun hf => ?_
  have hl : l.length ≤ 9223372036854775807 := fits_len (hf (XRule.sV l) (by simp))
  refine pureC_of (Γ := lookT tbl) (il := ilist) tg dr Tryz.func35 rfl (by kernel_rfl) rfl (Nat.le_of_ble_eq_true rfl) ?_
  have hw : IntKind.i64.wrap (n - (l.map XRule.ps).length) = n - l.length := by rw [List.length_map]; exact wrap_ok (by omega) (by omega)
  (repeat' ((conv => whnf); first | refine br_i (fun _ => ?_) (fun _ => ?_) | (refine cur_leaf rfl rfl rfl ?_ ?_; · first | assumption | omega | exact hw ‹_›) | refine leaf_i rfl rfl ?_ | refine And.intro rfl ?_ | (refine And.intro ?_ ?_; · decide)))
  all_goals simp only [hw] at *
  · rename_i h; rw [sub_lt (by have := dlt h; omega)]; rfl
  · rename_i h; rw [sub_ge (by have := dge h; omega)]; rfl
theorem szConfig (x : XConfig) (n : Int) (h0 : 0 ≤ n) (h1 : n ≤ 1048576) : PureC Tryz.prog 9 [x.v, i64v n] [i64v (sub n x.tot)] := by
  refine pureC_of (Γ := lookT tbl) (il := ilist) tg dr Tryz.func9 rfl (by kernel_rfl) rfl (Nat.le_of_ble_eq_true rfl) ?_
  conv => whnf
  refine call_i (szRuleS x.Rules _ (by omega) (by omega)) ?_
  conv => whnf
  refine br_i (fun h => ?_) (fun h => ?_) <;> conv => whnf
  · refine leaf_i rfl rfl ?_
    rw [sub_lt (show n < x.tot by have := sub_neg (dlt h) (by omega); unfold XConfig.tot; omega)]; rfl
  have h := sub_nn (dge h)
  refine leaf_i rfl rfl ?_
  rw [sub_ge (show (x.tot : Int) ≤ n by unfold XConfig.tot; omega)]
  show [i64v _] = [i64v _]
  congr 2
  unfold XConfig.tot
  omega
theorem szIntS (l : List Int) (n : Int) (h0 : 0 ≤ n) (h1 : n ≤ 1048576) : PureC Tryz.prog 117 [intsV l, i64v n] [i64v (sub n (l.length))] := by
  refine pureC_fit ⟨_, Tryz.func117, by kernel_rfl, rfl⟩ fun hf => ?_
  have hl : l.length ≤ 9223372036854775807 := fits_len (hf (intsV l) (by simp))
  refine pureC_of (Γ := lookT tbl) (il := ilist) tg dr Tryz.func117 rfl (by kernel_rfl) rfl (Nat.le_of_ble_eq_true rfl) ?_
  have hw : IntKind.i64.wrap (n - (l.map intEl).length) = n - l.length := by rw [List.length_map]; exact wrap_ok (by omega) (by omega)
  (repeat' ((conv => whnf); first | refine br_i (fun _ => ?_) (fun _ => ?_) | (refine cur_leaf rfl rfl rfl ?_ ?_; · first | assumption | omega | exact hw ‹_›) | refine leaf_i rfl rfl ?_ | refine And.intro rfl ?_ | (refine And.intro ?_ ?_; · decide)))
  all_goals simp only [hw] at *
  · rename_i h; rw [sub_lt (by have := dlt h; omega)]; rfl
  · rename_i h; rw [sub_ge (by have := dge h; omega)]; rfl
theorem szBoolS (l : List Bool) (n : Int) (h0 : 0 ≤ n) (h1 : n ≤ 1048576) : PureC Tryz.prog 94 [boolsV l, i64v n] [i64v (sub n (l.length))] := by
  refine pureC_fit ⟨_, Tryz.func94, by kernel_rfl, rfl⟩ fun hf => ?_
  have hl : l.length ≤ 9223372036854775807 := fits_len (hf (boolsV l) (by simp))
  refine pureC_of (Γ := lookT tbl) (il := ilist) tg dr Tryz.func94 rfl (by kernel_rfl) rfl (Nat.le_of_ble_eq_true rfl) ?_
  have hw : IntKind.i64.wrap (n - (l.map boolEl).length) = n - l.length := by rw [List.length_map]; exact wrap_ok (by omega) (by omega)
  (repeat' ((conv => whnf); first | refine br_i (fun _ => ?_) (fun _ => ?_) | (refine cur_leaf rfl rfl rfl ?_ ?_; · first | assumption | omega | exact hw ‹_›) | refine leaf_i rfl rfl ?_ | refine And.intro rfl ?_ | (refine And.intro ?_ ?_; · decide)))
  all_goals simp only [hw] at *
  · rename_i h; rw [sub_lt (by have := dlt h; omega)]; rfl
  · rename_i h; rw [sub_ge (by have := dge h; omega)]; rfl
theorem szReq (x : XReq) (n : Int) (h0 : 0 ≤ n) (h1 : n ≤ 1048576) : PureC Tryz.prog 92 [x.v, i64v n] [i64v (sub n x.tot)] := by
  refine pureC_of (Γ := lookT tbl) (il := ilist) tg dr Tryz.func92 rfl (by kernel_rfl) rfl (Nat.le_of_ble_eq_true rfl) ?_
  conv => whnf
  refine call_i (szIntS x.Words _ (by omega) (by omega)) ?_
  conv => whnf
  refine br_i (fun h => ?_) (fun h => ?_) <;> conv => whnf
  · refine leaf_i rfl rfl ?_
    rw [sub_lt (show n < x.tot by have := sub_neg (dlt h) (by omega); unfold XReq.tot; omega)]; rfl
  have h := sub_nn (dge h)
  refine call_i (szBoolS x.Bits _ (by omega) (by omega)) ?_
  conv => whnf
  refine br_i (fun h => ?_) (fun h => ?_) <;> conv => whnf
  · refine leaf_i rfl rfl ?_
    rw [sub_lt (show n < x.tot by have := sub_neg (dlt h) (by omega); unfold XReq.tot; omega)]; rfl
  have h := sub_nn (dge h)
  refine leaf_i rfl rfl ?_
  rw [sub_ge (show (x.tot : Int) ≤ n by unfold XReq.tot; omega)]
  show [i64v _] = [i64v _]
  congr 2
  unfold XReq.tot
  omega
theorem szPart (x : XPart) (n : Int) (h0 : 0 ≤ n) (h1 : n ≤ 1048576) : PureC Tryz.prog 118 [x.v, i64v n] [i64v (sub n x.tot)] := by
  refine pureC_of (Γ := lookT tbl) (il := ilist) tg dr Tryz.func118 rfl (by kernel_rfl) rfl (Nat.le_of_ble_eq_true rfl) ?_
  conv => whnf
  refine call_i (szReq x.Req _ (by omega) (by omega)) ?_
  conv => whnf
  refine br_i (fun h => ?_) (fun h => ?_) <;> conv => whnf
  · refine leaf_i rfl rfl ?_
    rw [sub_lt (show n < x.tot by have := sub_neg (dlt h) (by omega); unfold XPart.tot; omega)]; rfl
  have h := sub_nn (dge h)
  refine leaf_i rfl rfl ?_
  rw [sub_ge (show (x.tot : Int) ≤ n by unfold XPart.tot; omega)]
  show [i64v _] = [i64v _]
  congr 2
  unfold XPart.tot
  omega
theorem szPartS (l : List XPart) (n : Int) (h0 : 0 ≤ n) (h1 : n ≤ 1048576) : PureC Tryz.prog 93 [XPart.sV l, i64v n] [i64v (sub n (XPart.sTot l))] := by
  refine pureC_fit ⟨_, Tryz.func93, by kernel_rfl, rfl⟩ fun hf => ?_
  have hl : l.length ≤ 9223372036854775807 := fits_len (hf (XPart.sV l) (by simp))
  refine pureC_of (Γ := lookT tbl) (il := ilist) tg dr Tryz.func93 rfl (by kernel_rfl) rfl (Nat.le_of_ble_eq_true rfl) ?_
  have hw : IntKind.i64.wrap (n - (l.map XPart.ps).length) = n - l.length := by rw [List.length_map]; exact wrap_ok (by omega) (by omega)
  conv => whnf
  simp only [hw]
  refine br_i (fun h => ?_) (fun h => ?_) <;> conv => whnf
  · refine leaf_i rfl rfl ?_
    rw [sub_lt (show n < XPart.sTot l by have := dlt h; unfold XPart.sTot; omega)]; rfl
  have h := dge h
  refine loop_i (fun k : Nat => ⟨envL [(0, .c (.pv (XPart.sP l))), (1, .c (.pv (.int .i64 (n - l.length - sumF XPart.tot (l.take k))))), (5, .c (.pv (.int .i64 k)))], resL [], 0, 27⟩) (fun k => k ≤ l.length ∧ 0 ≤ n - l.length - sumF XPart.tot (l.take k)) (fun k => l.length - k) 0 ⟨Nat.zero_le _, by simp [sumF]; omega⟩ (le_mk [] rfl ⟨⟨rfl, rfl⟩, ⟨i64_eq (by simp [sumF]), rfl⟩, ⟨rfl, rfl⟩, trivial⟩ trivial rfl) ?_
  intro k ⟨hk, hs⟩
  conv => whnf
  refine br_i (fun h => ?_) (fun h => ?_)
  · have hlt : k < l.length := by simpa using h
    conv => whnf
    refine ⟨_, idx_map l XPart.ps k hlt 8, ?_⟩
    conv => whnf
    refine call_i (szPart l[k] _ (by omega) (by omega)) ?_
    conv => whnf
    have hg := sumF_get XPart.tot l k hlt
    refine br_i (fun h => ?_) (fun h => ?_) <;> conv => whnf
    · refine leaf_i rfl rfl ?_
      rw [sub_lt (show n < XPart.sTot l by have := sub_neg (dlt h) (by omega); unfold XPart.sTot; omega)]; rfl
    · have h := sub_nn (dge h)
      exact ⟨k + 1, ⟨⟨hlt, by rw [sumF_succ _ _ _ hlt]; omega⟩, by omega⟩, le_mk [] rfl ⟨⟨rfl, rfl⟩, ⟨i64_eq (by rw [h.1, sumF_succ _ _ _ hlt]; omega), rfl⟩, ⟨ctr (by omega), rfl⟩, trivial⟩ trivial rfl⟩
  · have hk : l.length ≤ k := by simpa using h
    conv => whnf
    refine leaf_i rfl rfl ?_
    rw [sumF_all _ _ _ hk] at *
    rw [sub_ge (show (XPart.sTot l : Int) ≤ n by unfold XPart.sTot; omega)]
    show [i64v _] = [i64v _]
    congr 2
    unfold XPart.sTot
    omega
theorem szResp (x : XResp) (n : Int) (h0 : 0 ≤ n) (h1 : n ≤ 1048576) : PureC Tryz.prog 119 [x.v, i64v n] [i64v (sub n x.tot)] := by
  refine pureC_of (Γ := lookT tbl) (il := ilist) tg dr Tryz.func119 rfl (by kernel_rfl) rfl (Nat.le_of_ble_eq_true rfl) ?_
  conv => whnf
  refine call_i (szIntS x.Words _ (by omega) (by omega)) ?_
  conv => whnf
  refine br_i (fun h => ?_) (fun h => ?_) <;> conv => whnf
  · refine leaf_i rfl rfl ?_
    rw [sub_lt (show n < x.tot by have := sub_neg (dlt h) (by omega); unfold XResp.tot; omega)]; rfl
  have h := sub_nn (dge h)
  refine call_i (szBoolS x.Bits _ (by omega) (by omega)) ?_
  conv => whnf
  refine br_i (fun h => ?_) (fun h => ?_) <;> conv => whnf
  · refine leaf_i rfl rfl ?_
    rw [sub_lt (show n < x.tot by have := sub_neg (dlt h) (by omega); unfold XResp.tot; omega)]; rfl
  have h := sub_nn (dge h)
  refine leaf_i rfl rfl ?_
  rw [sub_ge (show (x.tot : Int) ≤ n by unfold XResp.tot; omega)]
  show [i64v _] = [i64v _]
  congr 2
  unfold XResp.tot
  omega
theorem szRespS (l : List XResp) (n : Int) (h0 : 0 ≤ n) (h1 : n ≤ 1048576) : PureC Tryz.prog 95 [XResp.sV l, i64v n] [i64v (sub n (XResp.sTot l))] := by
  refine pureC_fit ⟨_, Tryz.func95, by kernel_rfl, rfl⟩ fun hf => ?_
  have hl : l.length ≤ 9223372036854775807 := fits_len (hf (XResp.sV l) (by simp))
  refine pureC_of (Γ := lookT tbl) (il := ilist) tg dr Tryz.func95 rfl (by kernel_rfl) rfl (Nat.le_of_ble_eq_true rfl) ?_
  have hw : IntKind.i64.wrap (n - (l.map XResp.ps).length) = n - l.length := by rw [List.length_map]; exact wrap_ok (by omega) (by omega)
  conv => whnf
  simp only [hw]
  refine br_i (fun h => ?_) (fun h => ?_) <;> conv => whnf
  · refine leaf_i rfl rfl ?_
    rw [sub_lt (show n < XResp.sTot l by have := dlt h; unfold XResp.sTot; omega)]; rfl
  have h := dge h
  refine loop_i (fun k : Nat => ⟨envL [(0, .c (.pv (XResp.sP l))), (1, .c (.pv (.int .i64 (n - l.length - sumF XResp.tot (l.take k))))), (5, .c (.pv (.int .i64 k)))], resL [], 0, 27⟩) (fun k => k ≤ l.length ∧ 0 ≤ n - l.length - sumF XResp.tot (l.take k)) (fun k => l.length - k) 0 ⟨Nat.zero_le _, by simp [sumF]; omega⟩ (le_mk [] rfl ⟨⟨rfl, rfl⟩, ⟨i64_eq (by simp [sumF]), rfl⟩, ⟨rfl, rfl⟩, trivial⟩ trivial rfl) ?_
  intro k ⟨hk, hs⟩
  conv => whnf
  refine br_i (fun h => ?_) (fun h => ?_)
  · have hlt : k < l.length := by simpa using h
    conv => whnf
    refine ⟨_, idx_map l XResp.ps k hlt 6, ?_⟩
    conv => whnf
    refine call_i (szResp l[k] _ (by omega) (by omega)) ?_
    conv => whnf
    have hg := sumF_get XResp.tot l k hlt
    refine br_i (fun h => ?_) (fun h => ?_) <;> conv => whnf
    · refine leaf_i rfl rfl ?_
      rw [sub_lt (show n < XResp.sTot l by have := sub_neg (dlt h) (by omega); unfold XResp.sTot; omega)]; rfl
    · have h := sub_nn (dge h)
      exact ⟨k + 1, ⟨⟨hlt, by rw [sumF_succ _ _ _ hlt]; omega⟩, by omega⟩, le_mk [] rfl ⟨⟨rfl, rfl⟩, ⟨i64_eq (by rw [h.1, sumF_succ _ _ _ hlt]; omega), rfl⟩, ⟨ctr (by omega), rfl⟩, trivial⟩ trivial rfl⟩
  · have hk : l.length ≤ k := by simpa using h
    conv => whnf
    refine leaf_i rfl rfl ?_
    rw [sumF_all _ _ _ hk] at *
    rw [sub_ge (show (XResp.sTot l : Int) ≤ n by unfold XResp.sTot; omega)]
    show [i64v _] = [i64v _]
    congr 2
    unfold XResp.sTot
    omega
theorem szPend (x : XPend) (n : Int) (h0 : 0 ≤ n) (h1 : n ≤ 1048576) : PureC Tryz.prog 62 [x.v, i64v n] [i64v (sub n x.tot)] := by
  refine pureC_of (Γ := lookT tbl) (il := ilist) tg dr Tryz.func62 rfl (by kernel_rfl) rfl (Nat.le_of_ble_eq_true rfl) ?_
  conv => whnf
  refine call_i (szReq x.Req _ (by omega) (by omega)) ?_
  conv => whnf
  refine br_i (fun h => ?_) (fun h => ?_) <;> conv => whnf
  · refine leaf_i rfl rfl ?_
    rw [sub_lt (show n < x.tot by have := sub_neg (dlt h) (by omega); unfold XPend.tot; omega)]; rfl
  have h := sub_nn (dge h)
  refine call_i (szPartS x.Parts _ (by omega) (by omega)) ?_
  conv => whnf
  refine br_i (fun h => ?_) (fun h => ?_) <;> conv => whnf
  · refine leaf_i rfl rfl ?_
    rw [sub_lt (show n < x.tot by have := sub_neg (dlt h) (by omega); unfold XPend.tot; omega)]; rfl
  have h := sub_nn (dge h)
  refine call_i (szBoolS x.Has _ (by omega) (by omega)) ?_
  conv => whnf
  refine br_i (fun h => ?_) (fun h => ?_) <;> conv => whnf
  · refine leaf_i rfl rfl ?_
    rw [sub_lt (show n < x.tot by have := sub_neg (dlt h) (by omega); unfold XPend.tot; omega)]; rfl
  have h := sub_nn (dge h)
  refine call_i (szRespS x.Told _ (by omega) (by omega)) ?_
  conv => whnf
  refine br_i (fun h => ?_) (fun h => ?_) <;> conv => whnf
  · refine leaf_i rfl rfl ?_
    rw [sub_lt (show n < x.tot by have := sub_neg (dlt h) (by omega); unfold XPend.tot; omega)]; rfl
  have h := sub_nn (dge h)
  refine leaf_i rfl rfl ?_
  rw [sub_ge (show (x.tot : Int) ≤ n by unfold XPend.tot; omega)]
  show [i64v _] = [i64v _]
  congr 2
  unfold XPend.tot
  omega
theorem szPendS (l : List XPend) (n : Int) (h0 : 0 ≤ n) (h1 : n ≤ 1048576) : PureC Tryz.prog 36 [XPend.sV l, i64v n] [i64v (sub n (XPend.sTot l))] := by
  refine pureC_fit ⟨_, Tryz.func36, by kernel_rfl, rfl⟩ fun hf => ?_
  have hl : l.length ≤ 9223372036854775807 := fits_len (hf (XPend.sV l) (by simp))
  refine pureC_of (Γ := lookT tbl) (il := ilist) tg dr Tryz.func36 rfl (by kernel_rfl) rfl (Nat.le_of_ble_eq_true rfl) ?_
  have hw : IntKind.i64.wrap (n - (l.map XPend.ps).length) = n - l.length := by rw [List.length_map]; exact wrap_ok (by omega) (by omega)
  conv => whnf
  simp only [hw]
  refine br_i (fun h => ?_) (fun h => ?_) <;> conv => whnf
  · refine leaf_i rfl rfl ?_
    rw [sub_lt (show n < XPend.sTot l by have := dlt h; unfold XPend.sTot; omega)]; rfl
  have h := dge h
  refine loop_i (fun k : Nat => ⟨envL [(0, .c (.pv (XPend.sP l))), (1, .c (.pv (.int .i64 (n - l.length - sumF XPend.tot (l.take k))))), (5, .c (.pv (.int .i64 k)))], resL [], 0, 27⟩) (fun k => k ≤ l.length ∧ 0 ≤ n - l.length - sumF XPend.tot (l.take k)) (fun k => l.length - k) 0 ⟨Nat.zero_le _, by simp [sumF]; omega⟩ (le_mk [] rfl ⟨⟨rfl, rfl⟩, ⟨i64_eq (by simp [sumF]), rfl⟩, ⟨rfl, rfl⟩, trivial⟩ trivial rfl) ?_
  intro k ⟨hk, hs⟩
  conv => whnf
  refine br_i (fun h => ?_) (fun h => ?_)
  · have hlt : k < l.length := by simpa using h
    conv => whnf
    refine ⟨_, idx_map l XPend.ps k hlt 13, ?_⟩
    conv => whnf
    refine call_i (szPend l[k] _ (by omega) (by omega)) ?_
    conv => whnf
    have hg := sumF_get XPend.tot l k hlt
    refine br_i (fun h => ?_) (fun h => ?_) <;> conv => whnf
    · refine leaf_i rfl rfl ?_
      rw [sub_lt (show n < XPend.sTot l by have := sub_neg (dlt h) (by omega); unfold XPend.sTot; omega)]; rfl
    · have h := sub_nn (dge h)
      exact ⟨k + 1, ⟨⟨hlt, by rw [sumF_succ _ _ _ hlt]; omega⟩, by omega⟩, le_mk [] rfl ⟨⟨rfl, rfl⟩, ⟨i64_eq (by rw [h.1, sumF_succ _ _ _ hlt]; omega), rfl⟩, ⟨ctr (by omega), rfl⟩, trivial⟩ trivial rfl⟩
  · have hk : l.length ≤ k := by simpa using h
    conv => whnf
    refine leaf_i rfl rfl ?_
    rw [sumF_all _ _ _ hk] at *
    rw [sub_ge (show (XPend.sTot l : Int) ≤ n by unfold XPend.sTot; omega)]
    show [i64v _] = [i64v _]
    congr 2
    unfold XPend.sTot
    omega
theorem szTable (x : XTable) (n : Int) (h0 : 0 ≤ n) (h1 : n ≤ 1048576) : PureC Tryz.prog 10 [x.v, i64v n] [i64v (sub n x.tot)] := by
  refine pureC_of (Γ := lookT tbl) (il := ilist) tg dr Tryz.func10 rfl (by kernel_rfl) rfl (Nat.le_of_ble_eq_true rfl) ?_
  conv => whnf
  refine call_i (szPendS x.List_ _ (by omega) (by omega)) ?_
  conv => whnf
  refine br_i (fun h => ?_) (fun h => ?_) <;> conv => whnf
  · refine leaf_i rfl rfl ?_
    rw [sub_lt (show n < x.tot by have := sub_neg (dlt h) (by omega); unfold XTable.tot; omega)]; rfl
  have h := sub_nn (dge h)
  refine leaf_i rfl rfl ?_
  rw [sub_ge (show (x.tot : Int) ≤ n by unfold XTable.tot; omega)]
  show [i64v _] = [i64v _]
  congr 2
  unfold XTable.tot
  omega
theorem szCall (x : XCall) (n : Int) (h0 : 0 ≤ n) (h1 : n ≤ 1048576) : PureC Tryz.prog 64 [x.v, i64v n] [i64v (sub n x.tot)] := by
  refine pureC_of (Γ := lookT tbl) (il := ilist) tg dr Tryz.func64 rfl (by kernel_rfl) rfl (Nat.le_of_ble_eq_true rfl) ?_
  conv => whnf
  refine call_i (szReq x.Req _ (by omega) (by omega)) ?_
  conv => whnf
  refine br_i (fun h => ?_) (fun h => ?_) <;> conv => whnf
  · refine leaf_i rfl rfl ?_
    rw [sub_lt (show n < x.tot by have := sub_neg (dlt h) (by omega); unfold XCall.tot; omega)]; rfl
  have h := sub_nn (dge h)
  refine leaf_i rfl rfl ?_
  rw [sub_ge (show (x.tot : Int) ≤ n by unfold XCall.tot; omega)]
  show [i64v _] = [i64v _]
  congr 2
  unfold XCall.tot
  omega
theorem szCallS (l : List XCall) (n : Int) (h0 : 0 ≤ n) (h1 : n ≤ 1048576) : PureC Tryz.prog 63 [XCall.sV l, i64v n] [i64v (sub n (XCall.sTot l))] := by
  refine pureC_fit ⟨_, Tryz.func63, by kernel_rfl, rfl⟩ fun hf => ?_
  have hl : l.length ≤ 9223372036854775807 := fits_len (hf (XCall.sV l) (by simp))
  refine pureC_of (Γ := lookT tbl) (il := ilist) tg dr Tryz.func63 rfl (by kernel_rfl) rfl (Nat.le_of_ble_eq_true rfl) ?_
  have hw : IntKind.i64.wrap (n - (l.map XCall.ps).length) = n - l.length := by rw [List.length_map]; exact wrap_ok (by omega) (by omega)
  conv => whnf
  simp only [hw]
  refine br_i (fun h => ?_) (fun h => ?_) <;> conv => whnf
  · refine leaf_i rfl rfl ?_
    rw [sub_lt (show n < XCall.sTot l by have := dlt h; unfold XCall.sTot; omega)]; rfl
  have h := dge h
  refine loop_i (fun k : Nat => ⟨envL [(0, .c (.pv (XCall.sP l))), (1, .c (.pv (.int .i64 (n - l.length - sumF XCall.tot (l.take k))))), (5, .c (.pv (.int .i64 k)))], resL [], 0, 27⟩) (fun k => k ≤ l.length ∧ 0 ≤ n - l.length - sumF XCall.tot (l.take k)) (fun k => l.length - k) 0 ⟨Nat.zero_le _, by simp [sumF]; omega⟩ (le_mk [] rfl ⟨⟨rfl, rfl⟩, ⟨i64_eq (by simp [sumF]), rfl⟩, ⟨rfl, rfl⟩, trivial⟩ trivial rfl) ?_
  intro k ⟨hk, hs⟩
  conv => whnf
  refine br_i (fun h => ?_) (fun h => ?_)
  · have hlt : k < l.length := by simpa using h
    conv => whnf
    refine ⟨_, idx_map l XCall.ps k hlt 9, ?_⟩
    conv => whnf
    refine call_i (szCall l[k] _ (by omega) (by omega)) ?_
    conv => whnf
    have hg := sumF_get XCall.tot l k hlt
    refine br_i (fun h => ?_) (fun h => ?_) <;> conv => whnf
    · refine leaf_i rfl rfl ?_
      rw [sub_lt (show n < XCall.sTot l by have := sub_neg (dlt h) (by omega); unfold XCall.sTot; omega)]; rfl
    · have h := sub_nn (dge h)
      exact ⟨k + 1, ⟨⟨hlt, by rw [sumF_succ _ _ _ hlt]; omega⟩, by omega⟩, le_mk [] rfl ⟨⟨rfl, rfl⟩, ⟨i64_eq (by rw [h.1, sumF_succ _ _ _ hlt]; omega), rfl⟩, ⟨ctr (by omega), rfl⟩, trivial⟩ trivial rfl⟩
  · have hk : l.length ≤ k := by simpa using h
    conv => whnf
    refine leaf_i rfl rfl ?_
    rw [sumF_all _ _ _ hk] at *
    rw [sub_ge (show (XCall.sTot l : Int) ≤ n by unfold XCall.sTot; omega)]
    show [i64v _] = [i64v _]
    congr 2
    unfold XCall.sTot
    omega
theorem szLine (x : XLine) (n : Int) (h0 : 0 ≤ n) (h1 : n ≤ 1048576) : PureC Tryz.prog 37 [x.v, i64v n] [i64v (sub n x.tot)] := by
  refine pureC_of (Γ := lookT tbl) (il := ilist) tg dr Tryz.func37 rfl (by kernel_rfl) rfl (Nat.le_of_ble_eq_true rfl) ?_
  conv => whnf
  refine call_i (szCallS x.Queue _ (by omega) (by omega)) ?_
  conv => whnf
  refine br_i (fun h => ?_) (fun h => ?_) <;> conv => whnf
  · refine leaf_i rfl rfl ?_
    rw [sub_lt (show n < x.tot by have := sub_neg (dlt h) (by omega); unfold XLine.tot; omega)]; rfl
  have h := sub_nn (dge h)
  refine call_i (szCall x.Call _ (by omega) (by omega)) ?_
  conv => whnf
  refine br_i (fun h => ?_) (fun h => ?_) <;> conv => whnf
  · refine leaf_i rfl rfl ?_
    rw [sub_lt (show n < x.tot by have := sub_neg (dlt h) (by omega); unfold XLine.tot; omega)]; rfl
  have h := sub_nn (dge h)
  refine leaf_i rfl rfl ?_
  rw [sub_ge (show (x.tot : Int) ≤ n by unfold XLine.tot; omega)]
  show [i64v _] = [i64v _]
  congr 2
  unfold XLine.tot
  omega
theorem szLineS (l : List XLine) (n : Int) (h0 : 0 ≤ n) (h1 : n ≤ 1048576) : PureC Tryz.prog 11 [XLine.sV l, i64v n] [i64v (sub n (XLine.sTot l))] := by
  refine pureC_fit ⟨_, Tryz.func11, by kernel_rfl, rfl⟩ fun hf => ?_
  have hl : l.length ≤ 9223372036854775807 := fits_len (hf (XLine.sV l) (by simp))
  refine pureC_of (Γ := lookT tbl) (il := ilist) tg dr Tryz.func11 rfl (by kernel_rfl) rfl (Nat.le_of_ble_eq_true rfl) ?_
  have hw : IntKind.i64.wrap (n - (l.map XLine.ps).length) = n - l.length := by rw [List.length_map]; exact wrap_ok (by omega) (by omega)
  conv => whnf
  simp only [hw]
  refine br_i (fun h => ?_) (fun h => ?_) <;> conv => whnf
  · refine leaf_i rfl rfl ?_
    rw [sub_lt (show n < XLine.sTot l by have := dlt h; unfold XLine.sTot; omega)]; rfl
  have h := dge h
  refine loop_i (fun k : Nat => ⟨envL [(0, .c (.pv (XLine.sP l))), (1, .c (.pv (.int .i64 (n - l.length - sumF XLine.tot (l.take k))))), (5, .c (.pv (.int .i64 k)))], resL [], 0, 27⟩) (fun k => k ≤ l.length ∧ 0 ≤ n - l.length - sumF XLine.tot (l.take k)) (fun k => l.length - k) 0 ⟨Nat.zero_le _, by simp [sumF]; omega⟩ (le_mk [] rfl ⟨⟨rfl, rfl⟩, ⟨i64_eq (by simp [sumF]), rfl⟩, ⟨rfl, rfl⟩, trivial⟩ trivial rfl) ?_
  intro k ⟨hk, hs⟩
  conv => whnf
  refine br_i (fun h => ?_) (fun h => ?_)
  · have hlt : k < l.length := by simpa using h
    conv => whnf
    refine ⟨_, idx_map l XLine.ps k hlt 17, ?_⟩
    conv => whnf
    refine call_i (szLine l[k] _ (by omega) (by omega)) ?_
    conv => whnf
    have hg := sumF_get XLine.tot l k hlt
    refine br_i (fun h => ?_) (fun h => ?_) <;> conv => whnf
    · refine leaf_i rfl rfl ?_
      rw [sub_lt (show n < XLine.sTot l by have := sub_neg (dlt h) (by omega); unfold XLine.sTot; omega)]; rfl
    · have h := sub_nn (dge h)
      exact ⟨k + 1, ⟨⟨hlt, by rw [sumF_succ _ _ _ hlt]; omega⟩, by omega⟩, le_mk [] rfl ⟨⟨rfl, rfl⟩, ⟨i64_eq (by rw [h.1, sumF_succ _ _ _ hlt]; omega), rfl⟩, ⟨ctr (by omega), rfl⟩, trivial⟩ trivial rfl⟩
  · have hk : l.length ≤ k := by simpa using h
    conv => whnf
    refine leaf_i rfl rfl ?_
    rw [sumF_all _ _ _ hk] at *
    rw [sub_ge (show (XLine.sTot l : Int) ≤ n by unfold XLine.sTot; omega)]
    show [i64v _] = [i64v _]
    congr 2
    unfold XLine.sTot
    omega
theorem szFabric (x : XFabric) (n : Int) (h0 : 0 ≤ n) (h1 : n ≤ 1048576) : PureC Tryz.prog 4 [x.v, i64v n] [i64v (sub n x.tot)] := by
  refine pureC_of (Γ := lookT tbl) (il := ilist) tg dr Tryz.func4 rfl (by kernel_rfl) rfl (Nat.le_of_ble_eq_true rfl) ?_
  conv => whnf
  refine call_i (szConfig x.Set _ (by omega) (by omega)) ?_
  conv => whnf
  refine br_i (fun h => ?_) (fun h => ?_) <;> conv => whnf
  · refine leaf_i rfl rfl ?_
    rw [sub_lt (show n < x.tot by have := sub_neg (dlt h) (by omega); unfold XFabric.tot; omega)]; rfl
  have h := sub_nn (dge h)
  refine call_i (szTable x.Open _ (by omega) (by omega)) ?_
  conv => whnf
  refine br_i (fun h => ?_) (fun h => ?_) <;> conv => whnf
  · refine leaf_i rfl rfl ?_
    rw [sub_lt (show n < x.tot by have := sub_neg (dlt h) (by omega); unfold XFabric.tot; omega)]; rfl
  have h := sub_nn (dge h)
  refine call_i (szLineS x.Lines _ (by omega) (by omega)) ?_
  conv => whnf
  refine br_i (fun h => ?_) (fun h => ?_) <;> conv => whnf
  · refine leaf_i rfl rfl ?_
    rw [sub_lt (show n < x.tot by have := sub_neg (dlt h) (by omega); unfold XFabric.tot; omega)]; rfl
  have h := sub_nn (dge h)
  refine leaf_i rfl rfl ?_
  rw [sub_ge (show (x.tot : Int) ≤ n by unfold XFabric.tot; omega)]
  show [i64v _] = [i64v _]
  congr 2
  unfold XFabric.tot
  omega
theorem toRule (x : XRule) : PureC Tryz.prog 73 [x.v] [x.v] := by
  refine pureC_of (Γ := lookT tbl) (il := ilist) tg dr Tryz.func73 rfl (by kernel_rfl) rfl (Nat.le_of_ble_eq_true rfl) ?_
  conv => whnf
  exact leaf_i rfl rfl rfl
theorem toRuleS (l : List XRule) (hl : l.length ≤ 1048576) : PureC Tryz.prog 44 [XRule.sV l] [XRule.sV l] := by
  refine pureC_of (Γ := lookT tbl) (il := ilist) tg dr Tryz.func44 rfl (by kernel_rfl) rfl (Nat.le_of_ble_eq_true rfl) ?_
  conv => whnf
  refine ⟨l.length, (fillK XRule.zero l 0).map XRule.ps, ⟨⟨⟨by simp, by simp⟩, by show 56 * _ ≤ _; omega, by decide⟩, by rw [fillK_zero, List.map_replicate]; rfl⟩, ?_⟩
  conv => whnf
  refine loop_i (fun k : Nat => ⟨envL [(0, .c (.pv (XRule.sP l))), (3, .c (.row 0)), (4, .c (.pv (.int .i64 k)))], resL [(0, .row true 7 ((fillK XRule.zero l k).map XRule.ps))], 1, 23⟩) (fun k => k ≤ l.length) (fun k => l.length - k) 0 (Nat.zero_le _) (le_mk [(0, 3072)] rfl ⟨⟨rfl, rfl⟩, ⟨rfl, rfl⟩, ⟨rfl, rfl⟩, trivial⟩ ⟨⟨rfl, rfl⟩, trivial⟩ rfl) ?_
  intro k hk
  conv => whnf
  refine br_i (fun h => ?_) (fun h => ?_)
  · have hlt : k < l.length := by simpa using h
    conv => whnf
    refine ⟨_, idx_map l XRule.ps k hlt 7, ?_⟩
    conv => whnf
    refine call_i (toRule l[k]) ?_
    conv => whnf
    refine ⟨k, ⟨⟨rfl, by simp [fillK_len _ l k hk]; exact hlt⟩, rfl⟩, ?_⟩
    conv => whnf
    refine ⟨(fillK XRule.zero l (k + 1)).map XRule.ps, ⟨⟨rfl, by simp [fillK_len _ l k hk]; exact hlt, Nat.le_of_ble_eq_true rfl⟩, fill_el XRule.zero l k XRule.ps 7 (fun _ => rfl) hlt⟩, ?_⟩
    conv => whnf
    exact ⟨k + 1, ⟨hlt, by omega⟩, le_mk [] rfl ⟨⟨rfl, rfl⟩, ⟨rfl, rfl⟩, ⟨ctr (by omega), rfl⟩, trivial⟩ ⟨⟨rfl, rfl⟩, trivial⟩ rfl⟩
  · have hk : k = l.length := by simp at h; omega
    subst hk
    conv => whnf
    refine leaf_i rfl rfl ?_
    rw [fillK_all]
    rfl
theorem toConfig (x : XConfig) (h : x.tot ≤ 1048576) : PureC Tryz.prog 20 [x.v] [x.v] := by
  refine pureC_of (Γ := lookT tbl) (il := ilist) tg dr Tryz.func20 rfl (by kernel_rfl) rfl (Nat.le_of_ble_eq_true rfl) ?_
  unfold XConfig.tot at h
  conv => whnf
  refine call_i (toRuleS x.Rules (by omega)) ?_
  conv => whnf
  exact leaf_i rfl rfl rfl
theorem toIntS (l : List Int) (hl : l.length ≤ 1048576) : PureC Tryz.prog 122 [intsV l] [intsV l] := by
  refine pureC_of (Γ := lookT tbl) (il := ilist) tg dr Tryz.func122 rfl (by kernel_rfl) rfl (Nat.le_of_ble_eq_true rfl) ?_
  conv => whnf
  refine ⟨l.length, (fillK 0 l 0).map intEl, ⟨⟨⟨by simp, by simp⟩, by show 8 * _ ≤ _; omega, by decide⟩, by rw [fillK_zero, List.map_replicate]; rfl⟩, ?_⟩
  conv => whnf
  refine loop_i (fun k : Nat => ⟨envL [(0, .c (.pv (intsP l))), (3, .c (.row 0)), (4, .c (.pv (.int .i64 k)))], resL [(0, .row true 1 ((fillK 0 l k).map intEl))], 1, 22⟩) (fun k => k ≤ l.length) (fun k => l.length - k) 0 (Nat.zero_le _) (le_mk [(0, 3072)] rfl ⟨⟨rfl, rfl⟩, ⟨rfl, rfl⟩, ⟨rfl, rfl⟩, trivial⟩ ⟨⟨rfl, rfl⟩, trivial⟩ rfl) ?_
  intro k hk
  conv => whnf
  refine br_i (fun h => ?_) (fun h => ?_)
  · have hlt : k < l.length := by simpa using h
    conv => whnf
    refine ⟨_, idx_map l intEl k hlt 1, ?_⟩
    conv => whnf
    refine ⟨k, ⟨⟨rfl, by simp [fillK_len _ l k hk]; exact hlt⟩, rfl⟩, ?_⟩
    conv => whnf
    refine ⟨(fillK 0 l (k + 1)).map intEl, ⟨rfl, by simp [fillK_len _ l k hk]; exact hlt, by decide, by rw [← fillK_set 0 l k hlt]; exact set_map (PV.int .i64) _ k _⟩, ?_⟩
    conv => whnf
    exact ⟨k + 1, ⟨hlt, by omega⟩, le_mk [] rfl ⟨⟨rfl, rfl⟩, ⟨rfl, rfl⟩, ⟨ctr (by omega), rfl⟩, trivial⟩ ⟨⟨rfl, rfl⟩, trivial⟩ rfl⟩
  · have hk : k = l.length := by simp at h; omega
    subst hk
    conv => whnf
    refine leaf_i rfl rfl ?_
    rw [fillK_all]
    rfl
theorem toBoolS (l : List Bool) (hl : l.length ≤ 1048576) : PureC Tryz.prog 102 [boolsV l] [boolsV l] := by
  refine pureC_of (Γ := lookT tbl) (il := ilist) tg dr Tryz.func102 rfl (by kernel_rfl) rfl (Nat.le_of_ble_eq_true rfl) ?_
  conv => whnf
  refine ⟨l.length, (fillK false l 0).map boolEl, ⟨⟨⟨by simp, by simp⟩, by show 1 * _ ≤ _; omega, by decide⟩, by rw [fillK_zero, List.map_replicate]; rfl⟩, ?_⟩
  conv => whnf
  refine loop_i (fun k : Nat => ⟨envL [(0, .c (.pv (boolsP l))), (3, .c (.row 0)), (4, .c (.pv (.int .i64 k)))], resL [(0, .row true 1 ((fillK false l k).map boolEl))], 1, 22⟩) (fun k => k ≤ l.length) (fun k => l.length - k) 0 (Nat.zero_le _) (le_mk [(0, 3072)] rfl ⟨⟨rfl, rfl⟩, ⟨rfl, rfl⟩, ⟨rfl, rfl⟩, trivial⟩ ⟨⟨rfl, rfl⟩, trivial⟩ rfl) ?_
  intro k hk
  conv => whnf
  refine br_i (fun h => ?_) (fun h => ?_)
  · have hlt : k < l.length := by simpa using h
    conv => whnf
    refine ⟨_, idx_map l boolEl k hlt 1, ?_⟩
    conv => whnf
    refine ⟨k, ⟨⟨rfl, by simp [fillK_len _ l k hk]; exact hlt⟩, rfl⟩, ?_⟩
    conv => whnf
    refine ⟨(fillK false l (k + 1)).map boolEl, ⟨rfl, by simp [fillK_len _ l k hk]; exact hlt, by decide, by rw [← fillK_set false l k hlt]; exact set_map (PV.bool) _ k _⟩, ?_⟩
    conv => whnf
    exact ⟨k + 1, ⟨hlt, by omega⟩, le_mk [] rfl ⟨⟨rfl, rfl⟩, ⟨rfl, rfl⟩, ⟨ctr (by omega), rfl⟩, trivial⟩ ⟨⟨rfl, rfl⟩, trivial⟩ rfl⟩
  · have hk : k = l.length := by simp at h; omega
    subst hk
    conv => whnf
    refine leaf_i rfl rfl ?_
    rw [fillK_all]
    rfl
theorem toReq (x : XReq) (h : x.tot ≤ 1048576) : PureC Tryz.prog 100 [x.v] [x.v] := by
  refine pureC_of (Γ := lookT tbl) (il := ilist) tg dr Tryz.func100 rfl (by kernel_rfl) rfl (Nat.le_of_ble_eq_true rfl) ?_
  unfold XReq.tot at h
  conv => whnf
  refine call_i (toIntS x.Words (by omega)) ?_
  conv => whnf
  refine call_i (toBoolS x.Bits (by omega)) ?_
  conv => whnf
  exact leaf_i rfl rfl rfl
theorem toPart (x : XPart) (h : x.tot ≤ 1048576) : PureC Tryz.prog 123 [x.v] [x.v] := by
  refine pureC_of (Γ := lookT tbl) (il := ilist) tg dr Tryz.func123 rfl (by kernel_rfl) rfl (Nat.le_of_ble_eq_true rfl) ?_
  unfold XPart.tot at h
  conv => whnf
  refine call_i (toReq x.Req (by omega)) ?_
  conv => whnf
  exact leaf_i rfl rfl rfl
theorem toPartS (l : List XPart) (hl : XPart.sTot l ≤ 1048576) : PureC Tryz.prog 101 [XPart.sV l] [XPart.sV l] := by
  unfold XPart.sTot at hl
  refine pureC_of (Γ := lookT tbl) (il := ilist) tg dr Tryz.func101 rfl (by kernel_rfl) rfl (Nat.le_of_ble_eq_true rfl) ?_
  conv => whnf
  refine ⟨l.length, (fillK XPart.zero l 0).map XPart.ps, ⟨⟨⟨by simp, by simp⟩, by show 96 * _ ≤ _; omega, by decide⟩, by rw [fillK_zero, List.map_replicate]; rfl⟩, ?_⟩
  conv => whnf
  refine loop_i (fun k : Nat => ⟨envL [(0, .c (.pv (XPart.sP l))), (3, .c (.row 0)), (4, .c (.pv (.int .i64 k)))], resL [(0, .row true 8 ((fillK XPart.zero l k).map XPart.ps))], 1, 23⟩) (fun k => k ≤ l.length) (fun k => l.length - k) 0 (Nat.zero_le _) (le_mk [(0, 3072)] rfl ⟨⟨rfl, rfl⟩, ⟨rfl, rfl⟩, ⟨rfl, rfl⟩, trivial⟩ ⟨⟨rfl, rfl⟩, trivial⟩ rfl) ?_
  intro k hk
  conv => whnf
  refine br_i (fun h => ?_) (fun h => ?_)
  · have hlt : k < l.length := by simpa using h
    have hg := sumF_get XPart.tot l k hlt
    conv => whnf
    refine ⟨_, idx_map l XPart.ps k hlt 8, ?_⟩
    conv => whnf
    refine call_i (toPart l[k] (by omega)) ?_
    conv => whnf
    refine ⟨k, ⟨⟨rfl, by simp [fillK_len _ l k hk]; exact hlt⟩, rfl⟩, ?_⟩
    conv => whnf
    refine ⟨(fillK XPart.zero l (k + 1)).map XPart.ps, ⟨⟨rfl, by simp [fillK_len _ l k hk]; exact hlt, Nat.le_of_ble_eq_true rfl⟩, fill_el XPart.zero l k XPart.ps 8 (fun _ => rfl) hlt⟩, ?_⟩
    conv => whnf
    exact ⟨k + 1, ⟨hlt, by omega⟩, le_mk [] rfl ⟨⟨rfl, rfl⟩, ⟨rfl, rfl⟩, ⟨ctr (by omega), rfl⟩, trivial⟩ ⟨⟨rfl, rfl⟩, trivial⟩ rfl⟩
  · have hk : k = l.length := by simp at h; omega
    subst hk
    conv => whnf
    refine leaf_i rfl rfl ?_
    rw [fillK_all]
    rfl
theorem toResp (x : XResp) (h : x.tot ≤ 1048576) : PureC Tryz.prog 124 [x.v] [x.v] := by
  refine pureC_of (Γ := lookT tbl) (il := ilist) tg dr Tryz.func124 rfl (by kernel_rfl) rfl (Nat.le_of_ble_eq_true rfl) ?_
  unfold XResp.tot at h
  conv => whnf
  refine call_i (toIntS x.Words (by omega)) ?_
  conv => whnf
  refine call_i (toBoolS x.Bits (by omega)) ?_
  conv => whnf
  exact leaf_i rfl rfl rfl
theorem toRespS (l : List XResp) (hl : XResp.sTot l ≤ 1048576) : PureC Tryz.prog 103 [XResp.sV l] [XResp.sV l] := by
  unfold XResp.sTot at hl
  refine pureC_of (Γ := lookT tbl) (il := ilist) tg dr Tryz.func103 rfl (by kernel_rfl) rfl (Nat.le_of_ble_eq_true rfl) ?_
  conv => whnf
  refine ⟨l.length, (fillK XResp.zero l 0).map XResp.ps, ⟨⟨⟨by simp, by simp⟩, by show 80 * _ ≤ _; omega, by decide⟩, by rw [fillK_zero, List.map_replicate]; rfl⟩, ?_⟩
  conv => whnf
  refine loop_i (fun k : Nat => ⟨envL [(0, .c (.pv (XResp.sP l))), (3, .c (.row 0)), (4, .c (.pv (.int .i64 k)))], resL [(0, .row true 6 ((fillK XResp.zero l k).map XResp.ps))], 1, 23⟩) (fun k => k ≤ l.length) (fun k => l.length - k) 0 (Nat.zero_le _) (le_mk [(0, 3072)] rfl ⟨⟨rfl, rfl⟩, ⟨rfl, rfl⟩, ⟨rfl, rfl⟩, trivial⟩ ⟨⟨rfl, rfl⟩, trivial⟩ rfl) ?_
  intro k hk
  conv => whnf
  refine br_i (fun h => ?_) (fun h => ?_)
  · have hlt : k < l.length := by simpa using h
    have hg := sumF_get XResp.tot l k hlt
    conv => whnf
    refine ⟨_, idx_map l XResp.ps k hlt 6, ?_⟩
    conv => whnf
    refine call_i (toResp l[k] (by omega)) ?_
    conv => whnf
    refine ⟨k, ⟨⟨rfl, by simp [fillK_len _ l k hk]; exact hlt⟩, rfl⟩, ?_⟩
    conv => whnf
    refine ⟨(fillK XResp.zero l (k + 1)).map XResp.ps, ⟨⟨rfl, by simp [fillK_len _ l k hk]; exact hlt, Nat.le_of_ble_eq_true rfl⟩, fill_el XResp.zero l k XResp.ps 6 (fun _ => rfl) hlt⟩, ?_⟩
    conv => whnf
    exact ⟨k + 1, ⟨hlt, by omega⟩, le_mk [] rfl ⟨⟨rfl, rfl⟩, ⟨rfl, rfl⟩, ⟨ctr (by omega), rfl⟩, trivial⟩ ⟨⟨rfl, rfl⟩, trivial⟩ rfl⟩
  · have hk : k = l.length := by simp at h; omega
    subst hk
    conv => whnf
    refine leaf_i rfl rfl ?_
    rw [fillK_all]
    rfl
theorem toPend (x : XPend) (h : x.tot ≤ 1048576) : PureC Tryz.prog 74 [x.v] [x.v] := by
  refine pureC_of (Γ := lookT tbl) (il := ilist) tg dr Tryz.func74 rfl (by kernel_rfl) rfl (Nat.le_of_ble_eq_true rfl) ?_
  unfold XPend.tot at h
  conv => whnf
  refine call_i (toReq x.Req (by omega)) ?_
  conv => whnf
  refine call_i (toPartS x.Parts (by omega)) ?_
  conv => whnf
  refine call_i (toBoolS x.Has (by omega)) ?_
  conv => whnf
  refine call_i (toRespS x.Told (by omega)) ?_
  conv => whnf
  exact leaf_i rfl rfl rfl
theorem toPendS (l : List XPend) (hl : XPend.sTot l ≤ 1048576) : PureC Tryz.prog 45 [XPend.sV l] [XPend.sV l] := by
  unfold XPend.sTot at hl
  refine pureC_of (Γ := lookT tbl) (il := ilist) tg dr Tryz.func45 rfl (by kernel_rfl) rfl (Nat.le_of_ble_eq_true rfl) ?_
  conv => whnf
  refine ⟨l.length, (fillK XPend.zero l 0).map XPend.ps, ⟨⟨⟨by simp, by simp⟩, by show 184 * _ ≤ _; omega, by decide⟩, by rw [fillK_zero, List.map_replicate]; rfl⟩, ?_⟩
  conv => whnf
  refine loop_i (fun k : Nat => ⟨envL [(0, .c (.pv (XPend.sP l))), (3, .c (.row 0)), (4, .c (.pv (.int .i64 k)))], resL [(0, .row true 13 ((fillK XPend.zero l k).map XPend.ps))], 1, 23⟩) (fun k => k ≤ l.length) (fun k => l.length - k) 0 (Nat.zero_le _) (le_mk [(0, 3072)] rfl ⟨⟨rfl, rfl⟩, ⟨rfl, rfl⟩, ⟨rfl, rfl⟩, trivial⟩ ⟨⟨rfl, rfl⟩, trivial⟩ rfl) ?_
  intro k hk
  conv => whnf
  refine br_i (fun h => ?_) (fun h => ?_)
  · have hlt : k < l.length := by simpa using h
    have hg := sumF_get XPend.tot l k hlt
    conv => whnf
    refine ⟨_, idx_map l XPend.ps k hlt 13, ?_⟩
    conv => whnf
    refine call_i (toPend l[k] (by omega)) ?_
    conv => whnf
    refine ⟨k, ⟨⟨rfl, by simp [fillK_len _ l k hk]; exact hlt⟩, rfl⟩, ?_⟩
    conv => whnf
    refine ⟨(fillK XPend.zero l (k + 1)).map XPend.ps, ⟨⟨rfl, by simp [fillK_len _ l k hk]; exact hlt, Nat.le_of_ble_eq_true rfl⟩, fill_el XPend.zero l k XPend.ps 13 (fun _ => rfl) hlt⟩, ?_⟩
    conv => whnf
    exact ⟨k + 1, ⟨hlt, by omega⟩, le_mk [] rfl ⟨⟨rfl, rfl⟩, ⟨rfl, rfl⟩, ⟨ctr (by omega), rfl⟩, trivial⟩ ⟨⟨rfl, rfl⟩, trivial⟩ rfl⟩
  · have hk : k = l.length := by simp at h; omega
    subst hk
    conv => whnf
    refine leaf_i rfl rfl ?_
    rw [fillK_all]
    rfl
theorem toTable (x : XTable) (h : x.tot ≤ 1048576) : PureC Tryz.prog 21 [x.v] [x.v] := by
  refine pureC_of (Γ := lookT tbl) (il := ilist) tg dr Tryz.func21 rfl (by kernel_rfl) rfl (Nat.le_of_ble_eq_true rfl) ?_
  unfold XTable.tot at h
  conv => whnf
  refine call_i (toPendS x.List_ (by omega)) ?_
  conv => whnf
  exact leaf_i rfl rfl rfl
theorem toCall (x : XCall) (h : x.tot ≤ 1048576) : PureC Tryz.prog 76 [x.v] [x.v] := by
  refine pureC_of (Γ := lookT tbl) (il := ilist) tg dr Tryz.func76 rfl (by kernel_rfl) rfl (Nat.le_of_ble_eq_true rfl) ?_
  unfold XCall.tot at h
  conv => whnf
  refine call_i (toReq x.Req (by omega)) ?_
  conv => whnf
  exact leaf_i rfl rfl rfl
theorem toCallS (l : List XCall) (hl : XCall.sTot l ≤ 1048576) : PureC Tryz.prog 75 [XCall.sV l] [XCall.sV l] := by
  unfold XCall.sTot at hl
  refine pureC_of (Γ := lookT tbl) (il := ilist) tg dr Tryz.func75 rfl (by kernel_rfl) rfl (Nat.le_of_ble_eq_true rfl) ?_
  conv => whnf
  refine ⟨l.length, (fillK XCall.zero l 0).map XCall.ps, ⟨⟨⟨by simp, by simp⟩, by show 104 * _ ≤ _; omega, by decide⟩, by rw [fillK_zero, List.map_replicate]; rfl⟩, ?_⟩
  conv => whnf
  refine loop_i (fun k : Nat => ⟨envL [(0, .c (.pv (XCall.sP l))), (3, .c (.row 0)), (4, .c (.pv (.int .i64 k)))], resL [(0, .row true 9 ((fillK XCall.zero l k).map XCall.ps))], 1, 23⟩) (fun k => k ≤ l.length) (fun k => l.length - k) 0 (Nat.zero_le _) (le_mk [(0, 3072)] rfl ⟨⟨rfl, rfl⟩, ⟨rfl, rfl⟩, ⟨rfl, rfl⟩, trivial⟩ ⟨⟨rfl, rfl⟩, trivial⟩ rfl) ?_
  intro k hk
  conv => whnf
  refine br_i (fun h => ?_) (fun h => ?_)
  · have hlt : k < l.length := by simpa using h
    have hg := sumF_get XCall.tot l k hlt
    conv => whnf
    refine ⟨_, idx_map l XCall.ps k hlt 9, ?_⟩
    conv => whnf
    refine call_i (toCall l[k] (by omega)) ?_
    conv => whnf
    refine ⟨k, ⟨⟨rfl, by simp [fillK_len _ l k hk]; exact hlt⟩, rfl⟩, ?_⟩
    conv => whnf
    refine ⟨(fillK XCall.zero l (k + 1)).map XCall.ps, ⟨⟨rfl, by simp [fillK_len _ l k hk]; exact hlt, Nat.le_of_ble_eq_true rfl⟩, fill_el XCall.zero l k XCall.ps 9 (fun _ => rfl) hlt⟩, ?_⟩
    conv => whnf
    exact ⟨k + 1, ⟨hlt, by omega⟩, le_mk [] rfl ⟨⟨rfl, rfl⟩, ⟨rfl, rfl⟩, ⟨ctr (by omega), rfl⟩, trivial⟩ ⟨⟨rfl, rfl⟩, trivial⟩ rfl⟩
  · have hk : k = l.length := by simp at h; omega
    subst hk
    conv => whnf
    refine leaf_i rfl rfl ?_
    rw [fillK_all]
    rfl
theorem toLine (x : XLine) (h : x.tot ≤ 1048576) : PureC Tryz.prog 46 [x.v] [x.v] := by
  refine pureC_of (Γ := lookT tbl) (il := ilist) tg dr Tryz.func46 rfl (by kernel_rfl) rfl (Nat.le_of_ble_eq_true rfl) ?_
  unfold XLine.tot at h
  conv => whnf
  refine call_i (toCallS x.Queue (by omega)) ?_
  conv => whnf
  refine call_i (toCall x.Call (by omega)) ?_
  conv => whnf
  exact leaf_i rfl rfl rfl
theorem toLineS (l : List XLine) (hl : XLine.sTot l ≤ 1048576) : PureC Tryz.prog 22 [XLine.sV l] [XLine.sV l] := by
  unfold XLine.sTot at hl
  refine pureC_of (Γ := lookT tbl) (il := ilist) tg dr Tryz.func22 rfl (by kernel_rfl) rfl (Nat.le_of_ble_eq_true rfl) ?_
  conv => whnf
  refine ⟨l.length, (fillK XLine.zero l 0).map XLine.ps, ⟨⟨⟨by simp, by simp⟩, by show 184 * _ ≤ _; omega, by decide⟩, by rw [fillK_zero, List.map_replicate]; rfl⟩, ?_⟩
  conv => whnf
  refine loop_i (fun k : Nat => ⟨envL [(0, .c (.pv (XLine.sP l))), (3, .c (.row 0)), (4, .c (.pv (.int .i64 k)))], resL [(0, .row true 17 ((fillK XLine.zero l k).map XLine.ps))], 1, 23⟩) (fun k => k ≤ l.length) (fun k => l.length - k) 0 (Nat.zero_le _) (le_mk [(0, 3072)] rfl ⟨⟨rfl, rfl⟩, ⟨rfl, rfl⟩, ⟨rfl, rfl⟩, trivial⟩ ⟨⟨rfl, rfl⟩, trivial⟩ rfl) ?_
  intro k hk
  conv => whnf
  refine br_i (fun h => ?_) (fun h => ?_)
  · have hlt : k < l.length := by simpa using h
    have hg := sumF_get XLine.tot l k hlt
    conv => whnf
    refine ⟨_, idx_map l XLine.ps k hlt 17, ?_⟩
    conv => whnf
    refine call_i (toLine l[k] (by omega)) ?_
    conv => whnf
    refine ⟨k, ⟨⟨rfl, by simp [fillK_len _ l k hk]; exact hlt⟩, rfl⟩, ?_⟩
    conv => whnf
    refine ⟨(fillK XLine.zero l (k + 1)).map XLine.ps, ⟨⟨rfl, by simp [fillK_len _ l k hk]; exact hlt, Nat.le_of_ble_eq_true rfl⟩, fill_el XLine.zero l k XLine.ps 17 (fun _ => rfl) hlt⟩, ?_⟩
    conv => whnf
    exact ⟨k + 1, ⟨hlt, by omega⟩, le_mk [] rfl ⟨⟨rfl, rfl⟩, ⟨rfl, rfl⟩, ⟨ctr (by omega), rfl⟩, trivial⟩ ⟨⟨rfl, rfl⟩, trivial⟩ rfl⟩
  · have hk : k = l.length := by simp at h; omega
    subst hk
    conv => whnf
    refine leaf_i rfl rfl ?_
    rw [fillK_all]
    rfl
theorem toFabric (x : XFabric) (h : x.tot ≤ 1048576) : PureC Tryz.prog 6 [x.v] [x.v] := by
  refine pureC_of (Γ := lookT tbl) (il := ilist) tg dr Tryz.func6 rfl (by kernel_rfl) rfl (Nat.le_of_ble_eq_true rfl) ?_
  unfold XFabric.tot at h
  conv => whnf
  refine call_i (toConfig x.Set (by omega)) ?_
  conv => whnf
  refine call_i (toTable x.Open (by omega)) ?_
  conv => whnf
  refine call_i (toLineS x.Lines (by omega)) ?_
  conv => whnf
  exact leaf_i rfl rfl rfl
theorem eqRule (x y : XRule) : PureC Tryz.prog 88 [x.v, y.v] [boolv (decide (x = y))] := by
  refine pureC_of (Γ := lookT tbl) (il := ilist) tg dr Tryz.func88 rfl (by kernel_rfl) rfl (Nat.le_of_ble_eq_true rfl) ?_
  (repeat' ((conv => whnf); first | refine br_i (fun _ => ?_) (fun _ => ?_) | (refine cur_leaf rfl rfl rfl ?_ ?_; · first | assumption | omega | exact hw ‹_›) | refine leaf_i rfl rfl ?_ | refine And.intro rfl ?_ | (refine And.intro ?_ ?_; · decide)))
  all_goals (cases x; cases y; (refine bool_leaf ?_; first | (simp_all []; done) | (simp_all []; omega)))
theorem eqRuleS (l m : List XRule) : PureC Tryz.prog 59 [XRule.sV l, XRule.sV m] [boolv (decide (l = m))] := by
  refine pureC_fit ⟨_, Tryz.func59, by kernel_rfl, rfl⟩ fun hf => ?_
  have hl : l.length ≤ 9223372036854775807 := fits_len (hf (XRule.sV l) (by simp))
  refine pureC_of (Γ := lookT tbl) (il := ilist) tg dr Tryz.func59 rfl (by kernel_rfl) rfl (Nat.le_of_ble_eq_true rfl) ?_
  conv => whnf
  refine br_i (fun h => ?_) (fun h => ?_) <;> conv => whnf
  · refine leaf_i rfl rfl ?_
    have : l ≠ m := fun e => by subst e; simp at h
    simp [boolv, this]
  have hlen : l.length = m.length := by simp at h; omega
  refine loop_i (fun k : Nat => ⟨envL [(0, .c (.pv (XRule.sP l))), (1, .c (.pv (XRule.sP m))), (5, .c (.pv (.int .i64 k)))], resL [], 0, 27⟩) (fun k => k ≤ l.length ∧ l.take k = m.take k) (fun k => l.length - k) 0 ⟨Nat.zero_le _, rfl⟩ (le_mk [] rfl ⟨⟨rfl, rfl⟩, ⟨rfl, rfl⟩, ⟨rfl, rfl⟩, trivial⟩ trivial rfl) ?_
  intro k ⟨hk, hs⟩
  conv => whnf
  refine br_i (fun h => ?_) (fun h => ?_)
  · have hlt : k < l.length := by simpa using h
    have hlt2 : k < m.length := by omega
    conv => whnf
    refine ⟨_, idx_map l XRule.ps k hlt 7, ?_⟩
    conv => whnf
    refine ⟨_, idx_map m XRule.ps k hlt2 7, ?_⟩
    conv => whnf
    refine call_i (eqRule l[k] m[k]) ?_
    conv => whnf
    try refine And.intro rfl ?_
    conv => whnf
    refine br_i (fun h => ?_) (fun h => ?_) <;> conv => whnf
    · refine leaf_i rfl rfl ?_
      have : l ≠ m := ne_of_get hlt hlt2 (by simpa using h)
      simp [boolv, this]
    · exact ⟨k + 1, ⟨⟨hlt, take_eq_succ hs hlt hlt2 (by simpa using h)⟩, by omega⟩, le_mk [] rfl ⟨⟨rfl, rfl⟩, ⟨rfl, rfl⟩, ⟨ctr (by omega), rfl⟩, trivial⟩ trivial rfl⟩
  · have hk : l.length ≤ k := by simpa using h
    conv => whnf
    refine leaf_i rfl rfl ?_
    have : l = m := take_eq_all hs hk hlen.symm
    simp [boolv, this]
theorem eqConfig (x y : XConfig) : PureC Tryz.prog 32 [x.v, y.v] [boolv (decide (x = y))] := by
  refine pureC_of (Γ := lookT tbl) (il := ilist) tg dr Tryz.func32 rfl (by kernel_rfl) rfl (Nat.le_of_ble_eq_true rfl) ?_
  (repeat' ((conv => whnf); first | refine br_i (fun _ => ?_) (fun _ => ?_) | (refine cur_leaf rfl rfl rfl ?_ ?_; · first | assumption | omega | exact hw ‹_›) | refine leaf_i rfl rfl ?_ | refine And.intro rfl ?_ | refine call_i (eqRuleS x.Rules y.Rules) ?_ | (refine Or.inl ?_; (conv => whnf); refine call_i (eqRuleS x.Rules y.Rules) ?_) | (refine And.intro ?_ ?_; · decide)))
  all_goals (cases x; cases y; (refine bool_leaf ?_; first | (simp_all []; done) | (simp_all []; omega)))
theorem eqIntS (l m : List Int) : PureC Tryz.prog 129 [intsV l, intsV m] [boolv (decide (l = m))] := by
  refine pureC_fit ⟨_, Tryz.func129, by kernel_rfl, rfl⟩ fun hf => ?_
  have hl : l.length ≤ 9223372036854775807 := fits_len (hf (intsV l) (by simp))
  refine pureC_of (Γ := lookT tbl) (il := ilist) tg dr Tryz.func129 rfl (by kernel_rfl) rfl (Nat.le_of_ble_eq_true rfl) ?_
  conv => whnf
  refine br_i (fun h => ?_) (fun h => ?_) <;> conv => whnf
  · refine leaf_i rfl rfl ?_
    have : l ≠ m := fun e => by subst e; simp at h
    simp [boolv, this]
  have hlen : l.length = m.length := by simp at h; omega
  refine loop_i (fun k : Nat => ⟨envL [(0, .c (.pv (intsP l))), (1, .c (.pv (intsP m))), (5, .c (.pv (.int .i64 k)))], resL [], 0, 26⟩) (fun k => k ≤ l.length ∧ l.take k = m.take k) (fun k => l.length - k) 0 ⟨Nat.zero_le _, rfl⟩ (le_mk [] rfl ⟨⟨rfl, rfl⟩, ⟨rfl, rfl⟩, ⟨rfl, rfl⟩, trivial⟩ trivial rfl) ?_
  intro k ⟨hk, hs⟩
  conv => whnf
  refine br_i (fun h => ?_) (fun h => ?_)
  · have hlt : k < l.length := by simpa using h
    have hlt2 : k < m.length := by omega
    conv => whnf
    refine ⟨_, idx_map l intEl k hlt 1, ?_⟩
    conv => whnf
    refine ⟨_, idx_map m intEl k hlt2 1, ?_⟩
    conv => whnf
    try refine And.intro rfl ?_
    conv => whnf
    refine br_i (fun h => ?_) (fun h => ?_) <;> conv => whnf
    · refine leaf_i rfl rfl ?_
      have : l ≠ m := ne_of_get hlt hlt2 (by simpa using h)
      simp [boolv, this]
    · exact ⟨k + 1, ⟨⟨hlt, take_eq_succ hs hlt hlt2 (by simpa using h)⟩, by omega⟩, le_mk [] rfl ⟨⟨rfl, rfl⟩, ⟨rfl, rfl⟩, ⟨ctr (by omega), rfl⟩, trivial⟩ trivial rfl⟩
  · have hk : l.length ≤ k := by simpa using h
    conv => whnf
    refine leaf_i rfl rfl ?_
    have : l = m := take_eq_all hs hk hlen.symm
    simp [boolv, this]
theorem eqBoolS (l m : List Bool) : PureC Tryz.prog 115 [boolsV l, boolsV m] [boolv (decide (l = m))] := by
  refine pureC_fit ⟨_, Tryz.func115, by kernel_rfl, rfl⟩ fun hf => ?_
  have hl : l.length ≤ 9223372036854775807 := fits_len (hf (boolsV l) (by simp))
  refine pureC_of (Γ := lookT tbl) (il := ilist) tg dr Tryz.func115 rfl (by kernel_rfl) rfl (Nat.le_of_ble_eq_true rfl) ?_
  conv => whnf
  refine br_i (fun h => ?_) (fun h => ?_) <;> conv => whnf
  · refine leaf_i rfl rfl ?_
    have : l ≠ m := fun e => by subst e; simp at h
    simp [boolv, this]
  have hlen : l.length = m.length := by simp at h; omega
  refine loop_i (fun k : Nat => ⟨envL [(0, .c (.pv (boolsP l))), (1, .c (.pv (boolsP m))), (5, .c (.pv (.int .i64 k)))], resL [], 0, 26⟩) (fun k => k ≤ l.length ∧ l.take k = m.take k) (fun k => l.length - k) 0 ⟨Nat.zero_le _, rfl⟩ (le_mk [] rfl ⟨⟨rfl, rfl⟩, ⟨rfl, rfl⟩, ⟨rfl, rfl⟩, trivial⟩ trivial rfl) ?_
  intro k ⟨hk, hs⟩
  conv => whnf
  refine br_i (fun h => ?_) (fun h => ?_)
  · have hlt : k < l.length := by simpa using h
    have hlt2 : k < m.length := by omega
    conv => whnf
    refine ⟨_, idx_map l boolEl k hlt 1, ?_⟩
    conv => whnf
    refine ⟨_, idx_map m boolEl k hlt2 1, ?_⟩
    conv => whnf
    try refine And.intro rfl ?_
    conv => whnf
    refine br_i (fun h => ?_) (fun h => ?_) <;> conv => whnf
    · refine leaf_i rfl rfl ?_
      have : l ≠ m := ne_of_get hlt hlt2 (by simpa using h)
      simp [boolv, this]
    · exact ⟨k + 1, ⟨⟨hlt, take_eq_succ hs hlt hlt2 (by simpa using h)⟩, by omega⟩, le_mk [] rfl ⟨⟨rfl, rfl⟩, ⟨rfl, rfl⟩, ⟨ctr (by omega), rfl⟩, trivial⟩ trivial rfl⟩
  · have hk : l.length ≤ k := by simpa using h
    conv => whnf
    refine leaf_i rfl rfl ?_
    have : l = m := take_eq_all hs hk hlen.symm
    simp [boolv, this]
theorem eqReq (x y : XReq) : PureC Tryz.prog 113 [x.v, y.v] [boolv (decide (x = y))] := by
  refine pureC_of (Γ := lookT tbl) (il := ilist) tg dr Tryz.func113 rfl (by kernel_rfl) rfl (Nat.le_of_ble_eq_true rfl) ?_
  (repeat' ((conv => whnf); first | refine br_i (fun _ => ?_) (fun _ => ?_) | (refine cur_leaf rfl rfl rfl ?_ ?_; · first | assumption | omega | exact hw ‹_›) | refine leaf_i rfl rfl ?_ | refine And.intro rfl ?_ | refine call_i (eqIntS x.Words y.Words) ?_ | (refine Or.inl ?_; (conv => whnf); refine call_i (eqIntS x.Words y.Words) ?_) | refine call_i (eqBoolS x.Bits y.Bits) ?_ | (refine Or.inl ?_; (conv => whnf); refine call_i (eqBoolS x.Bits y.Bits) ?_) | (refine And.intro ?_ ?_; · decide)))
  all_goals (cases x; cases y; (refine bool_leaf ?_; first | (simp_all []; done) | (simp_all []; omega)))
theorem eqPart (x y : XPart) : PureC Tryz.prog 130 [x.v, y.v] [boolv (decide (x = y))] := by
  refine pureC_of (Γ := lookT tbl) (il := ilist) tg dr Tryz.func130 rfl (by kernel_rfl) rfl (Nat.le_of_ble_eq_true rfl) ?_
  (repeat' ((conv => whnf); first | refine br_i (fun _ => ?_) (fun _ => ?_) | (refine cur_leaf rfl rfl rfl ?_ ?_; · first | assumption | omega | exact hw ‹_›) | refine leaf_i rfl rfl ?_ | refine And.intro rfl ?_ | refine call_i (eqReq x.Req y.Req) ?_ | (refine Or.inl ?_; (conv => whnf); refine call_i (eqReq x.Req y.Req) ?_) | (refine And.intro ?_ ?_; · decide)))
  all_goals (cases x; cases y; (refine bool_leaf ?_; first | (simp_all []; done) | (simp_all []; omega)))
theorem eqPartS (l m : List XPart) : PureC Tryz.prog 114 [XPart.sV l, XPart.sV m] [boolv (decide (l = m))] := by
  refine pureC_fit ⟨_, Tryz.func114, by kernel_rfl, rfl⟩ fun hf => ?_
  have hl : l.length ≤ 9223372036854775807 := fits_len (hf (XPart.sV l) (by simp))
  refine pureC_of (Γ := lookT tbl) (il := ilist) tg dr Tryz.func114 rfl (by kernel_rfl) rfl (Nat.le_of_ble_eq_true rfl) ?_
  conv => whnf
  refine br_i (fun h => ?_) (fun h => ?_) <;> conv => whnf
  · refine leaf_i rfl rfl ?_
    have : l ≠ m := fun e => by subst e; simp at h
    simp [boolv, this]
  have hlen : l.length = m.length := by simp at h; omega
  refine loop_i (fun k : Nat => ⟨envL [(0, .c (.pv (XPart.sP l))), (1, .c (.pv (XPart.sP m))), (5, .c (.pv (.int .i64 k)))], resL [], 0, 27⟩) (fun k => k ≤ l.length ∧ l.take k = m.take k) (fun k => l.length - k) 0 ⟨Nat.zero_le _, rfl⟩ (le_mk [] rfl ⟨⟨rfl, rfl⟩, ⟨rfl, rfl⟩, ⟨rfl, rfl⟩, trivial⟩ trivial rfl) ?_
  intro k ⟨hk, hs⟩
  conv => whnf
  refine br_i (fun h => ?_) (fun h => ?_)
  · have hlt : k < l.length := by simpa using h
    have hlt2 : k < m.length := by omega
    conv => whnf
    refine ⟨_, idx_map l XPart.ps k hlt 8, ?_⟩
    conv => whnf
    refine ⟨_, idx_map m XPart.ps k hlt2 8, ?_⟩
    conv => whnf
    refine call_i (eqPart l[k] m[k]) ?_
    conv => whnf
    try refine And.intro rfl ?_
    conv => whnf
    refine br_i (fun h => ?_) (fun h => ?_) <;> conv => whnf
    · refine leaf_i rfl rfl ?_
      have : l ≠ m := ne_of_get hlt hlt2 (by simpa using h)
      simp [boolv, this]
    · exact ⟨k + 1, ⟨⟨hlt, take_eq_succ hs hlt hlt2 (by simpa using h)⟩, by omega⟩, le_mk [] rfl ⟨⟨rfl, rfl⟩, ⟨rfl, rfl⟩, ⟨ctr (by omega), rfl⟩, trivial⟩ trivial rfl⟩
  · have hk : l.length ≤ k := by simpa using h
    conv => whnf
    refine leaf_i rfl rfl ?_
    have : l = m := take_eq_all hs hk hlen.symm
    simp [boolv, this]
theorem eqResp (x y : XResp) : PureC Tryz.prog 131 [x.v, y.v] [boolv (decide (x = y))] := by
  refine pureC_of (Γ := lookT tbl) (il := ilist) tg dr Tryz.func131 rfl (by kernel_rfl) rfl (Nat.le_of_ble_eq_true rfl) ?_
  (repeat' ((conv => whnf); first | refine br_i (fun _ => ?_) (fun _ => ?_) | (refine cur_leaf rfl rfl rfl ?_ ?_; · first | assumption | omega | exact hw ‹_›) | refine leaf_i rfl rfl ?_ | refine And.intro rfl ?_ | refine call_i (eqIntS x.Words y.Words) ?_ | (refine Or.inl ?_; (conv => whnf); refine call_i (eqIntS x.Words y.Words) ?_) | refine call_i (eqBoolS x.Bits y.Bits) ?_ | (refine Or.inl ?_; (conv => whnf); refine call_i (eqBoolS x.Bits y.Bits) ?_) | (refine And.intro ?_ ?_; · decide)))
  all_goals (cases x; cases y; (refine bool_leaf ?_; first | (simp_all []; done) | (simp_all []; omega)))
theorem eqRespS (l m : List XResp) : PureC Tryz.prog 116 [XResp.sV l, XResp.sV m] [boolv (decide (l = m))] := by
  refine pureC_fit ⟨_, Tryz.func116, by kernel_rfl, rfl⟩ fun hf => ?_
  have hl : l.length ≤ 9223372036854775807 := fits_len (hf (XResp.sV l) (by simp))
  refine pureC_of (Γ := lookT tbl) (il := ilist) tg dr Tryz.func116 rfl (by kernel_rfl) rfl (Nat.le_of_ble_eq_true rfl) ?_
  conv => whnf
  refine br_i (fun h => ?_) (fun h => ?_) <;> conv => whnf
  · refine leaf_i rfl rfl ?_
    have : l ≠ m := fun e => by subst e; simp at h
    simp [boolv, this]
  have hlen : l.length = m.length := by simp at h; omega
  refine loop_i (fun k : Nat => ⟨envL [(0, .c (.pv (XResp.sP l))), (1, .c (.pv (XResp.sP m))), (5, .c (.pv (.int .i64 k)))], resL [], 0, 27⟩) (fun k => k ≤ l.length ∧ l.take k = m.take k) (fun k => l.length - k) 0 ⟨Nat.zero_le _, rfl⟩ (le_mk [] rfl ⟨⟨rfl, rfl⟩, ⟨rfl, rfl⟩, ⟨rfl, rfl⟩, trivial⟩ trivial rfl) ?_
  intro k ⟨hk, hs⟩
  conv => whnf
  refine br_i (fun h => ?_) (fun h => ?_)
  · have hlt : k < l.length := by simpa using h
    have hlt2 : k < m.length := by omega
    conv => whnf
    refine ⟨_, idx_map l XResp.ps k hlt 6, ?_⟩
    conv => whnf
    refine ⟨_, idx_map m XResp.ps k hlt2 6, ?_⟩
    conv => whnf
    refine call_i (eqResp l[k] m[k]) ?_
    conv => whnf
    try refine And.intro rfl ?_
    conv => whnf
    refine br_i (fun h => ?_) (fun h => ?_) <;> conv => whnf
    · refine leaf_i rfl rfl ?_
      have : l ≠ m := ne_of_get hlt hlt2 (by simpa using h)
      simp [boolv, this]
    · exact ⟨k + 1, ⟨⟨hlt, take_eq_succ hs hlt hlt2 (by simpa using h)⟩, by omega⟩, le_mk [] rfl ⟨⟨rfl, rfl⟩, ⟨rfl, rfl⟩, ⟨ctr (by omega), rfl⟩, trivial⟩ trivial rfl⟩
  · have hk : l.length ≤ k := by simpa using h
    conv => whnf
    refine leaf_i rfl rfl ?_
    have : l = m := take_eq_all hs hk hlen.symm
    simp [boolv, this]
theorem eqPend (x y : XPend) : PureC Tryz.prog 89 [x.v, y.v] [boolv (decide (x = y))] := by
  refine pureC_of (Γ := lookT tbl) (il := ilist) tg dr Tryz.func89 rfl (by kernel_rfl) rfl (Nat.le_of_ble_eq_true rfl) ?_
  (repeat' ((conv => whnf); first | refine br_i (fun _ => ?_) (fun _ => ?_) | (refine cur_leaf rfl rfl rfl ?_ ?_; · first | assumption | omega | exact hw ‹_›) | refine leaf_i rfl rfl ?_ | refine And.intro rfl ?_ | refine call_i (eqReq x.Req y.Req) ?_ | (refine Or.inl ?_; (conv => whnf); refine call_i (eqReq x.Req y.Req) ?_) | refine call_i (eqPartS x.Parts y.Parts) ?_ | (refine Or.inl ?_; (conv => whnf); refine call_i (eqPartS x.Parts y.Parts) ?_) | refine call_i (eqBoolS x.Has y.Has) ?_ | (refine Or.inl ?_; (conv => whnf); refine call_i (eqBoolS x.Has y.Has) ?_) | refine call_i (eqRespS x.Told y.Told) ?_ | (refine Or.inl ?_; (conv => whnf); refine call_i (eqRespS x.Told y.Told) ?_) | (refine And.intro ?_ ?_; · decide)))
  all_goals (cases x; cases y; (refine bool_leaf ?_; first | (simp_all []; done) | (simp_all []; omega)))
theorem eqPendS (l m : List XPend) : PureC Tryz.prog 60 [XPend.sV l, XPend.sV m] [boolv (decide (l = m))] := by
  refine pureC_fit ⟨_, Tryz.func60, by kernel_rfl, rfl⟩ fun hf => ?_
  have hl : l.length ≤ 9223372036854775807 := fits_len (hf (XPend.sV l) (by simp))
  refine pureC_of (Γ := lookT tbl) (il := ilist) tg dr Tryz.func60 rfl (by kernel_rfl) rfl (Nat.le_of_ble_eq_true rfl) ?_
  conv => whnf
  refine br_i (fun h => ?_) (fun h => ?_) <;> conv => whnf
  · refine leaf_i rfl rfl ?_
    have : l ≠ m := fun e => by subst e; simp at h
    simp [boolv, this]
  have hlen : l.length = m.length := by simp at h; omega
  refine loop_i (fun k : Nat => ⟨envL [(0, .c (.pv (XPend.sP l))), (1, .c (.pv (XPend.sP m))), (5, .c (.pv (.int .i64 k)))], resL [], 0, 27⟩) (fun k => k ≤ l.length ∧ l.take k = m.take k) (fun k => l.length - k) 0 ⟨Nat.zero_le _, rfl⟩ (le_mk [] rfl ⟨⟨rfl, rfl⟩, ⟨rfl, rfl⟩, ⟨rfl, rfl⟩, trivial⟩ trivial rfl) ?_
  intro k ⟨hk, hs⟩
  conv => whnf
  refine br_i (fun h => ?_) (fun h => ?_)
  · have hlt : k < l.length := by simpa using h
    have hlt2 : k < m.length := by omega
    conv => whnf
    refine ⟨_, idx_map l XPend.ps k hlt 13, ?_⟩
    conv => whnf
    refine ⟨_, idx_map m XPend.ps k hlt2 13, ?_⟩
    conv => whnf
    refine call_i (eqPend l[k] m[k]) ?_
    conv => whnf
    try refine And.intro rfl ?_
    conv => whnf
    refine br_i (fun h => ?_) (fun h => ?_) <;> conv => whnf
    · refine leaf_i rfl rfl ?_
      have : l ≠ m := ne_of_get hlt hlt2 (by simpa using h)
      simp [boolv, this]
    · exact ⟨k + 1, ⟨⟨hlt, take_eq_succ hs hlt hlt2 (by simpa using h)⟩, by omega⟩, le_mk [] rfl ⟨⟨rfl, rfl⟩, ⟨rfl, rfl⟩, ⟨ctr (by omega), rfl⟩, trivial⟩ trivial rfl⟩
  · have hk : l.length ≤ k := by simpa using h
    conv => whnf
    refine leaf_i rfl rfl ?_
    have : l = m := take_eq_all hs hk hlen.symm
    simp [boolv, this]
theorem eqTable (x y : XTable) : PureC Tryz.prog 33 [x.v, y.v] [boolv (decide (x = y))] := by
  refine pureC_of (Γ := lookT tbl) (il := ilist) tg dr Tryz.func33 rfl (by kernel_rfl) rfl (Nat.le_of_ble_eq_true rfl) ?_
  (repeat' ((conv => whnf); first | refine br_i (fun _ => ?_) (fun _ => ?_) | (refine cur_leaf rfl rfl rfl ?_ ?_; · first | assumption | omega | exact hw ‹_›) | refine leaf_i rfl rfl ?_ | refine And.intro rfl ?_ | refine call_i (eqPendS x.List_ y.List_) ?_ | (refine Or.inl ?_; (conv => whnf); refine call_i (eqPendS x.List_ y.List_) ?_) | (refine And.intro ?_ ?_; · decide)))
  all_goals (cases x; cases y; (refine bool_leaf ?_; first | (simp_all []; done) | (simp_all []; omega)))
theorem eqCall (x y : XCall) : PureC Tryz.prog 91 [x.v, y.v] [boolv (decide (x = y))] := by
  refine pureC_of (Γ := lookT tbl) (il := ilist) tg dr Tryz.func91 rfl (by kernel_rfl) rfl (Nat.le_of_ble_eq_true rfl) ?_
  (repeat' ((conv => whnf); first | refine br_i (fun _ => ?_) (fun _ => ?_) | (refine cur_leaf rfl rfl rfl ?_ ?_; · first | assumption | omega | exact hw ‹_›) | refine leaf_i rfl rfl ?_ | refine And.intro rfl ?_ | refine call_i (eqReq x.Req y.Req) ?_ | (refine Or.inl ?_; (conv => whnf); refine call_i (eqReq x.Req y.Req) ?_) | (refine And.intro ?_ ?_; · decide)))
  all_goals (cases x; cases y; (refine bool_leaf ?_; first | (simp_all []; done) | (simp_all []; omega)))
theorem eqCallS (l m : List XCall) : PureC Tryz.prog 90 [XCall.sV l, XCall.sV m] [boolv (decide (l = m))] := by
  refine pureC_fit ⟨_, Tryz.func90, by kernel_rfl, rfl⟩ fun hf => ?_
  have hl : l.length ≤ 9223372036854775807 := fits_len (hf (XCall.sV l) (by simp))
  refine pureC_of (Γ := lookT tbl) (il := ilist) tg dr Tryz.func90 rfl (by kernel_rfl) rfl (Nat.le_of_ble_eq_true rfl) ?_
  conv => whnf
  refine br_i (fun h => ?_) (fun h => ?_) <;> conv => whnf
  · refine leaf_i rfl rfl ?_
    have : l ≠ m := fun e => by subst e; simp at h
    simp [boolv, this]
  have hlen : l.length = m.length := by simp at h; omega
  refine loop_i (fun k : Nat => ⟨envL [(0, .c (.pv (XCall.sP l))), (1, .c (.pv (XCall.sP m))), (5, .c (.pv (.int .i64 k)))], resL [], 0, 27⟩) (fun k => k ≤ l.length ∧ l.take k = m.take k) (fun k => l.length - k) 0 ⟨Nat.zero_le _, rfl⟩ (le_mk [] rfl ⟨⟨rfl, rfl⟩, ⟨rfl, rfl⟩, ⟨rfl, rfl⟩, trivial⟩ trivial rfl) ?_
  intro k ⟨hk, hs⟩
  conv => whnf
  refine br_i (fun h => ?_) (fun h => ?_)
  · have hlt : k < l.length := by simpa using h
    have hlt2 : k < m.length := by omega
    conv => whnf
    refine ⟨_, idx_map l XCall.ps k hlt 9, ?_⟩
    conv => whnf
    refine ⟨_, idx_map m XCall.ps k hlt2 9, ?_⟩
    conv => whnf
    refine call_i (eqCall l[k] m[k]) ?_
    conv => whnf
    try refine And.intro rfl ?_
    conv => whnf
    refine br_i (fun h => ?_) (fun h => ?_) <;> conv => whnf
    · refine leaf_i rfl rfl ?_
      have : l ≠ m := ne_of_get hlt hlt2 (by simpa using h)
      simp [boolv, this]
    · exact ⟨k + 1, ⟨⟨hlt, take_eq_succ hs hlt hlt2 (by simpa using h)⟩, by omega⟩, le_mk [] rfl ⟨⟨rfl, rfl⟩, ⟨rfl, rfl⟩, ⟨ctr (by omega), rfl⟩, trivial⟩ trivial rfl⟩
  · have hk : l.length ≤ k := by simpa using h
    conv => whnf
    refine leaf_i rfl rfl ?_
    have : l = m := take_eq_all hs hk hlen.symm
    simp [boolv, this]
theorem eqLine (x y : XLine) : PureC Tryz.prog 61 [x.v, y.v] [boolv (decide (x = y))] := by
  refine pureC_of (Γ := lookT tbl) (il := ilist) tg dr Tryz.func61 rfl (by kernel_rfl) rfl (Nat.le_of_ble_eq_true rfl) ?_
  (repeat' ((conv => whnf); first | refine br_i (fun _ => ?_) (fun _ => ?_) | (refine cur_leaf rfl rfl rfl ?_ ?_; · first | assumption | omega | exact hw ‹_›) | refine leaf_i rfl rfl ?_ | refine And.intro rfl ?_ | refine call_i (eqCallS x.Queue y.Queue) ?_ | (refine Or.inl ?_; (conv => whnf); refine call_i (eqCallS x.Queue y.Queue) ?_) | refine call_i (eqCall x.Call y.Call) ?_ | (refine Or.inl ?_; (conv => whnf); refine call_i (eqCall x.Call y.Call) ?_) | (refine And.intro ?_ ?_; · decide)))
  all_goals (cases x; cases y; (refine bool_leaf ?_; first | (simp_all []; done) | (simp_all []; omega)))
theorem eqLineS (l m : List XLine) : PureC Tryz.prog 34 [XLine.sV l, XLine.sV m] [boolv (decide (l = m))] := by
  refine pureC_fit ⟨_, Tryz.func34, by kernel_rfl, rfl⟩ fun hf => ?_
  have hl : l.length ≤ 9223372036854775807 := fits_len (hf (XLine.sV l) (by simp))
  refine pureC_of (Γ := lookT tbl) (il := ilist) tg dr Tryz.func34 rfl (by kernel_rfl) rfl (Nat.le_of_ble_eq_true rfl) ?_
  conv => whnf
  refine br_i (fun h => ?_) (fun h => ?_) <;> conv => whnf
  · refine leaf_i rfl rfl ?_
    have : l ≠ m := fun e => by subst e; simp at h
    simp [boolv, this]
  have hlen : l.length = m.length := by simp at h; omega
  refine loop_i (fun k : Nat => ⟨envL [(0, .c (.pv (XLine.sP l))), (1, .c (.pv (XLine.sP m))), (5, .c (.pv (.int .i64 k)))], resL [], 0, 27⟩) (fun k => k ≤ l.length ∧ l.take k = m.take k) (fun k => l.length - k) 0 ⟨Nat.zero_le _, rfl⟩ (le_mk [] rfl ⟨⟨rfl, rfl⟩, ⟨rfl, rfl⟩, ⟨rfl, rfl⟩, trivial⟩ trivial rfl) ?_
  intro k ⟨hk, hs⟩
  conv => whnf
  refine br_i (fun h => ?_) (fun h => ?_)
  · have hlt : k < l.length := by simpa using h
    have hlt2 : k < m.length := by omega
    conv => whnf
    refine ⟨_, idx_map l XLine.ps k hlt 17, ?_⟩
    conv => whnf
    refine ⟨_, idx_map m XLine.ps k hlt2 17, ?_⟩
    conv => whnf
    refine call_i (eqLine l[k] m[k]) ?_
    conv => whnf
    try refine And.intro rfl ?_
    conv => whnf
    refine br_i (fun h => ?_) (fun h => ?_) <;> conv => whnf
    · refine leaf_i rfl rfl ?_
      have : l ≠ m := ne_of_get hlt hlt2 (by simpa using h)
      simp [boolv, this]
    · exact ⟨k + 1, ⟨⟨hlt, take_eq_succ hs hlt hlt2 (by simpa using h)⟩, by omega⟩, le_mk [] rfl ⟨⟨rfl, rfl⟩, ⟨rfl, rfl⟩, ⟨ctr (by omega), rfl⟩, trivial⟩ trivial rfl⟩
  · have hk : l.length ≤ k := by simpa using h
    conv => whnf
    refine leaf_i rfl rfl ?_
    have : l = m := take_eq_all hs hk hlen.symm
    simp [boolv, this]
theorem eqFabric (x y : XFabric) : PureC Tryz.prog 8 [x.v, y.v] [boolv (decide (x = y))] := by
  refine pureC_of (Γ := lookT tbl) (il := ilist) tg dr Tryz.func8 rfl (by kernel_rfl) rfl (Nat.le_of_ble_eq_true rfl) ?_
  (repeat' ((conv => whnf); first | refine br_i (fun _ => ?_) (fun _ => ?_) | (refine cur_leaf rfl rfl rfl ?_ ?_; · first | assumption | omega | exact hw ‹_›) | refine leaf_i rfl rfl ?_ | refine And.intro rfl ?_ | refine call_i (eqConfig x.Set y.Set) ?_ | (refine Or.inl ?_; (conv => whnf); refine call_i (eqConfig x.Set y.Set) ?_) | refine call_i (eqTable x.Open y.Open) ?_ | (refine Or.inl ?_; (conv => whnf); refine call_i (eqTable x.Open y.Open) ?_) | refine call_i (eqLineS x.Lines y.Lines) ?_ | (refine Or.inl ?_; (conv => whnf); refine call_i (eqLineS x.Lines y.Lines) ?_) | (refine And.intro ?_ ?_; · decide)))
  all_goals (cases x; cases y; (refine bool_leaf ?_; first | (simp_all []; done) | (simp_all []; omega)))
end Go.Proofs.YtknlfechpcimkaaGreat
