/- AsciiHear: both packages' functions, and the law. -/
import Derived.Test.YtjjfjeoajhdlcaaXAscii
namespace Go.Proofs.Ytjjfjeoajhdlcaa
open Go Go.Vi
set_option linter.unusedVariables false
set_option linter.unusedSimpArgs false
set_option maxRecDepth 100000
def asciiOk (a : XAscii) : Bool := inB a.Wait 1 1000 && decide ((a.Buf.length : Int) ≤ 600) && tickB a.Last && (a.Open == decide ((a.Buf.length : Int) > 0)) && (!a.Open || decide (bAt a.Buf 0 = 58))
theorem s_AsciiOk (a : XAscii) : PureC Try.prog 21 [a.v] [boolv (asciiOk a)] := by
  refine pureC_of (Γ := lookT tbl) (il := ilist) tg dr Try.func21 rfl (by kernel_rfl) rfl (Nat.le_of_ble_eq_true rfl) ?_
  have ix : 0 < a.Buf.length → (0 ≤ (0 : Int) ∧ (a.Buf.map byteEl)[(0 : Int).toNat]? = some (byteEl (bAt a.Buf 0))) ∧ 1 = 1 := fun h => idx_b a.Buf 0 (by omega)
  (repeat' ((conv => whnf); first | refine br_i (fun _ => ?_) (fun _ => ?_) | (refine cur_leaf rfl rfl rfl ?_ ?_; · first | assumption | omega | (simp_all; done)) | refine leaf_i rfl rfl ?_ | refine And.intro rfl ?_ | refine call_i (s_in _ _ _) ?_ | refine Or.inl (call_i (s_in _ _ _) ?_) | refine call_i (s_tick _) ?_ | refine Or.inl (call_i (s_tick _) ?_) | (refine ⟨_, ix (by clear ix; simp_all <;> omega), ?_⟩) | (refine And.intro ?_ ?_; · decide)))
  all_goals clear ix
  all_goals (refine bool_leaf ?_; first | (simp_all [asciiOk, tickB]; done) | (simp_all [asciiOk, tickB]; omega))
theorem m_AsciiOk (a : XAscii) : PureC Try.prog 23 [a.v] [boolv (asciiOk a)] := by
  refine pureC_of (Γ := lookT tbl) (il := ilist) tg dr Try.func23 rfl (by kernel_rfl) rfl (Nat.le_of_ble_eq_true rfl) ?_
  have ix : 0 < a.Buf.length → (0 ≤ (0 : Int) ∧ (a.Buf.map byteEl)[(0 : Int).toNat]? = some (byteEl (bAt a.Buf 0))) ∧ 1 = 1 := fun h => idx_b a.Buf 0 (by omega)
  (repeat' ((conv => whnf); first | refine br_i (fun _ => ?_) (fun _ => ?_) | (refine cur_leaf rfl rfl rfl ?_ ?_; · first | assumption | omega | (simp_all; done)) | refine leaf_i rfl rfl ?_ | refine And.intro rfl ?_ | refine call_i (m_in _ _ _) ?_ | refine Or.inl (call_i (m_in _ _ _) ?_) | refine call_i (m_tick _) ?_ | refine Or.inl (call_i (m_tick _) ?_) | (refine ⟨_, ix (by clear ix; simp_all <;> omega), ?_⟩) | (refine And.intro ?_ ?_; · decide)))
  all_goals clear ix
  all_goals (refine bool_leaf ?_; first | (simp_all [asciiOk, tickB]; done) | (simp_all [asciiOk, tickB]; omega))
theorem app_buf (B : List Int) (b : Int) (h : B.length ≤ 1048576) : ((B.map byteEl).length + 1) * 1 ≤ 140737488355328 ∧ (B ++ [b]).map byteEl = B.map byteEl ++ [[PV.int .u8 b]] := by
  refine ⟨by rw [List.length_map]; omega, by rw [List.map_append]; rfl⟩
theorem app_all (B : List Int) (h : B.length ≤ 1048576) : (0 + (B.map byteEl).length) * 1 ≤ 140737488355328 := by rw [List.length_map]; omega
theorem ok_len {B : List Int} {O : Bool} {L W : Int} : asciiOk ⟨B, O, L, W⟩ = true → (B.length : Int) ≤ 600 := by
  intro h
  simp [asciiOk] at h
  omega
theorem closed_nil {x : Int} {B : List Int} {L W : Int} : asciiOk ⟨x :: B, false, L, W⟩ = false := by simp [asciiOk]
theorem isBytes_snoc {B : List Int} {b : Int} (hb : isBytes B) (hb2 : 0 ≤ b ∧ b < 256) : isBytes (B ++ [b]) := by
  intro x hx
  rcases List.mem_append.1 hx with hx | hx
  · exact hb x hx
  · simp at hx; omega
end Go.Proofs.Ytjjfjeoajhdlcaa
