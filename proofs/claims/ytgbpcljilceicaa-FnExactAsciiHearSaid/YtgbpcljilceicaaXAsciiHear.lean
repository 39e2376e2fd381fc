/- AsciiHear: both packages' functions, and the law. -/
import Derived.Test.YtgbpcljilceicaaXAscii
namespace Go.Proofs.Ytgbpcljilceicaa
open Go Go.Vi
set_option linter.unusedVariables false
set_option linter.unusedSimpArgs false
set_option maxRecDepth 100000
def asciiOk (a : XAscii) : Bool := inB a.Wait 1 1000 && decide ((a.Buf.length : Int) ≤ 600) && tickB a.Last && (a.Open == decide ((a.Buf.length : Int) > 0)) && (!a.Open || decide (bAt a.Buf 0 = 58))
theorem s_AsciiOk (a : XAscii) : PureC Try.prog 66 [a.v] [boolv (asciiOk a)] := by
  refine pureC_of (Γ := lookT tbl) (il := ilist) tg dr Try.func66 rfl (by kernel_rfl) rfl (Nat.le_of_ble_eq_true rfl) ?_
  have ix : 0 < a.Buf.length → (0 ≤ (0 : Int) ∧ (a.Buf.map byteEl)[(0 : Int).toNat]? = some (byteEl (bAt a.Buf 0))) ∧ 1 = 1 := fun h => idx_b a.Buf 0 (by omega)
  (repeat' ((conv => whnf); first | refine br_i (fun _ => ?_) (fun _ => ?_) | refine leaf_i rfl rfl ?_ | refine And.intro rfl ?_ | refine call_i (s_in _ _ _) ?_ | refine Or.inl (call_i (s_in _ _ _) ?_) | refine call_i (s_tick _) ?_ | refine Or.inl (call_i (s_tick _) ?_) | (refine ⟨_, ix (by clear ix; simp_all <;> omega), ?_⟩) | (refine And.intro ?_ ?_; · decide)))
  all_goals clear ix
  all_goals (refine bool_leaf ?_; first | (simp_all [asciiOk, tickB]; done) | (simp_all [asciiOk, tickB]; omega))
theorem m_AsciiOk (a : XAscii) : PureC Try.prog 73 [a.v] [boolv (asciiOk a)] := by
  refine pureC_of (Γ := lookT tbl) (il := ilist) tg dr Try.func73 rfl (by kernel_rfl) rfl (Nat.le_of_ble_eq_true rfl) ?_
  have ix : 0 < a.Buf.length → (0 ≤ (0 : Int) ∧ (a.Buf.map byteEl)[(0 : Int).toNat]? = some (byteEl (bAt a.Buf 0))) ∧ 1 = 1 := fun h => idx_b a.Buf 0 (by omega)
  (repeat' ((conv => whnf); first | refine br_i (fun _ => ?_) (fun _ => ?_) | refine leaf_i rfl rfl ?_ | refine And.intro rfl ?_ | refine call_i (m_in _ _ _) ?_ | refine Or.inl (call_i (m_in _ _ _) ?_) | refine call_i (m_tick _) ?_ | refine Or.inl (call_i (m_tick _) ?_) | (refine ⟨_, ix (by clear ix; simp_all <;> omega), ?_⟩) | (refine And.intro ?_ ?_; · decide)))
  all_goals clear ix
  all_goals (refine bool_leaf ?_; first | (simp_all [asciiOk, tickB]; done) | (simp_all [asciiOk, tickB]; omega))
def gotA (l : List Int) : XGot := ⟨(getAscii l).2.2, (getAscii l).1, (getAscii l).2.1⟩
def asciiHear (a : XAscii) (b t : Int) : XAscii × List XGot :=
  if !asciiOk a || !tickB t then (a, []) else
  if a.Open && decide (tickGap a.Last t ≥ a.Wait) then (if b = 58 then (⟨[b], true, t, a.Wait⟩, [⟨5, 0, []⟩]) else (⟨[], false, t, a.Wait⟩, [⟨5, 0, []⟩])) else
  if b = 58 then (⟨[b], true, t, a.Wait⟩, if a.Open then [⟨4, 0, []⟩] else []) else
  if a.Open then (if (a.Buf.length : Int) = 600 then (⟨[], false, t, a.Wait⟩, [⟨2, 0, []⟩]) else if b = 10 then (⟨[], false, t, a.Wait⟩, [gotA (a.Buf ++ [b])]) else (⟨a.Buf ++ [b], true, t, a.Wait⟩, [])) else (⟨[], false, t, a.Wait⟩, [])
theorem app_buf (B : List Int) (b : Int) (h : B.length ≤ 1048576) : ((B.map byteEl).length + 1) * 1 ≤ 140737488355328 ∧ (B ++ [b]).map byteEl = B.map byteEl ++ [[PV.int .u8 b]] := by
  refine ⟨by rw [List.length_map]; omega, by rw [List.map_append]; rfl⟩
theorem app_all (B : List Int) (h : B.length ≤ 1048576) : (0 + (B.map byteEl).length) * 1 ≤ 140737488355328 := by rw [List.length_map]; omega
theorem ah_fin {a : XAscii} {b t : Int} (X : XAscii) (G : List XGot) (h : asciiHear a b t = (X, G)) : [X.v, XGot.sV G] = [(asciiHear a b t).1.v, XGot.sV (asciiHear a b t).2] := by rw [h]
theorem ok_len {B : List Int} {O : Bool} {L W : Int} : asciiOk ⟨B, O, L, W⟩ = true → (B.length : Int) ≤ 600 := by
  intro h
  simp [asciiOk] at h
  omega
theorem closed_nil {x : Int} {B : List Int} {L W : Int} : asciiOk ⟨x :: B, false, L, W⟩ = false := by simp [asciiOk]
theorem isBytes_snoc {B : List Int} {b : Int} (hb : isBytes B) (hb2 : 0 ≤ b ∧ b < 256) : isBytes (B ++ [b]) := by
  intro x hx
  rcases List.mem_append.1 hx with hx | hx
  · exact hb x hx
  · simp at hx; omega
theorem s_AsciiHear (a : XAscii) (b t : Int) (hb : isBytes a.Buf) (hb2 : 0 ≤ b ∧ b < 256) (h : a.Buf.length ≤ 1048576) : PureC Try.prog 51 [a.v, .one (.int .u8 b), i64v t] [(asciiHear a b t).1.v, XGot.sV (asciiHear a b t).2] := by
  refine pureC_of (Γ := lookT tbl) (il := ilist) tg dr Try.func51 rfl (by kernel_rfl) rfl (Nat.le_of_ble_eq_true rfl) ?_
  obtain ⟨B, O, L, W⟩ := a
  dsimp only at hb h
  have hg := s_GetAscii (B ++ [b]) (isBytes_snoc hb hb2) (by rw [List.length_append]; simp; omega)
  have hA := app_buf B b (by omega)
  have hB := app_all B (by omega)
  have hO := s_AsciiOk ⟨B, O, L, W⟩
  cases O with
  | false =>
    (repeat' ((conv => whnf); first | refine br_i (fun _ => ?_) (fun _ => ?_) | refine leaf_i rfl rfl ?_ | refine And.intro rfl ?_ | refine call_i (hO) ?_ | refine Or.inl (call_i (hO) ?_) | refine call_i (s_tick _) ?_ | refine Or.inl (call_i (s_tick _) ?_) | refine call_i (s_TickGap _ _) ?_ | refine Or.inl (call_i (s_TickGap _ _) ?_) | (refine ⟨⟨rfl, flat_byte [b]⟩, ?_⟩) | (refine ⟨⟨rfl, flat_byte B⟩, ?_⟩) | (refine ⟨_, hA, ?_⟩) | (refine ⟨_, ⟨hB, rfl⟩, ?_⟩) | (refine ⟨rfl, ?_⟩) | (refine ⟨_, ⟨Nat.le_of_ble_eq_true rfl, rfl⟩, ?_⟩) | (refine And.intro ?_ ?_; · decide)))
    all_goals clear hA hB hg hO
    all_goals try dsimp only
    all_goals first | (refine ah_fin ⟨B, false, L, W⟩ [] ?_; (first | (simp_all [asciiHear, tickB]; done) | (simp_all [asciiHear, tickB]; intro hh; omega) | (simp_all [asciiHear, tickB]; rw [if_neg (by omega), if_neg (by omega)]) | (have h7 := hle (by simp_all); clear hle; simp at *; simp_all [asciiHear, tickB]; rw [if_neg (by omega), if_pos (by omega)]) | (by_cases h6 : (B.length : Int) = 600 <;> first | (simp_all [asciiHear, tickB]; done) | (exfalso; simp_all; done) | (exfalso; simp_all; omega)))) | (refine ah_fin ⟨[b], true, t, W⟩ [] ?_; (first | (simp_all [asciiHear, tickB]; done) | (simp_all [asciiHear, tickB]; intro hh; omega) | (simp_all [asciiHear, tickB]; rw [if_neg (by omega), if_neg (by omega)]) | (have h7 := hle (by simp_all); clear hle; simp at *; simp_all [asciiHear, tickB]; rw [if_neg (by omega), if_pos (by omega)]) | (by_cases h6 : (B.length : Int) = 600 <;> first | (simp_all [asciiHear, tickB]; done) | (exfalso; simp_all; done) | (exfalso; simp_all; omega)))) | (refine ah_fin ⟨[], false, t, W⟩ [] ?_; (first | (simp_all [asciiHear, tickB]; done) | (simp_all [asciiHear, tickB]; intro hh; omega) | (simp_all [asciiHear, tickB]; rw [if_neg (by omega), if_neg (by omega)]) | (have h7 := hle (by simp_all); clear hle; simp at *; simp_all [asciiHear, tickB]; rw [if_neg (by omega), if_pos (by omega)]) | (by_cases h6 : (B.length : Int) = 600 <;> first | (simp_all [asciiHear, tickB]; done) | (exfalso; simp_all; done) | (exfalso; simp_all; omega))))
  | true =>
    have hle := ok_len (B := B) (O := true) (L := L) (W := W)
    (repeat' ((conv => whnf); first | refine br_i (fun _ => ?_) (fun _ => ?_) | refine leaf_i rfl rfl ?_ | refine And.intro rfl ?_ | refine call_i (hO) ?_ | refine Or.inl (call_i (hO) ?_) | refine call_i (s_tick _) ?_ | refine Or.inl (call_i (s_tick _) ?_) | refine call_i (s_TickGap _ _) ?_ | refine Or.inl (call_i (s_TickGap _ _) ?_) | refine call_i (hg) ?_ | refine Or.inl (call_i (hg) ?_) | (refine ⟨⟨rfl, flat_byte [b]⟩, ?_⟩) | (refine ⟨⟨rfl, flat_byte B⟩, ?_⟩) | (refine ⟨_, hA, ?_⟩) | (refine ⟨_, ⟨hB, rfl⟩, ?_⟩) | (refine ⟨rfl, ?_⟩) | (refine ⟨_, ⟨Nat.le_of_ble_eq_true rfl, rfl⟩, ?_⟩) | (refine And.intro ?_ ?_; · decide)))
    all_goals clear hA hB hg hO
    all_goals try dsimp only
    all_goals first | (refine ah_fin ⟨B, true, L, W⟩ [] ?_; (first | (simp_all [asciiHear, tickB]; done) | (simp_all [asciiHear, tickB]; intro hh; omega) | (simp_all [asciiHear, tickB]; rw [if_neg (by omega), if_neg (by omega)]) | (have h7 := hle (by simp_all); clear hle; simp at *; simp_all [asciiHear, tickB]; rw [if_neg (by omega), if_pos (by omega)]) | (by_cases h6 : (B.length : Int) = 600 <;> first | (simp_all [asciiHear, tickB]; done) | (exfalso; simp_all; done) | (exfalso; simp_all; omega)))) | (refine ah_fin ⟨[b], true, t, W⟩ [⟨5, 0, []⟩] ?_; (first | (simp_all [asciiHear, tickB]; done) | (simp_all [asciiHear, tickB]; intro hh; omega) | (simp_all [asciiHear, tickB]; rw [if_neg (by omega), if_neg (by omega)]) | (have h7 := hle (by simp_all); clear hle; simp at *; simp_all [asciiHear, tickB]; rw [if_neg (by omega), if_pos (by omega)]) | (by_cases h6 : (B.length : Int) = 600 <;> first | (simp_all [asciiHear, tickB]; done) | (exfalso; simp_all; done) | (exfalso; simp_all; omega)))) | (refine ah_fin ⟨[], false, t, W⟩ [⟨5, 0, []⟩] ?_; (first | (simp_all [asciiHear, tickB]; done) | (simp_all [asciiHear, tickB]; intro hh; omega) | (simp_all [asciiHear, tickB]; rw [if_neg (by omega), if_neg (by omega)]) | (have h7 := hle (by simp_all); clear hle; simp at *; simp_all [asciiHear, tickB]; rw [if_neg (by omega), if_pos (by omega)]) | (by_cases h6 : (B.length : Int) = 600 <;> first | (simp_all [asciiHear, tickB]; done) | (exfalso; simp_all; done) | (exfalso; simp_all; omega)))) | (refine ah_fin ⟨[b], true, t, W⟩ [⟨4, 0, []⟩] ?_; (first | (simp_all [asciiHear, tickB]; done) | (simp_all [asciiHear, tickB]; intro hh; omega) | (simp_all [asciiHear, tickB]; rw [if_neg (by omega), if_neg (by omega)]) | (have h7 := hle (by simp_all); clear hle; simp at *; simp_all [asciiHear, tickB]; rw [if_neg (by omega), if_pos (by omega)]) | (by_cases h6 : (B.length : Int) = 600 <;> first | (simp_all [asciiHear, tickB]; done) | (exfalso; simp_all; done) | (exfalso; simp_all; omega)))) | (refine ah_fin ⟨[], false, t, W⟩ [⟨2, 0, []⟩] ?_; (first | (simp_all [asciiHear, tickB]; done) | (simp_all [asciiHear, tickB]; intro hh; omega) | (simp_all [asciiHear, tickB]; rw [if_neg (by omega), if_neg (by omega)]) | (have h7 := hle (by simp_all); clear hle; simp at *; simp_all [asciiHear, tickB]; rw [if_neg (by omega), if_pos (by omega)]) | (by_cases h6 : (B.length : Int) = 600 <;> first | (simp_all [asciiHear, tickB]; done) | (exfalso; simp_all; done) | (exfalso; simp_all; omega)))) | (refine ah_fin ⟨[], false, t, W⟩ [gotA (B ++ [b])] ?_; (first | (simp_all [asciiHear, tickB]; done) | (simp_all [asciiHear, tickB]; intro hh; omega) | (simp_all [asciiHear, tickB]; rw [if_neg (by omega), if_neg (by omega)]) | (have h7 := hle (by simp_all); clear hle; simp at *; simp_all [asciiHear, tickB]; rw [if_neg (by omega), if_pos (by omega)]) | (by_cases h6 : (B.length : Int) = 600 <;> first | (simp_all [asciiHear, tickB]; done) | (exfalso; simp_all; done) | (exfalso; simp_all; omega)))) | (refine ah_fin ⟨B ++ [b], true, t, W⟩ [] ?_; (first | (simp_all [asciiHear, tickB]; done) | (simp_all [asciiHear, tickB]; intro hh; omega) | (simp_all [asciiHear, tickB]; rw [if_neg (by omega), if_neg (by omega)]) | (have h7 := hle (by simp_all); clear hle; simp at *; simp_all [asciiHear, tickB]; rw [if_neg (by omega), if_pos (by omega)]) | (by_cases h6 : (B.length : Int) = 600 <;> first | (simp_all [asciiHear, tickB]; done) | (exfalso; simp_all; done) | (exfalso; simp_all; omega))))
theorem m_AsciiHear (a : XAscii) (b t : Int) (hb : isBytes a.Buf) (hb2 : 0 ≤ b ∧ b < 256) (h : a.Buf.length ≤ 1048576) : PureC Try.prog 53 [a.v, .one (.int .u8 b), i64v t] [(asciiHear a b t).1.v, XGot.sV (asciiHear a b t).2] := by
  refine pureC_of (Γ := lookT tbl) (il := ilist) tg dr Try.func53 rfl (by kernel_rfl) rfl (Nat.le_of_ble_eq_true rfl) ?_
  obtain ⟨B, O, L, W⟩ := a
  dsimp only at hb h
  have hg := m_GetAscii (B ++ [b]) (isBytes_snoc hb hb2) (by rw [List.length_append]; simp; omega)
  have hA := app_buf B b (by omega)
  have hB := app_all B (by omega)
  have hO := m_AsciiOk ⟨B, O, L, W⟩
  cases O with
  | false =>
    cases B with
    | nil =>
      (repeat' ((conv => whnf); first | refine br_i (fun _ => ?_) (fun _ => ?_) | refine leaf_i rfl rfl ?_ | refine And.intro rfl ?_ | refine call_i (hO) ?_ | refine Or.inl (call_i (hO) ?_) | refine call_i (m_tick _) ?_ | refine Or.inl (call_i (m_tick _) ?_) | refine call_i (m_TickGap _ _) ?_ | refine Or.inl (call_i (m_TickGap _ _) ?_) | (refine ⟨⟨rfl, flat_byte [b]⟩, ?_⟩) | (refine ⟨⟨rfl, flat_byte B⟩, ?_⟩) | (refine ⟨_, hA, ?_⟩) | (refine ⟨_, ⟨hB, rfl⟩, ?_⟩) | (refine ⟨rfl, ?_⟩) | (refine ⟨_, ⟨Nat.le_of_ble_eq_true rfl, rfl⟩, ?_⟩) | refine call_i (m_Clone [] (by decide)) ?_ | refine Or.inl (call_i (m_Clone [] (by decide)) ?_) | (refine And.intro ?_ ?_; · decide)))
      all_goals clear hA hB hg hO
      all_goals try dsimp only
      all_goals first | (refine ah_fin ⟨[], false, L, W⟩ [] ?_; (first | (simp_all [asciiHear, tickB]; done) | (simp_all [asciiHear, tickB]; intro hh; omega) | (simp_all [asciiHear, tickB]; rw [if_neg (by omega), if_neg (by omega)]) | (have h7 := hle (by simp_all); clear hle; simp at *; simp_all [asciiHear, tickB]; rw [if_neg (by omega), if_pos (by omega)]) | (by_cases h6 : (B.length : Int) = 600 <;> first | (simp_all [asciiHear, tickB]; done) | (exfalso; simp_all; done) | (exfalso; simp_all; omega)))) | (refine ah_fin ⟨[b], true, t, W⟩ [] ?_; (first | (simp_all [asciiHear, tickB]; done) | (simp_all [asciiHear, tickB]; intro hh; omega) | (simp_all [asciiHear, tickB]; rw [if_neg (by omega), if_neg (by omega)]) | (have h7 := hle (by simp_all); clear hle; simp at *; simp_all [asciiHear, tickB]; rw [if_neg (by omega), if_pos (by omega)]) | (by_cases h6 : (B.length : Int) = 600 <;> first | (simp_all [asciiHear, tickB]; done) | (exfalso; simp_all; done) | (exfalso; simp_all; omega)))) | (refine ah_fin ⟨[], false, t, W⟩ [] ?_; (first | (simp_all [asciiHear, tickB]; done) | (simp_all [asciiHear, tickB]; intro hh; omega) | (simp_all [asciiHear, tickB]; rw [if_neg (by omega), if_neg (by omega)]) | (have h7 := hle (by simp_all); clear hle; simp at *; simp_all [asciiHear, tickB]; rw [if_neg (by omega), if_pos (by omega)]) | (by_cases h6 : (B.length : Int) = 600 <;> first | (simp_all [asciiHear, tickB]; done) | (exfalso; simp_all; done) | (exfalso; simp_all; omega))))
    | cons x B =>
      rw [closed_nil] at hO
      (repeat' ((conv => whnf); first | refine br_i (fun _ => ?_) (fun _ => ?_) | refine leaf_i rfl rfl ?_ | refine And.intro rfl ?_ | refine call_i (hO) ?_ | refine Or.inl (call_i (hO) ?_) | refine call_i (m_tick _) ?_ | refine Or.inl (call_i (m_tick _) ?_) | refine call_i (m_TickGap _ _) ?_ | refine Or.inl (call_i (m_TickGap _ _) ?_) | refine call_i (m_Clone (x :: B) (by omega)) ?_ | refine Or.inl (call_i (m_Clone (x :: B) (by omega)) ?_) | (refine ⟨⟨rfl, flat_byte [b]⟩, ?_⟩) | (refine ⟨⟨rfl, flat_byte (x :: B)⟩, ?_⟩) | (refine ⟨_, hA, ?_⟩) | (refine ⟨_, ⟨hB, rfl⟩, ?_⟩) | (refine ⟨rfl, ?_⟩) | (refine ⟨_, ⟨Nat.le_of_ble_eq_true rfl, rfl⟩, ?_⟩) | (refine And.intro ?_ ?_; · decide)))
      all_goals (refine ah_fin ⟨x :: B, false, L, W⟩ [] ?_; simp [asciiHear, closed_nil])
  | true =>
    have hle := ok_len (B := B) (O := true) (L := L) (W := W)
    (repeat' ((conv => whnf); first | refine br_i (fun _ => ?_) (fun _ => ?_) | refine leaf_i rfl rfl ?_ | refine And.intro rfl ?_ | refine call_i (hO) ?_ | refine Or.inl (call_i (hO) ?_) | refine call_i (m_tick _) ?_ | refine Or.inl (call_i (m_tick _) ?_) | refine call_i (m_TickGap _ _) ?_ | refine Or.inl (call_i (m_TickGap _ _) ?_) | refine call_i (hg) ?_ | refine Or.inl (call_i (hg) ?_) | (refine ⟨⟨rfl, flat_byte [b]⟩, ?_⟩) | (refine ⟨⟨rfl, flat_byte B⟩, ?_⟩) | (refine ⟨_, hA, ?_⟩) | (refine ⟨_, ⟨hB, rfl⟩, ?_⟩) | (refine ⟨rfl, ?_⟩) | (refine ⟨_, ⟨Nat.le_of_ble_eq_true rfl, rfl⟩, ?_⟩) | refine call_i (m_Clone B (by omega)) ?_ | refine Or.inl (call_i (m_Clone B (by omega)) ?_) | (refine inl_of (Γ := lookT tbl) (il := ilist) tg dr Try.func103 rfl (by kernel_rfl) rfl (ts := [139]) (Nat.le_of_ble_eq_true rfl) ?_) | (refine And.intro ?_ ?_; · decide)))
    all_goals clear hA hB hg hO
    all_goals try dsimp only
    all_goals first | (refine ah_fin ⟨B, true, L, W⟩ [] ?_; (first | (simp_all [asciiHear, tickB]; done) | (simp_all [asciiHear, tickB]; intro hh; omega) | (simp_all [asciiHear, tickB]; rw [if_neg (by omega), if_neg (by omega)]) | (have h7 := hle (by simp_all); clear hle; simp at *; simp_all [asciiHear, tickB]; rw [if_neg (by omega), if_pos (by omega)]) | (by_cases h6 : (B.length : Int) = 600 <;> first | (simp_all [asciiHear, tickB]; done) | (exfalso; simp_all; done) | (exfalso; simp_all; omega)))) | (refine ah_fin ⟨[b], true, t, W⟩ [⟨5, 0, []⟩] ?_; (first | (simp_all [asciiHear, tickB]; done) | (simp_all [asciiHear, tickB]; intro hh; omega) | (simp_all [asciiHear, tickB]; rw [if_neg (by omega), if_neg (by omega)]) | (have h7 := hle (by simp_all); clear hle; simp at *; simp_all [asciiHear, tickB]; rw [if_neg (by omega), if_pos (by omega)]) | (by_cases h6 : (B.length : Int) = 600 <;> first | (simp_all [asciiHear, tickB]; done) | (exfalso; simp_all; done) | (exfalso; simp_all; omega)))) | (refine ah_fin ⟨[], false, t, W⟩ [⟨5, 0, []⟩] ?_; (first | (simp_all [asciiHear, tickB]; done) | (simp_all [asciiHear, tickB]; intro hh; omega) | (simp_all [asciiHear, tickB]; rw [if_neg (by omega), if_neg (by omega)]) | (have h7 := hle (by simp_all); clear hle; simp at *; simp_all [asciiHear, tickB]; rw [if_neg (by omega), if_pos (by omega)]) | (by_cases h6 : (B.length : Int) = 600 <;> first | (simp_all [asciiHear, tickB]; done) | (exfalso; simp_all; done) | (exfalso; simp_all; omega)))) | (refine ah_fin ⟨[b], true, t, W⟩ [⟨4, 0, []⟩] ?_; (first | (simp_all [asciiHear, tickB]; done) | (simp_all [asciiHear, tickB]; intro hh; omega) | (simp_all [asciiHear, tickB]; rw [if_neg (by omega), if_neg (by omega)]) | (have h7 := hle (by simp_all); clear hle; simp at *; simp_all [asciiHear, tickB]; rw [if_neg (by omega), if_pos (by omega)]) | (by_cases h6 : (B.length : Int) = 600 <;> first | (simp_all [asciiHear, tickB]; done) | (exfalso; simp_all; done) | (exfalso; simp_all; omega)))) | (refine ah_fin ⟨[], false, t, W⟩ [⟨2, 0, []⟩] ?_; (first | (simp_all [asciiHear, tickB]; done) | (simp_all [asciiHear, tickB]; intro hh; omega) | (simp_all [asciiHear, tickB]; rw [if_neg (by omega), if_neg (by omega)]) | (have h7 := hle (by simp_all); clear hle; simp at *; simp_all [asciiHear, tickB]; rw [if_neg (by omega), if_pos (by omega)]) | (by_cases h6 : (B.length : Int) = 600 <;> first | (simp_all [asciiHear, tickB]; done) | (exfalso; simp_all; done) | (exfalso; simp_all; omega)))) | (refine ah_fin ⟨[], false, t, W⟩ [gotA (B ++ [b])] ?_; (first | (simp_all [asciiHear, tickB]; done) | (simp_all [asciiHear, tickB]; intro hh; omega) | (simp_all [asciiHear, tickB]; rw [if_neg (by omega), if_neg (by omega)]) | (have h7 := hle (by simp_all); clear hle; simp at *; simp_all [asciiHear, tickB]; rw [if_neg (by omega), if_pos (by omega)]) | (by_cases h6 : (B.length : Int) = 600 <;> first | (simp_all [asciiHear, tickB]; done) | (exfalso; simp_all; done) | (exfalso; simp_all; omega)))) | (refine ah_fin ⟨B ++ [b], true, t, W⟩ [] ?_; (first | (simp_all [asciiHear, tickB]; done) | (simp_all [asciiHear, tickB]; intro hh; omega) | (simp_all [asciiHear, tickB]; rw [if_neg (by omega), if_neg (by omega)]) | (have h7 := hle (by simp_all); clear hle; simp at *; simp_all [asciiHear, tickB]; rw [if_neg (by omega), if_pos (by omega)]) | (by_cases h6 : (B.length : Int) = 600 <;> first | (simp_all [asciiHear, tickB]; done) | (exfalso; simp_all; done) | (exfalso; simp_all; omega))))
theorem gotA_mc (l : List Int) : XGot.mc (gotA l) ≤ l.length + 2 := by
  unfold gotA
  simp only [XGot.mc, getAscii]
  have h1 := hex_len (cutL l 1 ((l.length : Int) - 2))
  have h2 : (cutL l 1 ((l.length : Int) - 2)).length ≤ l.length := by
    unfold cutL
    rw [List.length_drop, List.length_take]
    omega
  generalize (hexOut (cutL l 1 ((l.length : Int) - 2))).1 = p at *
  have h3 : (cutL p 1 ((p.length : Int) - 1)).length ≤ p.length := by
    unfold cutL
    rw [List.length_drop, List.length_take]
    omega
  split
  · simp
  split
  · simp
  split
  · simp
  split
  · simp
  · simp only; omega
theorem hear_sizeA (a : XAscii) (b t : Int) : (asciiHear a b t).1.sc + sumF XGot.mc (asciiHear a b t).2 ≤ a.Buf.length + 10 := by
  have hg := gotA_mc (a.Buf ++ [b])
  rw [List.length_append] at hg
  simp only [List.length_singleton] at hg
  unfold asciiHear
  (repeat' split) <;> simp [XAscii.sc, sumF, XGot.mc] at * <;> (try omega)
theorem law_FnExactAsciiHear (x : XAscii) (hx : x.Ok) (b : Int) (hb0 : (Lit.int .u8 b).wf = true) (t : Int) (_ : (Lit.int .i64 t).wf = true) : PureC Try.prog 9 [x.v, .one (.int .u8 b), i64v t] [boolv true] := by
  refine pureC_deep (Γ := lookT tbl) (il := ilist) tg drD Try.func9 rfl (by kernel_rfl) rfl (Nat.le_of_ble_eq_true rfl) rfl ?_
  conv => whnf
  refine Or.inl ?_
  conv => whnf
  refine call_i (szAscii x 1048576 (by decide) (by decide)) ?_
  conv => whnf
  refine br_i (fun h => ?_) (fun h => ?_)
  · conv => whnf
  have ht : x.tot ≤ 1048576 := by have := sub_nn (dge h); omega
  have hB : x.Buf.length ≤ 1048576 := ht
  clear h
  have hb : isBytes x.Buf := fun q hq => wf_u8 (hx.1 q hq)
  have hs := s_AsciiHear x b t hb (wf_u8 hb0) hB
  have hm := m_AsciiHear x b t hb (wf_u8 hb0) hB
  have e1 : PureC Try.prog 54 [x.v, x.v] [boolv true] := by simpa using eqAscii x x
  have hsz := hear_sizeA x b t
  generalize asciiHear x b t = R at *
  obtain ⟨g, l⟩ := R
  dsimp only at hs hm hsz
  have e3 : PureC Try.prog 54 [g.v, g.v] [boolv true] := by simpa using eqAscii g g
  have e4 : PureC Try.prog 43 [XGot.sV l, XGot.sV l] [boolv true] := by simpa using eqGotS l l
  have hsx : x.sc = x.Buf.length := by simp [XAscii.sc]
  obtain ⟨a1, A1, B1⟩ := mkAscii x 1 (by decide) (by omega)
  obtain ⟨a3, A3, B3⟩ := mkAscii g 1 (by decide) (by omega)
  obtain ⟨a4, A4, B4⟩ := mkGotS l (1 + g.sc) (by omega) (by omega)
  (repeat' ((conv => whnf); first | exact rfl | (refine br_i ?_ ?_; (· (intro h; exfalso; first | (simp at h; done) | (have := dlt h; omega))); intro _) | (refine br_i ?_ ?_; rotate_left; (· (intro h; exfalso; simp at h; done)); intro _) | refine br_i (fun _ => ?_) (fun _ => ?_) | refine And.intro rfl ?_ | (refine Or.inl ?_; (conv => whnf); refine call_i (hs) ?_) | (refine Or.inl ?_; (conv => whnf); refine call_i (hm) ?_) | (refine Or.inl ?_; (conv => whnf); refine call_i (toAscii x ht) ?_) | (refine Or.inl ?_; (conv => whnf); refine call_i (e1) ?_) | (refine Or.inl ?_; (conv => whnf); refine call_i (e3) ?_) | (refine Or.inl ?_; (conv => whnf); refine call_i (e4) ?_) | refine mark_i A1 rfl ?_ | refine mark_i A3 rfl ?_ | refine mark_i A4 rfl ?_ | (refine Or.inl ?_; (conv => whnf); refine call_i (B3) ?_) | (refine Or.inl ?_; (conv => whnf); refine call_i (B4) ?_) | (refine And.intro ?_ ?_; · decide)); all_goals (try (conv => whnf)))

end Go.Proofs.Ytgbpcljilceicaa
