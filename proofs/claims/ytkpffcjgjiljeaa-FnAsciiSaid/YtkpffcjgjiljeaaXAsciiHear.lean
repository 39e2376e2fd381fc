/- AsciiHear: both packages' functions, and the law. -/
import Derived.Test.YtkpffcjgjiljeaaXAscii
namespace Go.Proofs.Ytkpffcjgjiljeaa
open Go Go.Vi
set_option linter.unusedVariables false
set_option linter.unusedSimpArgs false
set_option maxRecDepth 100000
def asciiOk (a : XAscii) : Bool := inB a.Wait 1 1000 && decide ((a.Buf.length : Int) ≤ 600) && tickB a.Last && (a.Open == decide ((a.Buf.length : Int) > 0)) && (!a.Open || decide (bAt a.Buf 0 = 58))
theorem m_AsciiOk (a : XAscii) : PureC Try.prog 33 [a.v] [boolv (asciiOk a)] := by
  refine pureC_of (Γ := lookT tbl) (il := ilist) tg dr Try.func33 rfl (by kernel_rfl) rfl (Nat.le_of_ble_eq_true rfl) ?_
  have ix : 0 < a.Buf.length → (0 ≤ (0 : Int) ∧ (a.Buf.map byteEl)[(0 : Int).toNat]? = some (byteEl (bAt a.Buf 0))) ∧ 1 = 1 := fun h => idx_b a.Buf 0 (by omega)
  (repeat' ((conv => whnf); first | refine br_i (fun _ => ?_) (fun _ => ?_) | (refine cur_leaf rfl rfl rfl ?_ ?_; · first | assumption | omega | exact hw ‹_›) | refine leaf_i rfl rfl ?_ | refine And.intro rfl ?_ | refine call_i (m_in _ _ _) ?_ | refine Or.inl (call_i (m_in _ _ _) ?_) | refine call_i (m_tick _) ?_ | refine Or.inl (call_i (m_tick _) ?_) | (refine ⟨_, ix (by clear ix; simp_all <;> omega), ?_⟩) | (refine And.intro ?_ ?_; · decide)))
  all_goals clear ix
  all_goals (refine bool_leaf ?_; first | (simp_all [asciiOk, tickB]; done) | (simp_all [asciiOk, tickB]; omega))
def gotA (l : List Int) : XGot := ⟨(getAscii l).2.2, (getAscii l).1, (getAscii l).2.1⟩
def asciiHear (a : XAscii) (b t : Int) : XAscii × List XGot :=
  if !asciiOk a || !tickB t then (a, []) else
  if a.Open && decide (tickGap a.Last t ≥ a.Wait) then (if b = 58 then (⟨[b], true, t, a.Wait⟩, [⟨5, 0, []⟩]) else (⟨[], false, t, a.Wait⟩, [⟨5, 0, []⟩])) else
  if b = 58 then (⟨[b], true, t, a.Wait⟩, if a.Open then [⟨4, 0, []⟩] else []) else
  if a.Open then (if (a.Buf.length : Int) = 600 then (⟨[], false, t, a.Wait⟩, [⟨2, 0, []⟩]) else if b = 10 then (⟨[], false, t, a.Wait⟩, [gotA (a.Buf ++ [b])]) else (⟨a.Buf ++ [b], true, t, a.Wait⟩, [])) else (⟨[], false, t, a.Wait⟩, [])
theorem app_buf (B : List Int) (b : Int) (h : B.length ≤ 1048576) : ((B.map byteEl).length + 1) * 1 ≤ 140737488355328 ∧ (B ++ [b]).map byteEl = B.map byteEl ++ [[PV.int .u8 b]] := by
  refine ⟨by rw [List.length_map]; omega, by rw [List.map_append]; rfl⟩
theorem app_all (B : List Int) (h : B.length ≤ 1048576) : (0 + (B.map byteEl).length) * 1 ≤ 140737488355328 := by rw [List.length_map]; omega
theorem ah_fin {a : XAscii} {b t : Int} (X : XAscii) (G : List XGot) (h : asciiHear a b t = (X, G)) : [X.v, XGot.sV G] = [(asciiHear a b t).1.v, XGot.sV (asciiHear a b t).2] := by rw [h]
theorem ok_len {B : List Int} {O : Bool} {L W : Int} : asciiOk ⟨B, O, L, W⟩ = true → (B.length : Int) ≤ 600 := by
  intro h
  simp [asciiOk] at h
  omega
theorem closed_nil {x : Int} {B : List Int} {L W : Int} : asciiOk ⟨x :: B, false, L, W⟩ = false := by simp [asciiOk]
theorem isBytes_snoc {B : List Int} {b : Int} (hb : isBytes B) (hb2 : 0 ≤ b ∧ b < 256) : isBytes (B ++ [b]) := by
  intro x hx
  rcases List.mem_append.1 hx with hx | hx
  · exact hb x hx
  · simp at hx; omega
theorem m_AsciiHear (a : XAscii) (b t : Int) (hb : isBytes a.Buf) (hb2 : 0 ≤ b ∧ b < 256) (h : a.Buf.length ≤ 1048576) : PureC Try.prog 32 [a.v, .one (.int .u8 b), i64v t] [(asciiHear a b t).1.v, XGot.sV (asciiHear a b t).2] := by
  refine pureC_of (Γ := lookT tbl) (il := ilist) tg dr Try.func32 rfl (by kernel_rfl) rfl (Nat.le_of_ble_eq_true rfl) ?_
  obtain ⟨B, O, L, W⟩ := a
  dsimp only at hb h
  have hg := m_GetAscii (B ++ [b]) (isBytes_snoc hb hb2) (by rw [List.length_append]; simp; omega)
  have hA := app_buf B b (by omega)
  have hB := app_all B (by omega)
  have hO := m_AsciiOk ⟨B, O, L, W⟩
  cases O with
  | false =>
    cases B with
    | nil =>
      (repeat' ((conv => whnf); first | refine br_i (fun _ => ?_) (fun _ => ?_) | (refine cur_leaf rfl rfl rfl ?_ ?_; · first | assumption | omega | exact hw ‹_›) | refine leaf_i rfl rfl ?_ | refine And.intro rfl ?_ | refine call_i (hO) ?_ | refine Or.inl (call_i (hO) ?_) | refine call_i (m_tick _) ?_ | refine Or.inl (call_i (m_tick _) ?_) | refine call_i (m_TickGap _ _) ?_ | refine Or.inl (call_i (m_TickGap _ _) ?_) | (refine ⟨⟨rfl, flat_byte [b]⟩, ?_⟩) | (refine ⟨⟨rfl, flat_byte B⟩, ?_⟩) | (refine ⟨_, hA, ?_⟩) | (refine ⟨_, ⟨hB, rfl⟩, ?_⟩) | (refine ⟨rfl, ?_⟩) | (refine ⟨_, ⟨Nat.le_of_ble_eq_true rfl, rfl⟩, ?_⟩) | refine call_i (m_Clone [] (by decide)) ?_ | refine Or.inl (call_i (m_Clone [] (by decide)) ?_) | (refine And.intro ?_ ?_; · decide)))
      all_goals clear hA hB hg hO
      all_goals try dsimp only
      all_goals first | (refine ah_fin ⟨[], false, L, W⟩ [] ?_; (first | (simp_all [asciiHear, tickB]; done) | (simp_all [asciiHear, tickB]; intro hh; omega) | (simp_all [asciiHear, tickB]; rw [if_neg (by omega), if_neg (by omega)]) | (have h7 := hle (by simp_all); clear hle; simp at *; simp_all [asciiHear, tickB]; rw [if_neg (by omega), if_pos (by omega)]) | (by_cases h6 : (B.length : Int) = 600 <;> first | (simp_all [asciiHear, tickB]; done) | (exfalso; simp_all; done) | (exfalso; simp_all; omega)))) | (refine ah_fin ⟨[b], true, t, W⟩ [] ?_; (first | (simp_all [asciiHear, tickB]; done) | (simp_all [asciiHear, tickB]; intro hh; omega) | (simp_all [asciiHear, tickB]; rw [if_neg (by omega), if_neg (by omega)]) | (have h7 := hle (by simp_all); clear hle; simp at *; simp_all [asciiHear, tickB]; rw [if_neg (by omega), if_pos (by omega)]) | (by_cases h6 : (B.length : Int) = 600 <;> first | (simp_all [asciiHear, tickB]; done) | (exfalso; simp_all; done) | (exfalso; simp_all; omega)))) | (refine ah_fin ⟨[], false, t, W⟩ [] ?_; (first | (simp_all [asciiHear, tickB]; done) | (simp_all [asciiHear, tickB]; intro hh; omega) | (simp_all [asciiHear, tickB]; rw [if_neg (by omega), if_neg (by omega)]) | (have h7 := hle (by simp_all); clear hle; simp at *; simp_all [asciiHear, tickB]; rw [if_neg (by omega), if_pos (by omega)]) | (by_cases h6 : (B.length : Int) = 600 <;> first | (simp_all [asciiHear, tickB]; done) | (exfalso; simp_all; done) | (exfalso; simp_all; omega))))
    | cons x B =>
      rw [closed_nil] at hO
      (repeat' ((conv => whnf); first | refine br_i (fun _ => ?_) (fun _ => ?_) | (refine cur_leaf rfl rfl rfl ?_ ?_; · first | assumption | omega | exact hw ‹_›) | refine leaf_i rfl rfl ?_ | refine And.intro rfl ?_ | refine call_i (hO) ?_ | refine Or.inl (call_i (hO) ?_) | refine call_i (m_tick _) ?_ | refine Or.inl (call_i (m_tick _) ?_) | refine call_i (m_TickGap _ _) ?_ | refine Or.inl (call_i (m_TickGap _ _) ?_) | refine call_i (m_Clone (x :: B) (by omega)) ?_ | refine Or.inl (call_i (m_Clone (x :: B) (by omega)) ?_) | (refine ⟨⟨rfl, flat_byte [b]⟩, ?_⟩) | (refine ⟨⟨rfl, flat_byte (x :: B)⟩, ?_⟩) | (refine ⟨_, hA, ?_⟩) | (refine ⟨_, ⟨hB, rfl⟩, ?_⟩) | (refine ⟨rfl, ?_⟩) | (refine ⟨_, ⟨Nat.le_of_ble_eq_true rfl, rfl⟩, ?_⟩) | (refine And.intro ?_ ?_; · decide)))
      all_goals (refine ah_fin ⟨x :: B, false, L, W⟩ [] ?_; simp [asciiHear, closed_nil])
  | true =>
    have hle := ok_len (B := B) (O := true) (L := L) (W := W)
    (repeat' ((conv => whnf); first | refine br_i (fun _ => ?_) (fun _ => ?_) | (refine cur_leaf rfl rfl rfl ?_ ?_; · first | assumption | omega | exact hw ‹_›) | refine leaf_i rfl rfl ?_ | refine And.intro rfl ?_ | refine call_i (hO) ?_ | refine Or.inl (call_i (hO) ?_) | refine call_i (m_tick _) ?_ | refine Or.inl (call_i (m_tick _) ?_) | refine call_i (m_TickGap _ _) ?_ | refine Or.inl (call_i (m_TickGap _ _) ?_) | refine call_i (hg) ?_ | refine Or.inl (call_i (hg) ?_) | (refine ⟨⟨rfl, flat_byte [b]⟩, ?_⟩) | (refine ⟨⟨rfl, flat_byte B⟩, ?_⟩) | (refine ⟨_, hA, ?_⟩) | (refine ⟨_, ⟨hB, rfl⟩, ?_⟩) | (refine ⟨rfl, ?_⟩) | (refine ⟨_, ⟨Nat.le_of_ble_eq_true rfl, rfl⟩, ?_⟩) | refine call_i (m_Clone B (by omega)) ?_ | refine Or.inl (call_i (m_Clone B (by omega)) ?_) | (refine inl_of (Γ := lookT tbl) (il := ilist) tg dr Try.func62 rfl (by kernel_rfl) rfl (ts := [97]) (Nat.le_of_ble_eq_true rfl) ?_) | (refine And.intro ?_ ?_; · decide)))
    all_goals clear hA hB hg hO
    all_goals try dsimp only
    all_goals first | (refine ah_fin ⟨B, true, L, W⟩ [] ?_; (first | (simp_all [asciiHear, tickB]; done) | (simp_all [asciiHear, tickB]; intro hh; omega) | (simp_all [asciiHear, tickB]; rw [if_neg (by omega), if_neg (by omega)]) | (have h7 := hle (by simp_all); clear hle; simp at *; simp_all [asciiHear, tickB]; rw [if_neg (by omega), if_pos (by omega)]) | (by_cases h6 : (B.length : Int) = 600 <;> first | (simp_all [asciiHear, tickB]; done) | (exfalso; simp_all; done) | (exfalso; simp_all; omega)))) | (refine ah_fin ⟨[b], true, t, W⟩ [⟨5, 0, []⟩] ?_; (first | (simp_all [asciiHear, tickB]; done) | (simp_all [asciiHear, tickB]; intro hh; omega) | (simp_all [asciiHear, tickB]; rw [if_neg (by omega), if_neg (by omega)]) | (have h7 := hle (by simp_all); clear hle; simp at *; simp_all [asciiHear, tickB]; rw [if_neg (by omega), if_pos (by omega)]) | (by_cases h6 : (B.length : Int) = 600 <;> first | (simp_all [asciiHear, tickB]; done) | (exfalso; simp_all; done) | (exfalso; simp_all; omega)))) | (refine ah_fin ⟨[], false, t, W⟩ [⟨5, 0, []⟩] ?_; (first | (simp_all [asciiHear, tickB]; done) | (simp_all [asciiHear, tickB]; intro hh; omega) | (simp_all [asciiHear, tickB]; rw [if_neg (by omega), if_neg (by omega)]) | (have h7 := hle (by simp_all); clear hle; simp at *; simp_all [asciiHear, tickB]; rw [if_neg (by omega), if_pos (by omega)]) | (by_cases h6 : (B.length : Int) = 600 <;> first | (simp_all [asciiHear, tickB]; done) | (exfalso; simp_all; done) | (exfalso; simp_all; omega)))) | (refine ah_fin ⟨[b], true, t, W⟩ [⟨4, 0, []⟩] ?_; (first | (simp_all [asciiHear, tickB]; done) | (simp_all [asciiHear, tickB]; intro hh; omega) | (simp_all [asciiHear, tickB]; rw [if_neg (by omega), if_neg (by omega)]) | (have h7 := hle (by simp_all); clear hle; simp at *; simp_all [asciiHear, tickB]; rw [if_neg (by omega), if_pos (by omega)]) | (by_cases h6 : (B.length : Int) = 600 <;> first | (simp_all [asciiHear, tickB]; done) | (exfalso; simp_all; done) | (exfalso; simp_all; omega)))) | (refine ah_fin ⟨[], false, t, W⟩ [⟨2, 0, []⟩] ?_; (first | (simp_all [asciiHear, tickB]; done) | (simp_all [asciiHear, tickB]; intro hh; omega) | (simp_all [asciiHear, tickB]; rw [if_neg (by omega), if_neg (by omega)]) | (have h7 := hle (by simp_all); clear hle; simp at *; simp_all [asciiHear, tickB]; rw [if_neg (by omega), if_pos (by omega)]) | (by_cases h6 : (B.length : Int) = 600 <;> first | (simp_all [asciiHear, tickB]; done) | (exfalso; simp_all; done) | (exfalso; simp_all; omega)))) | (refine ah_fin ⟨[], false, t, W⟩ [gotA (B ++ [b])] ?_; (first | (simp_all [asciiHear, tickB]; done) | (simp_all [asciiHear, tickB]; intro hh; omega) | (simp_all [asciiHear, tickB]; rw [if_neg (by omega), if_neg (by omega)]) | (have h7 := hle (by simp_all); clear hle; simp at *; simp_all [asciiHear, tickB]; rw [if_neg (by omega), if_pos (by omega)]) | (by_cases h6 : (B.length : Int) = 600 <;> first | (simp_all [asciiHear, tickB]; done) | (exfalso; simp_all; done) | (exfalso; simp_all; omega)))) | (refine ah_fin ⟨B ++ [b], true, t, W⟩ [] ?_; (first | (simp_all [asciiHear, tickB]; done) | (simp_all [asciiHear, tickB]; intro hh; omega) | (simp_all [asciiHear, tickB]; rw [if_neg (by omega), if_neg (by omega)]) | (have h7 := hle (by simp_all); clear hle; simp at *; simp_all [asciiHear, tickB]; rw [if_neg (by omega), if_pos (by omega)]) | (by_cases h6 : (B.length : Int) = 600 <;> first | (simp_all [asciiHear, tickB]; done) | (exfalso; simp_all; done) | (exfalso; simp_all; omega))))
end Go.Proofs.Ytkpffcjgjiljeaa
