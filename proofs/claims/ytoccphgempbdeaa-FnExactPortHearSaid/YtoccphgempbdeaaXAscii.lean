/- Digits: bytes of two digits each, their check, frames of digits. -/
import Derived.Test.YtoccphgempbdeaaXRtuHear
namespace Go.Proofs.Ytoccphgempbdeaa
open Go Go.Vi
set_option linter.unusedVariables false
set_option linter.unusedSimpArgs false
set_option maxRecDepth 100000
def digit (b : Int) : Int := if 48 ≤ b ∧ b ≤ 57 then b - 48 else if 65 ≤ b ∧ b ≤ 70 then b - 55 else -1
theorem digit_lt (b : Int) : -1 ≤ digit b ∧ digit b < 16 := by unfold digit; split; omega; split <;> omega
def okAt (l : List Int) (k : Nat) : Bool := decide (0 ≤ digit (bAt l ((2 * k : Nat) : Int))) && decide (0 ≤ digit (bAt l ((2 * k + 1 : Nat) : Int)))
def byteK (l : List Int) (k : Nat) : Int := digit (bAt l ((2 * k : Nat) : Int)) * 16 + digit (bAt l ((2 * k + 1 : Nat) : Int))
def outK (l : List Int) (k : Nat) : List Int := (List.range k).map (byteK l)
def hexB (l : List Int) : Bool := decide (l.length % 2 = 0) && (List.range (l.length / 2)).all (okAt l)
def hexOut (l : List Int) : List Int × Bool := if hexB l then (outK l (l.length / 2), true) else ([], false)
theorem outK_succ (l : List Int) (k : Nat) : (outK l (k + 1)).map byteEl = (outK l k).map byteEl ++ [byteEl (byteK l k)] := by simp [outK, List.range_succ]
theorem outK_len (l : List Int) (k : Nat) : (outK l k).length = k := by simp [outK]
theorem hexB_bad {l : List Int} {k : Nat} (h : 2 * k + 1 < l.length) (hk : okAt l k = false) : hexB l = false := by
  have : (List.range (l.length / 2)).all (okAt l) = false := by
    rw [List.all_eq_false]
    exact ⟨k, List.mem_range.2 (by omega), by simp [hk]⟩
  simp [hexB, this]
theorem hexB_all {l : List Int} {k : Nat} (h : l.length / 2 ≤ k) (hk : ∀ i, i < k → okAt l i = true) : hexB l = decide (l.length % 2 = 0) := by
  have : (List.range (l.length / 2)).all (okAt l) = true := by
    rw [List.all_eq_true]
    intro i hi
    exact hk i (by have := List.mem_range.1 hi; omega)
  simp [hexB, this]
theorem hex_no {l : List Int} (h : hexB l = false) : hexOut l = ([], false) := by simp [hexOut, h]
theorem hex_yes {l : List Int} (h : hexB l = true) : hexOut l = (outK l (l.length / 2), true) := by simp [hexOut, h]
theorem idx_s (l : List Int) (hb : isBytes l) (i : Int) (h : 0 ≤ i ∧ i < l.length) : (0 ≤ i ∧ i < ((strOfNums l).size : Int)) ∧ (strOfNums l).data.toList[i.toNat]?.map (fun b => (b.toNat : Int)) = some (bAt l i) := by
  refine ⟨⟨h.1, by rw [strOfNums_size]; exact h.2⟩, ?_⟩
  have h2 : i.toNat < l.length := by omega
  have h3 := hb l[i.toNat] (List.getElem_mem _)
  rw [strOfNums_data, List.getElem?_map, List.getElem?_eq_getElem h2]
  simp only [Option.map_some, bAt, List.getD, List.getElem?_eq_getElem h2, Option.getD_some]
  congr 1
  rw [UInt8.toNat_ofNat']
  omega
theorem bAt_b {l : List Int} (hb : isBytes l) {i : Int} (h : 0 ≤ i ∧ i < l.length) : 0 ≤ bAt l i ∧ bAt l i < 256 := by
  have h2 : i.toNat < l.length := by omega
  have := hb l[i.toNat] (List.getElem_mem _)
  simpa [bAt, List.getD, List.getElem?_eq_getElem h2] using this
theorem u8_ok {n : Int} (h0 : 0 ≤ n) (h1 : n < 256) : IntKind.u8.wrap n = n := by
  simp only [IntKind.wrap, IntKind.signed, IntKind.bits]
  simp
  omega
theorem digit_a {b : Int} (h : 48 ≤ b ∧ b ≤ 57) : digit b = b - 48 := by simp [digit, h]
theorem digit_b {b : Int} (h : 65 ≤ b ∧ b ≤ 70) : digit b = b - 55 := by unfold digit; rw [if_neg (by omega), if_pos h]
theorem digit_c {b : Int} (h : ¬ (48 ≤ b ∧ b ≤ 57)) (h2 : ¬ (65 ≤ b ∧ b ≤ 70)) : digit b = -1 := by simp [digit, h, h2]
theorem s_digit (b : Int) (hb : 0 ≤ b ∧ b < 256) : PureC Try.prog 109 [.one (.int .u8 b)] [i64v (digit b)] := by
  refine pureC_of (Γ := lookT tbl) (il := ilist) tg dr Try.func109 rfl (by kernel_rfl) rfl (Nat.le_of_ble_eq_true rfl) ?_
  have hw : IntKind.i64.wrap b = b := wrap_ok (by omega) (by omega)
  (repeat' ((conv => whnf); first | refine br_i (fun _ => ?_) (fun _ => ?_) | (refine cur_leaf rfl rfl rfl ?_ ?_; · first | assumption | omega | exact hw ‹_›) | refine leaf_i rfl rfl ?_ | refine And.intro rfl ?_ | refine call_i (s_in _ _ _) ?_ | (refine Or.inl ?_; (conv => whnf); refine call_i (s_in _ _ _) ?_) | (refine And.intro ?_ ?_; · decide)))
  · rename_i h
    rw [hw] at h
    have h2 : 48 ≤ b ∧ b ≤ 57 := by simpa [inB] using h
    rw [u8_ok (by omega) (by omega), wrap_ok (by omega) (by omega), digit_a h2]; rfl
  · rename_i h h1
    rw [hw] at h h1
    have h3 : 65 ≤ b ∧ b ≤ 70 := by simpa [inB] using h1
    rw [u8_ok (by omega) (by omega), wrap_ok (x := b - 65) (by omega) (by omega), wrap_ok (by omega) (by omega), digit_b h3, show b - 65 + 10 = b - 55 by omega]; rfl
  · rename_i h h1
    rw [hw] at h h1
    have h2 : ¬ (48 ≤ b ∧ b ≤ 57) := by simpa [inB] using h
    have h3 : ¬ (65 ≤ b ∧ b ≤ 70) := by simpa [inB] using h1
    rw [digit_c h2 h3]; rfl
theorem m_digit (b : Int) (hb : 0 ≤ b ∧ b < 256) : PureC Try.prog 112 [.one (.int .u8 b)] [.one (.int .u8 (if 0 ≤ digit b then digit b else 0)), boolv (decide (0 ≤ digit b))] := by
  refine pureC_of (Γ := lookT tbl) (il := ilist) tg dr Try.func112 rfl (by kernel_rfl) rfl (Nat.le_of_ble_eq_true rfl) ?_
  (repeat' ((conv => whnf); first | refine br_i (fun _ => ?_) (fun _ => ?_) | (refine cur_leaf rfl rfl rfl ?_ ?_; · first | assumption | omega | exact hw ‹_›) | refine leaf_i rfl rfl ?_ | refine And.intro rfl ?_ | (refine And.intro ?_ ?_; · decide)))
  all_goals simp at *
  · rw [digit_a (by omega), if_pos (by omega), u8_ok (by omega) (by omega), decide_eq_true (by omega)]; exact ⟨rfl, rfl⟩
  · rw [digit_b (by omega), if_pos (by omega), u8_ok (n := b - 65) (by omega) (by omega), u8_ok (by omega) (by omega), decide_eq_true (by omega)]; exact ⟨by omega, rfl⟩
  · rw [digit_c (by omega) (by omega)]; exact ⟨fun h => absurd h (by decide), rfl⟩
  · rw [digit_c (by omega) (by omega)]; exact ⟨fun h => absurd h (by decide), rfl⟩
  · rw [digit_b (by omega), if_pos (by omega), u8_ok (n := b - 65) (by omega) (by omega), u8_ok (by omega) (by omega), decide_eq_true (by omega)]; exact ⟨by omega, rfl⟩
  · rw [digit_c (by omega) (by omega)]; exact ⟨fun h => absurd h (by decide), rfl⟩
  · rw [digit_c (by omega) (by omega)]; exact ⟨fun h => absurd h (by decide), rfl⟩
theorem ok_bad1 {l : List Int} {k : Nat} (h : digit (bAt l ((2 * k : Nat) : Int)) < 0) : okAt l k = false := by
  unfold okAt; rw [decide_eq_false (by omega)]; rfl
theorem ok_bad2 {l : List Int} {k : Nat} (h : digit (bAt l ((2 * k + 1 : Nat) : Int)) < 0) : okAt l k = false := by
  unfold okAt; rw [decide_eq_false (p := 0 ≤ digit (bAt l ((2 * k + 1 : Nat) : Int))) (by omega), Bool.and_false]
theorem ok_next {l : List Int} {k : Nat} (hs : ∀ i, i < k → okAt l i = true) (h1 : 0 ≤ digit (bAt l ((2 * k : Nat) : Int))) (h2 : 0 ≤ digit (bAt l ((2 * k + 1 : Nat) : Int))) : ∀ i, i < k + 1 → okAt l i = true := by
  intro i hi
  rcases Nat.lt_or_ge i k with h | h
  · exact hs i h
  · rw [show i = k by omega]; unfold okAt; rw [decide_eq_true h1, decide_eq_true h2]; rfl
theorem app_hex (l : List Int) (k : Nat) (hk : k ≤ 1048577) (v : Int) (hv : v = byteK l k) : (((outK l k).map byteEl).length + 1) * 1 ≤ 140737488355328 ∧ (outK l (k + 1)).map byteEl = (outK l k).map byteEl ++ [[PV.int .u8 v]] := by
  subst hv
  exact ⟨by rw [List.length_map, outK_len]; omega, outK_succ l k⟩
theorem s_UnHex (l : List Int) (hb : isBytes l) (hl : l.length ≤ 1048577) : PureC Try.prog 103 [.one (.str (strOfNums l))] [bytesV (hexOut l).1, boolv (hexOut l).2] := by
  refine pureC_of (Γ := lookT tbl) (il := ilist) tg dr Try.func103 rfl (by kernel_rfl) rfl (Nat.le_of_ble_eq_true rfl) ?_
  conv => whnf
  refine loop_i (fun k : Nat => ⟨envL [(0, .c (.pv (.str (strOfNums l)))), (4, .c (.row 0)), (5, .c (.pv (.int .i64 ((2 * k : Nat) : Int))))], resL [(0, .row true 1 ((outK l k).map byteEl))], 1, 46⟩) (fun k => 2 * k ≤ l.length ∧ ∀ i, i < k → okAt l i = true) (fun k => l.length - k) 0 ⟨Nat.zero_le _, by omega⟩ (le_mk [(0, _)] rfl ⟨⟨rfl, rfl⟩, ⟨rfl, rfl⟩, ⟨rfl, rfl⟩, trivial⟩ ⟨⟨rfl, rfl⟩, trivial⟩ rfl) ?_
  intro k ⟨hk, hs⟩
  have hw1 : IntKind.i64.wrap (((2 * k : Nat) : Int) + 1) = ((2 * k + 1 : Nat) : Int) := (wrap_ok (by omega) (by omega)).trans (by omega)
  have hw2 : IntKind.i64.wrap (((2 * k : Nat) : Int) + 2) = ((2 * (k + 1) : Nat) : Int) := (wrap_ok (by omega) (by omega)).trans (by omega)
  conv => whnf
  refine br_i (fun h => ?_) (fun h => ?_)
  · have hlt : 2 * k + 1 < l.length := by rw [hw1] at h; have := dlt h; rw [strOfNums_size] at this; omega
    clear h
    have i1 := idx_s l hb ((2 * k : Nat) : Int) (by omega)
    have i2 := idx_s l hb ((2 * k + 1 : Nat) : Int) (by omega)
    rw [← hw1] at i2
    have b1 := bAt_b hb (i := ((2 * k : Nat) : Int)) (by omega)
    have b2 := bAt_b hb (i := ((2 * k + 1 : Nat) : Int)) (by omega)
    have d1 := digit_lt (bAt l ((2 * k : Nat) : Int))
    have d2 := digit_lt (bAt l ((2 * k + 1 : Nat) : Int))
    have ib := ok_bad1 (l := l) (k := k)
    have ib2 := ok_bad2 (l := l) (k := k)
    have ig := ok_next hs
    have ia := app_hex l k (by omega)
    unfold byteK at ia
    rw [hw1] at i2
    generalize bAt l ((2 * k : Nat) : Int) = x at *
    generalize bAt l ((2 * k + 1 : Nat) : Int) = y at *
    rw [← hw1] at i2
    have c1 := s_digit x b1
    have c2 := s_digit y b2
    generalize digit x = X at *
    generalize digit y = Y at *
    conv => whnf
    refine ⟨_, i1, ?_⟩
    conv => whnf
    refine call_i c1 ?_
    conv => whnf
    refine ⟨_, i2, ?_⟩
    conv => whnf
    refine call_i c2 ?_
    conv => whnf
    refine br_i (fun hA => ?_) (fun hA => ?_)
    · (repeat' ((conv => whnf); first | refine br_i (fun _ => ?_) (fun _ => ?_) | (refine cur_leaf rfl rfl rfl ?_ ?_; · first | assumption | omega | exact hw ‹_›) | refine leaf_i rfl rfl ?_ | refine And.intro rfl ?_ | (refine And.intro ?_ ?_; · decide)))
      all_goals (rw [hex_no (hexB_bad hlt (ib (dlt hA)))]; rfl)
    conv => whnf
    refine br_i (fun hB => ?_) (fun hB => ?_)
    · (repeat' ((conv => whnf); first | refine br_i (fun _ => ?_) (fun _ => ?_) | (refine cur_leaf rfl rfl rfl ?_ ?_; · first | assumption | omega | exact hw ‹_›) | refine leaf_i rfl rfl ?_ | refine And.intro rfl ?_ | (refine And.intro ?_ ?_; · decide)))
      all_goals (rw [hex_no (hexB_bad hlt (ib2 (dlt hB)))]; rfl)
    have hX := dge hA
    have hY := dge hB
    conv => whnf
    refine ⟨⟨rfl, flat_byte [_]⟩, ?_⟩
    conv => whnf
    refine ⟨_, ia _ (by rw [wrap_ok (x := X * 16) (by omega) (by omega), wrap_ok (by omega) (by omega), u8_ok (by omega) (by omega)]), ?_⟩
    conv => whnf
    exact ⟨k + 1, ⟨⟨by omega, ig hX hY⟩, by omega⟩, le_mk [(0, _)] rfl ⟨⟨rfl, rfl⟩, ⟨rfl, rfl⟩, ⟨i64_eq hw2, rfl⟩, trivial⟩ ⟨⟨rfl, rfl⟩, trivial⟩ rfl⟩
  · have hge : l.length / 2 ≤ k := by rw [hw1] at h; have := dge h; rw [strOfNums_size] at this; omega
    have hK : k = l.length / 2 := by omega
    have hx := hexB_all hge hs
    have hz : ((strOfNums l).size : Int) = (l.length : Int) := by rw [strOfNums_size]
    have hm : Int.tmod (l.length : Int) 2 = ((l.length % 2 : Nat) : Int) := by rw [Int.tmod_eq_emod_of_nonneg (by omega)]; omega
    (repeat' ((conv => whnf); first | refine br_i (fun _ => ?_) (fun _ => ?_) | (refine cur_leaf rfl rfl rfl ?_ ?_; · first | assumption | omega | exact hw ‹_›) | refine leaf_i rfl rfl ?_ | refine And.intro rfl ?_ | (refine And.intro ?_ ?_; · decide)))
    · rename_i h2
      rw [hz, hm] at h2
      rw [hex_no (by rw [hx]; simp at h2; simp; omega)]
      rfl
    · rename_i h2
      rw [hz, hm] at h2
      rw [hex_yes (by rw [hx]; simp at h2; simp; omega), hK]
      rfl
theorem or8 (a b : Int) (ha : 0 ≤ a ∧ a < 16) (hb : 0 ≤ b ∧ b < 16) : IntKind.u8.wrap ((BitVec.ofInt IntKind.u8.bits (IntKind.u8.wrap (a * 2 ^ 4)) ||| BitVec.ofInt IntKind.u8.bits b).toNat : Nat) = a * 16 + b := by
  have key : ∀ x y : Fin 16, IntKind.u8.wrap ((BitVec.ofInt IntKind.u8.bits (IntKind.u8.wrap ((x.val : Int) * 2 ^ 4)) ||| BitVec.ofInt IntKind.u8.bits (y.val : Int)).toNat : Nat) = (x.val : Int) * 16 + (y.val : Int) := by decide
  have h := key ⟨a.toNat, by omega⟩ ⟨b.toNat, by omega⟩
  simp only at h
  rw [show ((a.toNat : Nat) : Int) = a by omega, show ((b.toNat : Nat) : Int) = b by omega] at h
  exact h
theorem m_UnHex (l : List Int) (hb : isBytes l) (hl : l.length ≤ 1048577) : PureC Try.prog 108 [.one (.str (strOfNums l))] [bytesV (hexOut l).1, boolv (hexOut l).2] := by
  refine pureC_of (Γ := lookT tbl) (il := ilist) tg dr Try.func108 rfl (by kernel_rfl) rfl (Nat.le_of_ble_eq_true rfl) ?_
  have hz : ((strOfNums l).size : Int) = (l.length : Int) := by rw [strOfNums_size]
  have hm : Int.tmod (l.length : Int) 2 = ((l.length % 2 : Nat) : Int) := by rw [Int.tmod_eq_emod_of_nonneg (by omega)]; omega
  conv => whnf
  refine And.intro (by decide) ?_
  conv => whnf
  refine br_i (fun h => ?_) (fun h => ?_)
  · rw [hz, hm] at h
    (repeat' ((conv => whnf); first | refine br_i (fun _ => ?_) (fun _ => ?_) | (refine cur_leaf rfl rfl rfl ?_ ?_; · first | assumption | omega | exact hw ‹_›) | refine leaf_i rfl rfl ?_ | refine And.intro rfl ?_ | (refine And.intro ?_ ?_; · decide)))
    all_goals (rw [hex_no (by unfold hexB; rw [decide_eq_false (by simp at h; omega)]; rfl)]; rfl)
  rw [hz, hm] at h
  have hev : l.length % 2 = 0 := by simp at h; omega
  clear h
  conv => whnf
  refine loop_i (fun k : Nat => ⟨envL [(0, .c (.pv (.str (strOfNums l)))), (4, .c (.row 0)), (5, .c (.pv (.int .i64 ((2 * k : Nat) : Int))))], resL [(0, .row true 1 ((outK l k).map byteEl))], 1, 50⟩) (fun k => 2 * k ≤ l.length ∧ ∀ i, i < k → okAt l i = true) (fun k => l.length - k) 0 ⟨Nat.zero_le _, by omega⟩ (le_mk [(0, _)] rfl ⟨⟨rfl, rfl⟩, ⟨rfl, rfl⟩, ⟨rfl, rfl⟩, trivial⟩ ⟨⟨rfl, rfl⟩, trivial⟩ rfl) ?_
  intro k ⟨hk, hs⟩
  have hw1 : IntKind.i64.wrap (((2 * k : Nat) : Int) + 1) = ((2 * k + 1 : Nat) : Int) := (wrap_ok (by omega) (by omega)).trans (by omega)
  have hw2 : IntKind.i64.wrap (((2 * k : Nat) : Int) + 2) = ((2 * (k + 1) : Nat) : Int) := (wrap_ok (by omega) (by omega)).trans (by omega)
  conv => whnf
  refine br_i (fun h => ?_) (fun h => ?_)
  · have hlt : 2 * k + 1 < l.length := by have := dlt h; rw [strOfNums_size] at this; omega
    clear h
    have i1 := idx_s l hb ((2 * k : Nat) : Int) (by omega)
    have i2 := idx_s l hb ((2 * k + 1 : Nat) : Int) (by omega)
    have b1 := bAt_b hb (i := ((2 * k : Nat) : Int)) (by omega)
    have b2 := bAt_b hb (i := ((2 * k + 1 : Nat) : Int)) (by omega)
    have d1 := digit_lt (bAt l ((2 * k : Nat) : Int))
    have d2 := digit_lt (bAt l ((2 * k + 1 : Nat) : Int))
    have ib := ok_bad1 (l := l) (k := k)
    have ib2 := ok_bad2 (l := l) (k := k)
    have ig := ok_next hs
    have ia := app_hex l k (by omega)
    unfold byteK at ia
    generalize bAt l ((2 * k : Nat) : Int) = x at *
    generalize bAt l ((2 * k + 1 : Nat) : Int) = y at *
    rw [← hw1] at i2
    have c1 := m_digit x b1
    have c2 := m_digit y b2
    generalize digit x = X at *
    generalize digit y = Y at *
    conv => whnf
    refine ⟨_, i1, ?_⟩
    conv => whnf
    refine call_i c1 ?_
    conv => whnf
    refine ⟨_, i2, ?_⟩
    conv => whnf
    refine call_i c2 ?_
    conv => whnf
    refine br_i (fun hA => ?_) (fun hA => ?_)
    · (repeat' ((conv => whnf); first | refine br_i (fun _ => ?_) (fun _ => ?_) | (refine cur_leaf rfl rfl rfl ?_ ?_; · first | assumption | omega | exact hw ‹_›) | refine leaf_i rfl rfl ?_ | refine And.intro rfl ?_ | (refine And.intro ?_ ?_; · decide)))
      all_goals (rw [hex_no (hexB_bad hlt (ib (by simp at hA; omega)))]; rfl)
    conv => whnf
    refine br_i (fun hB => ?_) (fun hB => ?_)
    · (repeat' ((conv => whnf); first | refine br_i (fun _ => ?_) (fun _ => ?_) | (refine cur_leaf rfl rfl rfl ?_ ?_; · first | assumption | omega | exact hw ‹_›) | refine leaf_i rfl rfl ?_ | refine And.intro rfl ?_ | (refine And.intro ?_ ?_; · decide)))
      all_goals (rw [hex_no (hexB_bad hlt (ib2 (by simp at hB; omega)))]; rfl)
    have hX : 0 ≤ X := by simpa using hA
    have hY : 0 ≤ Y := by simpa using hB
    rw [if_pos hX, if_pos hY]
    conv => whnf
    refine And.intro (by decide) ?_
    conv => whnf
    refine ⟨⟨rfl, flat_byte [_]⟩, ?_⟩
    conv => whnf
    refine ⟨_, ia _ (by exact or8 X Y ⟨hX, d1.2⟩ ⟨hY, d2.2⟩), ?_⟩
    conv => whnf
    exact ⟨k + 1, ⟨⟨by omega, ig hX hY⟩, by omega⟩, le_mk [(0, _)] rfl ⟨⟨rfl, rfl⟩, ⟨rfl, rfl⟩, ⟨i64_eq hw2, rfl⟩, trivial⟩ ⟨⟨rfl, rfl⟩, trivial⟩ rfl⟩
  · have hge : l.length / 2 ≤ k := by have := dge h; rw [strOfNums_size] at this; omega
    have hK : k = l.length / 2 := by omega
    have hx := hexB_all hge hs
    (repeat' ((conv => whnf); first | refine br_i (fun _ => ?_) (fun _ => ?_) | (refine cur_leaf rfl rfl rfl ?_ ?_; · first | assumption | omega | exact hw ‹_›) | refine leaf_i rfl rfl ?_ | refine And.intro rfl ?_ | (refine And.intro ?_ ?_; · decide)))
    rw [hex_yes (by rw [hx]; simp; omega), hK]
    rfl
def sumI (l : List Int) : Int := l.foldr (· + ·) 0
theorem sumI_take (l : List Int) (k : Nat) (h : k < l.length) : sumI (l.take (k + 1)) = sumI (l.take k) + l[k] := by
  induction l generalizing k with
  | nil => simp at h
  | cons a l ih =>
    cases k with
    | zero => simp [sumI]
    | succ k =>
      have := ih k (by simpa using h)
      simp only [List.take_succ_cons, sumI, List.foldr_cons] at this ⊢
      simp only [List.getElem_cons_succ]
      omega
theorem sumI_b {l : List Int} (hb : isBytes l) : 0 ≤ sumI l ∧ sumI l ≤ 255 * l.length := by
  induction l with
  | nil => simp [sumI]
  | cons a l ih =>
    have h1 := hb a (by simp)
    have h2 := ih (fun x hx => hb x (by simp [hx]))
    simp only [sumI, List.foldr_cons, List.length_cons] at h2 ⊢
    push_cast
    omega
def lrc (l : List Int) : Int := (256 - sumI l % 256) % 256
theorem isBytes_take {l : List Int} (hb : isBytes l) (k : Nat) : isBytes (l.take k) := fun x hx => hb x (List.mem_of_mem_take hx)
theorem s_Lrc (l : List Int) (hb : isBytes l) (hl : l.length ≤ 1048577) : PureC Try.prog 70 [bytesV l] [i64v (lrc l)] := by
  refine pureC_of (Γ := lookT tbl) (il := ilist) tg dr Try.func70 rfl (by kernel_rfl) rfl (Nat.le_of_ble_eq_true rfl) ?_
  conv => whnf
  refine loop_i (fun k : Nat => ⟨envL [(0, .c (.pv (.sl 1 (l.map byteEl)))), (3, .c (.pv (.int .i64 (sumI (l.take k) % 256)))), (4, .c (.pv (.int .i64 k)))], resL [], 0, 22⟩) (fun k => k ≤ l.length) (fun k => l.length - k) 0 (Nat.zero_le _) (le_mk [] rfl ⟨⟨rfl, rfl⟩, ⟨i64_eq (by simp [sumI]), rfl⟩, ⟨rfl, rfl⟩, trivial⟩ trivial rfl) ?_
  intro k hk
  conv => whnf
  refine br_i (fun h => ?_) (fun h => ?_)
  · have hlt : k < l.length := by simpa using h
    have hb1 := hb l[k] (List.getElem_mem _)
    have e := sumI_take l k hlt
    have hw : Int.tmod (IntKind.i64.wrap (sumI (l.take k) % 256 + IntKind.i64.wrap l[k])) 256 = sumI (l.take (k + 1)) % 256 := by
      rw [wrap_ok (x := l[k]) (by omega) (by omega), wrap_ok (x := sumI (l.take k) % 256 + l[k]) (by omega) (by omega), Int.tmod_eq_emod_of_nonneg (by omega), e]
      omega
    conv => whnf
    refine ⟨_, idx_map l byteEl k hlt 1, ?_⟩
    conv => whnf
    refine And.intro (by decide) ?_
    conv => whnf
    exact ⟨k + 1, ⟨hlt, by omega⟩, le_mk [] rfl ⟨⟨rfl, rfl⟩, ⟨i64_eq hw, rfl⟩, ⟨ctr (by omega), rfl⟩, trivial⟩ trivial rfl⟩
  · have hk2 : k = l.length := by have : ¬ k < l.length := by simpa using h
                                  omega
    subst hk2
    rw [List.take_length]
    (repeat' ((conv => whnf); first | refine br_i (fun _ => ?_) (fun _ => ?_) | (refine cur_leaf rfl rfl rfl ?_ ?_; · first | assumption | omega | exact hw ‹_›) | refine leaf_i rfl rfl ?_ | refine And.intro rfl ?_ | (refine And.intro ?_ ?_; · decide)))
    all_goals (rw [wrap_ok (x := 256 - sumI l % 256) (by omega) (by omega), Int.tmod_eq_emod_of_nonneg (by omega)]; rfl)
theorem m_Lrc (l : List Int) (hb : isBytes l) (hl : l.length ≤ 1048577) : PureC Try.prog 84 [bytesV l] [i64v (lrc l)] := by
  refine pureC_of (Γ := lookT tbl) (il := ilist) tg dr Try.func84 rfl (by kernel_rfl) rfl (Nat.le_of_ble_eq_true rfl) ?_
  conv => whnf
  refine loop_i (fun k : Nat => ⟨envL [(3, .c (.pv (.int .i64 (sumI (l.take k))))), (6, .c (.pv (.sl 1 (l.map byteEl)))), (7, .c (.pv (.int .i64 l.length))), (8, .c (.pv (.int .i64 k)))], resL [], 0, 21⟩) (fun k => k ≤ l.length) (fun k => l.length - k) 0 (Nat.zero_le _) (le_mk [] rfl ⟨⟨i64_eq (by simp [sumI]), rfl⟩, ⟨rfl, rfl⟩, ⟨i64_eq (by simp), rfl⟩, ⟨rfl, rfl⟩, trivial⟩ trivial rfl) ?_
  intro k hk
  have hb2 := sumI_b (isBytes_take hb k)
  rw [List.length_take] at hb2
  conv => whnf
  refine br_i (fun h => ?_) (fun h => ?_)
  · have hlt : k < l.length := by simpa using h
    have hb1 := hb l[k] (List.getElem_mem _)
    have e := sumI_take l k hlt
    have hw : IntKind.i64.wrap (sumI (l.take k) + IntKind.i64.wrap l[k]) = sumI (l.take (k + 1)) := by
      rw [wrap_ok (x := l[k]) (by omega) (by omega), wrap_ok (by omega) (by omega), e]
    conv => whnf
    refine ⟨_, idx_map l byteEl k hlt 1, ?_⟩
    conv => whnf
    exact ⟨k + 1, ⟨hlt, by omega⟩, le_mk [] rfl ⟨⟨i64_eq hw, rfl⟩, ⟨rfl, rfl⟩, ⟨rfl, rfl⟩, ⟨ctr (by omega), rfl⟩, trivial⟩ trivial rfl⟩
  · have hk2 : k = l.length := by have : ¬ k < l.length := by simpa using h
                                  omega
    subst hk2
    rw [List.take_length] at hb2 ⊢
    (repeat' ((conv => whnf); first | refine br_i (fun _ => ?_) (fun _ => ?_) | (refine cur_leaf rfl rfl rfl ?_ ?_; · first | assumption | omega | exact hw ‹_›) | refine leaf_i rfl rfl ?_ | refine And.intro rfl ?_ | (refine And.intro ?_ ?_; · decide)))
    all_goals (rw [Int.tmod_eq_emod_of_nonneg (a := sumI l) (by omega), wrap_ok (x := 256 - sumI l % 256) (by omega) (by omega), Int.tmod_eq_emod_of_nonneg (by omega)]; rfl)
/-- A frame of digits: a colon, digits, an end of line. -/
def framed (b : List Int) : Bool := decide (3 ≤ b.length) && decide (bAt b 0 = 58) && decide (bAt b ((b.length : Int) - 2) = 13) && decide (bAt b ((b.length : Int) - 1) = 10)
def getAscii (b : List Int) : Int × List Int × Int :=
  if !framed b || !(hexOut (cutL b 1 ((b.length : Int) - 2))).2 then (0, [], 4) else
  let h := (hexOut (cutL b 1 ((b.length : Int) - 2))).1
  if h.length < 3 then (0, [], 1) else if 255 < h.length then (0, [], 2) else
  if bAt h ((h.length : Int) - 1) ≠ lrc (h.take (h.length - 1)) then (0, [], 3) else (bAt h 0, cutL h 1 ((h.length : Int) - 1), 0)
theorem lrc_b (l : List Int) : 0 ≤ lrc l ∧ lrc l < 256 := by unfold lrc; omega
theorem lrc_zero (h : List Int) (hb : isBytes h) (hl : 0 < h.length) : lrc h = 0 ↔ bAt h ((h.length : Int) - 1) = lrc (h.take (h.length - 1)) := by
  have e := sumI_take h (h.length - 1) (by omega)
  rw [show h.length - 1 + 1 = h.length by omega, List.take_length] at e
  have hx : bAt h ((h.length : Int) - 1) = h[h.length - 1] := by
    unfold bAt
    rw [show ((h.length : Int) - 1).toNat = h.length - 1 by omega]
    simp [List.getD, List.getElem?_eq_getElem (show h.length - 1 < h.length by omega)]
  have hb1 := hb h[h.length - 1] (List.getElem_mem _)
  rw [hx]
  unfold lrc
  rw [e]
  omega
theorem isBytes_hex (l : List Int) : isBytes (hexOut l).1 := by
  unfold hexOut
  split
  · rename_i h
    intro x hx
    simp only [outK, List.mem_map, List.mem_range] at hx
    obtain ⟨k, hk, rfl⟩ := hx
    simp only [hexB, Bool.and_eq_true, List.all_eq_true] at h
    have h2 := h.2 k (List.mem_range.2 hk)
    simp only [okAt, Bool.and_eq_true, decide_eq_true_eq] at h2
    have d1 := digit_lt (bAt l ((2 * k : Nat) : Int))
    have d2 := digit_lt (bAt l ((2 * k + 1 : Nat) : Int))
    unfold byteK
    omega
  · intro x hx; cases hx
theorem hex_len (l : List Int) : (hexOut l).1.length ≤ l.length := by
  unfold hexOut
  split
  · rw [outK_len]; omega
  · simp
theorem isBytes_cut {l : List Int} (hb : isBytes l) (i j : Int) : isBytes (cutL l i j) := fun x hx => hb x (List.mem_of_mem_take (List.mem_of_mem_drop hx))
theorem ga_no {b : List Int} (h : framed b = false) : getAscii b = (0, [], 4) := by simp [getAscii, h]
theorem s_GetAscii (b : List Int) (hb : isBytes b) (hl : b.length ≤ 1048577) : PureC Try.prog 91 [bytesV b] [i64v (getAscii b).1, bytesV (getAscii b).2.1, i64v (getAscii b).2.2] := by
  refine pureC_of (Γ := lookT tbl) (il := ilist) tg dr Try.func91 rfl (by kernel_rfl) rfl (Nat.le_of_ble_eq_true rfl) ?_
  have hw2 : IntKind.i64.wrap (((b.map byteEl).length : Int) - 2) = (b.length : Int) - 2 := by rw [List.length_map]; exact wrap_ok (by omega) (by omega)
  have hw1 : IntKind.i64.wrap (((b.map byteEl).length : Int) - 1) = (b.length : Int) - 1 := by rw [List.length_map]; exact wrap_ok (by omega) (by omega)
  conv => whnf
  refine br_i (fun h => ?_) (fun h => ?_)
  · have : ¬ 3 ≤ b.length := by simp at h; omega
    (repeat' ((conv => whnf); first | refine br_i (fun _ => ?_) (fun _ => ?_) | (refine cur_leaf rfl rfl rfl ?_ ?_; · first | assumption | omega | exact hw ‹_›) | refine leaf_i rfl rfl ?_ | refine And.intro rfl ?_ | (refine And.intro ?_ ?_; · decide)))
    all_goals (rw [ga_no (by unfold framed; rw [decide_eq_false this]; rfl)]; rfl)
  have h3 : 3 ≤ b.length := by simp at h; omega
  clear h
  conv => whnf
  refine ⟨_, idx_b b 0 (by omega), ?_⟩
  conv => whnf
  refine br_i (fun h => ?_) (fun h => ?_)
  · have h0 : ¬ bAt b 0 = 58 := by simpa using h
    (repeat' ((conv => whnf); first | refine br_i (fun _ => ?_) (fun _ => ?_) | (refine cur_leaf rfl rfl rfl ?_ ?_; · first | assumption | omega | exact hw ‹_›) | refine leaf_i rfl rfl ?_ | refine And.intro rfl ?_ | (refine And.intro ?_ ?_; · decide)))
    all_goals (rw [ga_no (by unfold framed; rw [decide_eq_false h0, Bool.and_false]; rfl)]; rfl)
  have h0 : bAt b 0 = 58 := by simpa using h
  clear h
  conv => whnf
  refine ⟨_, idx_b b _ (by rw [hw2]; omega), ?_⟩
  conv => whnf
  refine br_i (fun h => ?_) (fun h => ?_)
  · have h4 : ¬ bAt b ((b.length : Int) - 2) = 13 := by rw [hw2] at h; simpa using h
    (repeat' ((conv => whnf); first | refine br_i (fun _ => ?_) (fun _ => ?_) | (refine cur_leaf rfl rfl rfl ?_ ?_; · first | assumption | omega | exact hw ‹_›) | refine leaf_i rfl rfl ?_ | refine And.intro rfl ?_ | (refine And.intro ?_ ?_; · decide)))
    all_goals (rw [ga_no (by unfold framed; rw [decide_eq_false h4, Bool.and_false]; rfl)]; rfl)
  have h4 : bAt b ((b.length : Int) - 2) = 13 := by rw [hw2] at h; simpa using h
  clear h
  conv => whnf
  refine ⟨_, idx_b b _ (by rw [hw1]; omega), ?_⟩
  conv => whnf
  refine br_i (fun h => ?_) (fun h => ?_)
  · have h5 : ¬ bAt b ((b.length : Int) - 1) = 10 := by rw [hw1] at h; simpa using h
    (repeat' ((conv => whnf); first | refine br_i (fun _ => ?_) (fun _ => ?_) | (refine cur_leaf rfl rfl rfl ?_ ?_; · first | assumption | omega | exact hw ‹_›) | refine leaf_i rfl rfl ?_ | refine And.intro rfl ?_ | (refine And.intro ?_ ?_; · decide)))
    all_goals (rw [ga_no (by unfold framed; rw [decide_eq_false h5, Bool.and_false])]; rfl)
  have h5 : bAt b ((b.length : Int) - 1) = 10 := by rw [hw1] at h; simpa using h
  clear h
  have hf : framed b = true := by unfold framed; rw [decide_eq_true h3, decide_eq_true h0, decide_eq_true h4, decide_eq_true h5]; rfl
  unfold getAscii
  rw [hf]
  have hcl := cutL_len b 1 ((b.length : Int) - 2) (by omega)
  have hcb := isBytes_cut hb 1 ((b.length : Int) - 2)
  have hc := cut_b byteEl 1 b 1 ((b.length : Int) - 2) (by omega)
  generalize cutL b 1 ((b.length : Int) - 2) = C at *
  rw [← hw2] at hc
  have hu := s_UnHex C hcb (by omega)
  have hpb := isBytes_hex C
  have hpl := hex_len C
  generalize hexOut C = R at *
  obtain ⟨p, ok⟩ := R
  dsimp only at hu hpb hpl ⊢
  have hv1 : IntKind.i64.wrap (((p.map byteEl).length : Int) - 1) = (p.length : Int) - 1 := by rw [List.length_map]; exact wrap_ok (by omega) (by omega)
  conv => whnf
  refine ⟨_, hc, ?_⟩
  conv => whnf
  refine ⟨C, rfl, ?_⟩
  conv => whnf
  refine call_i hu ?_
  clear hu hc
  conv => whnf
  refine br_i (fun h => ?_) (fun h => ?_)
  · have : ok = false := by simpa using h
    subst this
    (repeat' ((conv => whnf); first | refine br_i (fun _ => ?_) (fun _ => ?_) | (refine cur_leaf rfl rfl rfl ?_ ?_; · first | assumption | omega | exact hw ‹_›) | refine leaf_i rfl rfl ?_ | refine And.intro rfl ?_ | (refine And.intro ?_ ?_; · decide)))
    all_goals rfl
  have : ok = true := by simpa using h
  subst this
  clear h
  simp only [Bool.not_true, Bool.or_self]
  conv => whnf
  refine br_i (fun h => ?_) (fun h => ?_)
  · have hx : p.length < 3 := by simp at h; omega
    rw [if_neg (by decide), if_pos hx]
    (repeat' ((conv => whnf); first | refine br_i (fun _ => ?_) (fun _ => ?_) | (refine cur_leaf rfl rfl rfl ?_ ?_; · first | assumption | omega | exact hw ‹_›) | refine leaf_i rfl rfl ?_ | refine And.intro rfl ?_ | (refine And.intro ?_ ?_; · decide)))
    all_goals rfl
  have hx : ¬ p.length < 3 := by simp at h; omega
  clear h
  rw [if_neg (by decide), if_neg hx]
  conv => whnf
  refine br_i (fun h => ?_) (fun h => ?_)
  · have hy : 255 < p.length := by simp at h; omega
    rw [if_pos hy]
    (repeat' ((conv => whnf); first | refine br_i (fun _ => ?_) (fun _ => ?_) | (refine cur_leaf rfl rfl rfl ?_ ?_; · first | assumption | omega | exact hw ‹_›) | refine leaf_i rfl rfl ?_ | refine And.intro rfl ?_ | (refine And.intro ?_ ?_; · decide)))
    all_goals rfl
  have hy : ¬ 255 < p.length := by simp at h; omega
  clear h
  rw [if_neg hy]
  have bm := bAt_b hpb (i := (p.length : Int) - 1) (by omega)
  have b0 := bAt_b hpb (i := 0) (by omega)
  have hlr := lrc_b (p.take (p.length - 1))
  conv => whnf
  refine ⟨_, le_fz 6 rfl rfl, ?_⟩
  conv => whnf
  refine ⟨_, idx_b p _ (by rw [hv1]; omega), ?_⟩
  conv => whnf
  refine ⟨_, cut_to byteEl 1 p _ (p.length - 1) (by rw [hv1]; omega) (by omega), ?_⟩
  conv => whnf
  refine call_i (s_Lrc (p.take (p.length - 1)) (isBytes_take hpb _) (by rw [List.length_take]; omega)) ?_
  conv => whnf
  refine And.intro rfl ?_
  conv => whnf
  refine br_i (fun h => ?_) (fun h => ?_)
  · rw [hv1, wrap_ok (by omega) (by omega)] at h
    have hz : bAt p ((p.length : Int) - 1) ≠ lrc (p.take (p.length - 1)) := by simpa using h
    rw [if_pos hz]
    (repeat' ((conv => whnf); first | refine br_i (fun _ => ?_) (fun _ => ?_) | (refine cur_leaf rfl rfl rfl ?_ ?_; · first | assumption | omega | exact hw ‹_›) | refine leaf_i rfl rfl ?_ | refine And.intro rfl ?_ | (refine And.intro ?_ ?_; · decide)))
    all_goals rfl
  rw [hv1, wrap_ok (by omega) (by omega)] at h
  have hz : ¬ bAt p ((p.length : Int) - 1) ≠ lrc (p.take (p.length - 1)) := by simpa using h
  rw [if_neg hz]
  clear h
  have hc2 := cut_b byteEl 1 p 1 ((p.length : Int) - 1) (by omega)
  have hcl2 := cutL_len p 1 ((p.length : Int) - 1) (by omega)
  generalize cutL p 1 ((p.length : Int) - 1) = D at *
  rw [← hv1] at hc2
  conv => whnf
  refine ⟨_, idx_b p 0 (by omega), ?_⟩
  conv => whnf
  refine ⟨_, hc2, ?_⟩
  conv => whnf
  refine ⟨⟨rfl, flat_byte _⟩, ?_⟩
  conv => whnf
  refine ⟨D.map byteEl, ⟨by show (0 + (D.map byteEl).length) * 1 ≤ 140737488355328; rw [List.length_map]; omega, rfl⟩, ?_⟩
  conv => whnf
  refine And.intro rfl ?_
  conv => whnf
  refine leaf_i rfl rfl ?_
  rw [wrap_ok (by omega) (by omega)]
  rfl
theorem ok8_inj {a b : List Int} (ha : isBytes a) (hb : isBytes b) (h : a.map (fun n => UInt8.ofNat n.toNat) = b.map (fun n => UInt8.ofNat n.toNat)) : a = b := by
  induction a generalizing b with
  | nil => cases b with
    | nil => rfl
    | cons => simp at h
  | cons x a ih =>
    cases b with
    | nil => simp at h
    | cons y b =>
      simp only [List.map_cons, List.cons.injEq] at h
      have hx := ha x (by simp)
      have hy := hb y (by simp)
      have e := congrArg UInt8.toNat h.1
      rw [UInt8.toNat_ofNat', UInt8.toNat_ofNat'] at e
      rw [ih (fun z hz => ha z (by simp [hz])) (fun z hz => hb z (by simp [hz])) h.2, show x = y by omega]
theorem str_eq {a b : List Int} (ha : isBytes a) (hb : isBytes b) : ((strOfNums a).toList == (strOfNums b).toList) = decide (a = b) := by
  rw [ByteArray.toList_eq, ByteArray.toList_eq, strOfNums_data, strOfNums_data, Bool.eq_iff_iff]
  simp only [beq_iff_eq, decide_eq_true_eq]
  exact ⟨ok8_inj ha hb, fun h => by rw [h]⟩
theorem m_Equal (a b : List Int) (ha : isBytes a) (hb : isBytes b) : PureC Try.prog 113 [bytesV a, bytesV b] [boolv (decide (a = b))] := by
  refine pureC_of (Γ := lookT tbl) (il := ilist) tg dr Try.func113 rfl (by kernel_rfl) rfl (Nat.le_of_ble_eq_true rfl) ?_
  conv => whnf
  refine ⟨a, rfl, ?_⟩
  conv => whnf
  refine ⟨b, rfl, ?_⟩
  conv => whnf
  refine leaf_i rfl rfl ?_
  rw [str_eq ha hb]
  rfl
def preB (b p : List Int) : Bool := decide (p.length ≤ b.length) && decide (b.take p.length = p)
def sufB (b p : List Int) : Bool := decide (p.length ≤ b.length) && decide (b.drop (b.length - p.length) = p)
theorem m_HasPrefix (b p : List Int) (hb : isBytes b) (hp : isBytes p) : PureC Try.prog 110 [bytesV b, bytesV p] [boolv (preB b p)] := by
  refine pureC_of (Γ := lookT tbl) (il := ilist) tg dr Try.func110 rfl (by kernel_rfl) rfl (Nat.le_of_ble_eq_true rfl) ?_
  conv => whnf
  refine br_i (fun h => ?_) (fun h => ?_)
  · have hle : p.length ≤ b.length := by simp at h; omega
    conv => whnf
    refine ⟨_, cut_to byteEl 1 b _ p.length (by rw [List.length_map]) hle, ?_⟩
    conv => whnf
    refine call_i (m_Equal (b.take p.length) p (isBytes_take hb _) hp) ?_
    conv => whnf
    refine leaf_i rfl rfl ?_
    rw [show preB b p = decide (b.take p.length = p) by unfold preB; rw [decide_eq_true hle]; rfl]
    rfl
  · have hle : ¬ p.length ≤ b.length := by simp at h; omega
    (repeat' ((conv => whnf); first | refine br_i (fun _ => ?_) (fun _ => ?_) | (refine cur_leaf rfl rfl rfl ?_ ?_; · first | assumption | omega | exact hw ‹_›) | refine leaf_i rfl rfl ?_ | refine And.intro rfl ?_ | (refine And.intro ?_ ?_; · decide)))
    all_goals (rw [show preB b p = false by unfold preB; rw [decide_eq_false hle]; rfl]; rfl)
theorem isBytes_drop {l : List Int} (hb : isBytes l) (k : Nat) : isBytes (l.drop k) := fun x hx => hb x (List.mem_of_mem_drop hx)
theorem m_HasSuffix (b p : List Int) (hb : isBytes b) (hp : isBytes p) (hl : b.length ≤ 1048577) : PureC Try.prog 111 [bytesV b, bytesV p] [boolv (sufB b p)] := by
  refine pureC_of (Γ := lookT tbl) (il := ilist) tg dr Try.func111 rfl (by kernel_rfl) rfl (Nat.le_of_ble_eq_true rfl) ?_
  conv => whnf
  refine br_i (fun h => ?_) (fun h => ?_)
  · have hle : p.length ≤ b.length := by simp at h; omega
    have hw : IntKind.i64.wrap (((b.map byteEl).length : Int) - ((p.map byteEl).length : Int)) = ((b.length - p.length : Nat) : Int) := by rw [List.length_map, List.length_map]; exact (wrap_ok (by omega) (by omega)).trans (by omega)
    have hc := cut_i byteEl 1 b ((b.length - p.length : Nat) : Int) (by omega)
    rw [show b.drop ((b.length - p.length : Nat) : Int).toNat = b.drop (b.length - p.length) by rw [Int.toNat_natCast]] at hc
    generalize hD : b.drop (b.length - p.length) = D at hc
    rw [← hw] at hc
    conv => whnf
    refine ⟨_, hc, ?_⟩
    conv => whnf
    refine call_i (m_Equal D p (hD ▸ isBytes_drop hb _) hp) ?_
    conv => whnf
    refine leaf_i rfl rfl ?_
    rw [show sufB b p = decide (D = p) by unfold sufB; rw [decide_eq_true hle, hD]; rfl]
    rfl
  · have hle : ¬ p.length ≤ b.length := by simp at h; omega
    (repeat' ((conv => whnf); first | refine br_i (fun _ => ?_) (fun _ => ?_) | (refine cur_leaf rfl rfl rfl ?_ ?_; · first | assumption | omega | exact hw ‹_›) | refine leaf_i rfl rfl ?_ | refine And.intro rfl ?_ | (refine And.intro ?_ ?_; · decide)))
    all_goals (rw [show sufB b p = false by unfold sufB; rw [decide_eq_false hle]; rfl]; rfl)
theorem framed_no1 {b : List Int} (h : preB b [58] = false) : framed b = false := by
  cases b with
  | nil => rfl
  | cons a c =>
    have ha : ¬ a = 58 := by simpa [preB] using h
    unfold framed
    rw [show bAt (a :: c) 0 = a from rfl, decide_eq_false ha, Bool.and_false]
    rfl
theorem two_last {c : List Int} (h : 2 ≤ c.length) : c.drop (c.length - 2) = [c[c.length - 2], c[c.length - 1]] := by
  rw [List.drop_eq_getElem_cons (by omega), List.drop_eq_getElem_cons (by omega), List.drop_eq_nil_of_le (by omega)]
  congr 2
  congr 1
  omega
theorem framed_eq {b : List Int} (h : preB b [58] = true) : framed b = sufB (b.drop 1) [13, 10] := by
  cases b with
  | nil => simp [preB] at h
  | cons a c =>
    have ha : a = 58 := by simpa [preB] using h
    subst ha
    unfold framed sufB
    rw [show bAt (58 :: c) 0 = 58 from rfl, decide_eq_true rfl, Bool.and_true]
    show _ = (decide (2 ≤ c.length) && decide (c.drop (c.length - 2) = [13, 10]))
    by_cases h2 : 2 ≤ c.length
    · rw [decide_eq_true (show 3 ≤ (58 :: c).length by simp; omega), decide_eq_true h2, Bool.true_and, Bool.true_and, two_last h2]
      have e1 : bAt (58 :: c) (((58 :: c).length : Int) - 2) = c[c.length - 2] := by
        unfold bAt
        rw [show (((58 :: c).length : Int) - 2).toNat = (c.length - 2) + 1 by simp; omega]
        simp [List.getD, List.getElem?_eq_getElem (show c.length - 2 < c.length by omega)]
      have e2 : bAt (58 :: c) (((58 :: c).length : Int) - 1) = c[c.length - 1] := by
        unfold bAt
        rw [show (((58 :: c).length : Int) - 1).toNat = (c.length - 1) + 1 by simp; omega]
        simp [List.getD, List.getElem?_eq_getElem (show c.length - 1 < c.length by omega)]
      rw [e1, e2, Bool.eq_iff_iff]
      simp
    · rw [decide_eq_false h2, decide_eq_false (show ¬ 3 ≤ (58 :: c).length by simp; omega)]
      rfl
theorem body_eq {b : List Int} (h : 3 ≤ b.length) : (b.drop 1).take (b.length - 3) = cutL b 1 ((b.length : Int) - 2) := by
  unfold cutL
  rw [show ((b.length : Int) - 2).toNat = (b.length - 3) + 1 by omega, List.drop_take]
  rfl
theorem m_GetAscii (b : List Int) (hb : isBytes b) (hl : b.length ≤ 1048577) : PureC Try.prog 98 [bytesV b] [i64v (getAscii b).1, bytesV (getAscii b).2.1, i64v (getAscii b).2.2] := by
  refine pureC_of (Γ := lookT tbl) (il := ilist) tg dr Try.func98 rfl (by kernel_rfl) rfl (Nat.le_of_ble_eq_true rfl) ?_
  have hp := m_HasPrefix b [58] hb (by intro x hx; simp at hx; omega)
  cases hP : preB b [58] with
  | false =>
    rw [hP] at hp
    have hf := framed_no1 hP
    have hs := m_HasSuffix b [13, 10] hb (by intro x hx; simp at hx; omega) hl
    conv => whnf
    refine inl_of (Γ := lookT tbl) (il := ilist) tg dr Try.func106 rfl (by kernel_rfl) rfl (ts := [22, 22]) (Nat.le_of_ble_eq_true rfl) ?_
    conv => whnf
    refine call_i hp ?_
    conv => whnf
    refine inl_of (Γ := lookT tbl) (il := ilist) tg dr Try.func107 rfl (by kernel_rfl) rfl (ts := [22, 22]) (Nat.le_of_ble_eq_true rfl) ?_
    conv => whnf
    refine call_i hs ?_
    conv => whnf
    refine br_i (fun h => ?_) (fun h => ?_)
    · conv => whnf
      refine ⟨b, rfl, ?_⟩
      conv => whnf
      refine call_i (m_UnHex b hb hl) ?_
      (repeat' ((conv => whnf); first | refine br_i (fun _ => ?_) (fun _ => ?_) | (refine cur_leaf rfl rfl rfl ?_ ?_; · first | assumption | omega | exact hw ‹_›) | refine leaf_i rfl rfl ?_ | refine And.intro rfl ?_ | (refine And.intro ?_ ?_; · decide)))
      all_goals (rw [ga_no hf]; rfl)
    · have h2 : 2 ≤ b.length := by simp [sufB] at h; omega
      have hw : IntKind.i64.wrap (((b.map byteEl).length : Int) - 2) = ((b.length - 2 : Nat) : Int) := by rw [List.length_map]; exact (wrap_ok (by omega) (by omega)).trans (by omega)
      conv => whnf
      refine ⟨_, cut_to byteEl 1 b _ (b.length - 2) hw (by omega), ?_⟩
      conv => whnf
      refine ⟨b.take (b.length - 2), rfl, ?_⟩
      conv => whnf
      refine call_i (m_UnHex _ (isBytes_take hb _) (by rw [List.length_take]; omega)) ?_
      (repeat' ((conv => whnf); first | refine br_i (fun _ => ?_) (fun _ => ?_) | (refine cur_leaf rfl rfl rfl ?_ ?_; · first | assumption | omega | exact hw ‹_›) | refine leaf_i rfl rfl ?_ | refine And.intro rfl ?_ | (refine And.intro ?_ ?_; · decide)))
      all_goals (rw [ga_no hf]; rfl)
  | true =>
    rw [hP] at hp
    have h1 : 1 ≤ b.length := by simp [preB] at hP; omega
    have hfe := framed_eq hP
    have hc := cut_i byteEl 1 b 1 (by omega)
    have hcb := isBytes_drop hb 1
    have hcl : (b.drop 1).length = b.length - 1 := List.length_drop
    have hs := m_HasSuffix (b.drop 1) [13, 10] hcb (by intro x hx; simp at hx; omega) (by omega)
    conv => whnf
    refine inl_of (Γ := lookT tbl) (il := ilist) tg dr Try.func106 rfl (by kernel_rfl) rfl (ts := [22, 22]) (Nat.le_of_ble_eq_true rfl) ?_
    conv => whnf
    refine call_i hp ?_
    conv => whnf
    refine ⟨_, hc, ?_⟩
    conv => whnf
    refine inl_of (Γ := lookT tbl) (il := ilist) tg dr Try.func107 rfl (by kernel_rfl) rfl (ts := [22, 22]) (Nat.le_of_ble_eq_true rfl) ?_
    conv => whnf
    refine call_i hs ?_
    conv => whnf
    refine br_i (fun h => ?_) (fun h => ?_)
    · have hf : framed b = false := by rw [hfe]; simpa using h
      conv => whnf
      refine ⟨b.drop 1, rfl, ?_⟩
      conv => whnf
      refine call_i (m_UnHex _ hcb (by omega)) ?_
      (repeat' ((conv => whnf); first | refine br_i (fun _ => ?_) (fun _ => ?_) | (refine cur_leaf rfl rfl rfl ?_ ?_; · first | assumption | omega | exact hw ‹_›) | refine leaf_i rfl rfl ?_ | refine And.intro rfl ?_ | (refine And.intro ?_ ?_; · decide)))
      all_goals (rw [ga_no hf]; rfl)
    have hf : framed b = true := by rw [hfe]; simpa using h
    have h3 : 3 ≤ b.length := by simp [framed] at hf; omega
    clear h
    have hw : IntKind.i64.wrap ((((b.drop 1).map byteEl).length : Int) - 2) = ((b.length - 3 : Nat) : Int) := by rw [List.length_map, hcl]; exact (wrap_ok (by omega) (by omega)).trans (by omega)
    have hcc := cut_to byteEl 1 (b.drop 1) _ (b.length - 3) hw (by omega)
    have hbe := body_eq h3
    have hbb := isBytes_take hcb (b.length - 3)
    have hbl : ((b.drop 1).take (b.length - 3)).length = b.length - 3 := by rw [List.length_take, hcl]; omega
    unfold getAscii
    rw [hf, ← hbe]
    clear hbe
    generalize (b.drop 1).take (b.length - 3) = C at *
    have hu := m_UnHex C hbb (by omega)
    have hpb := isBytes_hex C
    have hpl := hex_len C
    generalize hexOut C = R at *
    obtain ⟨p, ok⟩ := R
    dsimp only at hu hpb hpl ⊢
    have hv1 : IntKind.i64.wrap (((p.map byteEl).length : Int) - 1) = (p.length : Int) - 1 := by rw [List.length_map]; exact wrap_ok (by omega) (by omega)
    conv => whnf
    refine ⟨_, hcc, ?_⟩
    conv => whnf
    refine ⟨C, rfl, ?_⟩
    conv => whnf
    refine call_i hu ?_
    clear hu hcc hc
    conv => whnf
    refine br_i (fun h => ?_) (fun h => ?_)
    · have : ok = false := by simpa using h
      subst this
      (repeat' ((conv => whnf); first | refine br_i (fun _ => ?_) (fun _ => ?_) | (refine cur_leaf rfl rfl rfl ?_ ?_; · first | assumption | omega | exact hw ‹_›) | refine leaf_i rfl rfl ?_ | refine And.intro rfl ?_ | (refine And.intro ?_ ?_; · decide)))
      all_goals rfl
    have : ok = true := by simpa using h
    subst this
    clear h
    simp only [Bool.not_true, Bool.or_self]
    conv => whnf
    refine br_i (fun h => ?_) (fun h => ?_)
    · have hx : p.length < 3 := by simp at h; omega
      rw [if_neg (by decide), if_pos hx]
      (repeat' ((conv => whnf); first | refine br_i (fun _ => ?_) (fun _ => ?_) | (refine cur_leaf rfl rfl rfl ?_ ?_; · first | assumption | omega | exact hw ‹_›) | refine leaf_i rfl rfl ?_ | refine And.intro rfl ?_ | (refine And.intro ?_ ?_; · decide)))
      all_goals rfl
    have hx : ¬ p.length < 3 := by simp at h; omega
    clear h
    rw [if_neg (by decide), if_neg hx]
    conv => whnf
    refine br_i (fun h => ?_) (fun h => ?_)
    · have hy : 255 < p.length := by simp at h; omega
      rw [if_pos hy]
      (repeat' ((conv => whnf); first | refine br_i (fun _ => ?_) (fun _ => ?_) | (refine cur_leaf rfl rfl rfl ?_ ?_; · first | assumption | omega | exact hw ‹_›) | refine leaf_i rfl rfl ?_ | refine And.intro rfl ?_ | (refine And.intro ?_ ?_; · decide)))
      all_goals rfl
    have hy : ¬ 255 < p.length := by simp at h; omega
    clear h
    rw [if_neg hy]
    have hz := lrc_zero p hpb (by omega)
    have b0 := bAt_b hpb (i := 0) (by omega)
    have hL := m_Lrc p hpb (by omega)
    generalize lrc p = z at *
    conv => whnf
    refine call_i hL ?_
    conv => whnf
    refine br_i (fun h => ?_) (fun h => ?_)
    · have h5 : ¬ z = 0 := by simpa using h
      rw [if_pos (fun e => h5 (hz.2 e))]
      (repeat' ((conv => whnf); first | refine br_i (fun _ => ?_) (fun _ => ?_) | (refine cur_leaf rfl rfl rfl ?_ ?_; · first | assumption | omega | exact hw ‹_›) | refine leaf_i rfl rfl ?_ | refine And.intro rfl ?_ | (refine And.intro ?_ ?_; · decide)))
      all_goals rfl
    have h5 : z = 0 := by simpa using h
    rw [if_neg (fun e => e (hz.1 h5))]
    have hc2 := cut_b byteEl 1 p 1 ((p.length : Int) - 1) (by omega)
    have hcl2 := cutL_len p 1 ((p.length : Int) - 1) (by omega)
    generalize cutL p 1 ((p.length : Int) - 1) = D at *
    rw [← hv1] at hc2
    conv => whnf
    refine ⟨_, le_fz 8 rfl rfl, ?_⟩
    conv => whnf
    refine ⟨_, idx_b p 0 (by omega), ?_⟩
    conv => whnf
    refine ⟨_, hc2, ?_⟩
    conv => whnf
    refine call_i (m_Clone D (by omega)) ?_
    conv => whnf
    refine And.intro rfl ?_
    conv => whnf
    refine leaf_i rfl rfl ?_
    rw [wrap_ok (by omega) (by omega)]
    rfl

end Go.Proofs.Ytoccphgempbdeaa
