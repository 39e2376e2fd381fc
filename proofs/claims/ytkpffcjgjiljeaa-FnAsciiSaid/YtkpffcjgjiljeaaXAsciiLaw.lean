/- A frame of digits comes back; heard byte by byte it is told just once. -/
import Derived.Test.YtkpffcjgjiljeaaXGaps
namespace Go.Proofs.Ytkpffcjgjiljeaa
open Go Go.Vi
set_option linter.unusedVariables false
set_option linter.unusedSimpArgs false
set_option maxRecDepth 100000
theorem bAt_get {l : List Int} {i : Nat} {x : Int} (h : l[i]? = some x) : bAt l i = x := by
  unfold bAt
  rw [List.getD_eq_getElem?_getD, show ((i : Int)).toNat = i from rfl, h]
  rfl
theorem hexL_get : ∀ {l : List Int} {k : Nat}, (h : k < l.length) → (hexL l)[2 * k]? = some (hexD (l[k] / 16)) ∧ (hexL l)[2 * k + 1]? = some (hexD (l[k] % 16))
  | [], k, h => by simp at h
  | a :: l, 0, h => ⟨rfl, rfl⟩
  | a :: l, k + 1, h => by
    have ih := hexL_get (l := l) (k := k) (by simpa using h)
    have e : hexL (a :: l) = hexD (a / 16) :: hexD (a % 16) :: hexL l := rfl
    rw [e, show 2 * (k + 1) = 2 * k + 1 + 1 by omega, show 2 * k + 1 + 1 + 1 = (2 * k + 1) + 1 + 1 by omega]
    simpa using ih
theorem digit_hex {n : Int} (h : 0 ≤ n ∧ n < 16) : digit (hexD n) = n := by
  unfold hexD
  split
  · rw [digit_a (by omega)]; omega
  · rw [digit_b (by omega)]; omega
theorem hexD_is {n : Int} (h : 0 ≤ n ∧ n < 16) : hexD n ≠ 58 ∧ hexD n ≠ 10 := by unfold hexD; split <;> omega
theorem hex_mem {l : List Int} (hb : isBytes l) {x : Int} (hx : x ∈ hexL l) : x ≠ 58 ∧ x ≠ 10 := by
  obtain ⟨b, h1, h2⟩ := List.mem_flatMap.1 hx
  have := hb b h1
  simp at h2
  rcases h2 with rfl | rfl <;> exact hexD_is (by omega)
theorem hex_back {l : List Int} (hb : isBytes l) : hexOut (hexL l) = (l, true) := by
  have hl := hexL_len l
  have hk : ∀ k (h : k < l.length), digit (bAt (hexL l) ((2 * k : Nat) : Int)) = l[k] / 16 ∧ digit (bAt (hexL l) ((2 * k + 1 : Nat) : Int)) = l[k] % 16 := by
    intro k h
    obtain ⟨h1, h2⟩ := hexL_get h
    have := hb l[k] (List.getElem_mem h)
    rw [bAt_get h1, bAt_get h2, digit_hex (by omega), digit_hex (by omega)]
    exact ⟨rfl, rfl⟩
  have hB : hexB (hexL l) = true := by
    rw [hexB_all (k := l.length) (by omega)]
    · simp [hl]
    · intro i hi
      obtain ⟨h1, h2⟩ := hk i hi
      have := hb l[i] (List.getElem_mem hi)
      unfold okAt
      rw [h1, h2]
      simp
      omega
  rw [hex_yes hB, show (hexL l).length / 2 = l.length by omega]
  refine Prod.ext ?_ rfl
  show outK (hexL l) l.length = l
  apply List.ext_getElem
  · rw [outK_len]
  · intro i h1 h2
    obtain ⟨h3, h4⟩ := hk i h2
    simp only [outK, List.getElem_map, List.getElem_range]
    unfold byteK
    rw [h3, h4]
    omega
theorem body_b {u : Int} {p : List Int} (hu : 0 ≤ u ∧ u < 256) (hb : isBytes p) : isBytes (bodyA u p) := by
  refine bytes_app (fun x hx => ?_) fun x hx => ?_
  · rcases List.mem_cons.1 hx with rfl | hx
    · exact hu
    · exact hb x hx
  · simp at hx
    rw [hx]
    exact lrc_b _
theorem putA_frame {u : Int} {p : List Int} (hu : 0 ≤ u ∧ u < 256) (hp : 1 ≤ p.length ∧ p.length ≤ 253) : putAscii u p = 58 :: (hexL (bodyA u p) ++ [13, 10]) := by
  unfold putAscii
  rw [if_pos (by simp [pduB, inB]; omega)]
  rfl
theorem body_len (u : Int) (p : List Int) : (bodyA u p).length = p.length + 2 := by simp [bodyA]
theorem putA_length {u : Int} {p : List Int} (hu : 0 ≤ u ∧ u < 256) (hp : 1 ≤ p.length ∧ p.length ≤ 253) : (putAscii u p).length = 2 * p.length + 7 := by
  rw [putA_frame hu hp]
  simp [hexL_len, body_len]
  omega
theorem getA_put {u : Int} {p : List Int} (hu : 0 ≤ u ∧ u < 256) (hb : isBytes p) (hp : 1 ≤ p.length ∧ p.length ≤ 253) : getAscii (putAscii u p) = (u, p, 0) := by
  have hL := putA_length hu hp
  rw [putA_frame hu hp] at hL ⊢
  have hh := hexL_len (bodyA u p)
  have hbl := body_len u p
  have e0 : bAt (58 :: (hexL (bodyA u p) ++ [13, 10])) 0 = 58 := rfl
  have e1 : bAt (58 :: (hexL (bodyA u p) ++ [13, 10])) (((58 :: (hexL (bodyA u p) ++ [13, 10])).length : Int) - 2) = 13 := by
    rw [hL, show ((2 * p.length + 7 : Nat) : Int) - 2 = ((2 * p.length + 5 : Nat) : Int) by omega]
    apply bAt_get
    rw [show 2 * p.length + 5 = (2 * p.length + 4) + 1 by omega, List.getElem?_cons_succ, List.getElem?_append_right (by omega), hh, hbl]
    rw [show 2 * p.length + 4 - 2 * (p.length + 2) = 0 by omega]
    rfl
  have e2 : bAt (58 :: (hexL (bodyA u p) ++ [13, 10])) (((58 :: (hexL (bodyA u p) ++ [13, 10])).length : Int) - 1) = 10 := by
    rw [hL, show ((2 * p.length + 7 : Nat) : Int) - 1 = ((2 * p.length + 6 : Nat) : Int) by omega]
    apply bAt_get
    rw [show 2 * p.length + 6 = (2 * p.length + 5) + 1 by omega, List.getElem?_cons_succ, List.getElem?_append_right (by omega), hh, hbl]
    rw [show 2 * p.length + 5 - 2 * (p.length + 2) = 1 by omega]
    rfl
  have hf : framed (58 :: (hexL (bodyA u p) ++ [13, 10])) = true := by
    unfold framed
    rw [e0, e1, e2, decide_eq_true (show 3 ≤ (58 :: (hexL (bodyA u p) ++ [13, 10])).length by omega)]
    rfl
  have hc : cutL (58 :: (hexL (bodyA u p) ++ [13, 10])) 1 (((58 :: (hexL (bodyA u p) ++ [13, 10])).length : Int) - 2) = hexL (bodyA u p) := by
    unfold cutL
    rw [hL, show (((2 * p.length + 7 : Nat) : Int) - 2).toNat = (2 * p.length + 4) + 1 by omega, List.take_succ_cons]
    show (hexL (bodyA u p) ++ [13, 10]).take (2 * p.length + 4) = _
    rw [List.take_append_of_le_length (by omega), List.take_of_length_le (by omega)]
  unfold getAscii
  rw [hf, hc, hex_back (body_b hu hb)]
  dsimp only
  rw [if_neg (by decide), if_neg (by omega), if_neg (by omega)]
  have hlast : bAt (bodyA u p) (((bodyA u p).length : Int) - 1) = lrc (u :: p) := by
    rw [hbl, show ((p.length + 2 : Nat) : Int) - 1 = ((p.length + 1 : Nat) : Int) by omega]
    apply bAt_get
    unfold bodyA
    rw [List.getElem?_append_right (by simp)]
    simp
  have htake : (bodyA u p).take ((bodyA u p).length - 1) = u :: p := by
    rw [hbl]
    unfold bodyA
    rw [List.take_append_of_le_length (by simp), List.take_of_length_le (by simp)]
  rw [if_neg (by rw [hlast, htake]; simp)]
  refine Prod.ext rfl (Prod.ext ?_ rfl)
  show cutL (bodyA u p) 1 (((bodyA u p).length : Int) - 1) = p
  unfold cutL
  rw [show (((bodyA u p).length : Int) - 1).toNat = (bodyA u p).length - 1 by omega, htake]
  rfl
/-! ### Byte by byte -/
theorem gap_same : tickGap 5 5 = 0 := by decide
theorem hear_junk {w c L : Int} (hw : 1 ≤ w ∧ w ≤ 9) (hc : c ≠ 58) (hL : tickB L = true) : asciiHear ⟨[], false, L, w⟩ c 5 = (⟨[], false, 5, w⟩, []) := by
  have ok : asciiOk ⟨[], false, L, w⟩ = true := by simp [asciiOk, inB, hL]; omega
  unfold asciiHear
  rw [ok]
  simp [tickB, inB, hc]
theorem hear_colon {w L : Int} (hw : 1 ≤ w ∧ w ≤ 9) (hL : tickB L = true) : asciiHear ⟨[], false, L, w⟩ 58 5 = (⟨[58], true, 5, w⟩, []) := by
  have ok : asciiOk ⟨[], false, L, w⟩ = true := by simp [asciiOk, inB, hL]; omega
  unfold asciiHear
  rw [ok]
  simp [tickB, inB]
theorem open_ok {B : List Int} {w : Int} (hw : 1 ≤ w ∧ w ≤ 9) (hB : bAt B 0 = 58) (h1 : 0 < B.length) (h2 : B.length ≤ 600) : asciiOk ⟨B, true, 5, w⟩ = true := by
  simp [asciiOk, inB, tickB, hB]
  omega
theorem hear_digit {B : List Int} {w c : Int} (hw : 1 ≤ w ∧ w ≤ 9) (hB : bAt B 0 = 58) (h1 : 0 < B.length) (h2 : B.length < 600) (hc : c ≠ 58) (hc2 : c ≠ 10) : asciiHear ⟨B, true, 5, w⟩ c 5 = (⟨B ++ [c], true, 5, w⟩, []) := by
  unfold asciiHear
  rw [open_ok hw hB h1 (by omega)]
  dsimp only
  rw [gap_same, if_neg (by decide), decide_eq_false (show ¬ (0 : Int) ≥ w by omega), if_neg (by decide), if_neg hc, if_pos rfl, if_neg (by omega), if_neg hc2]
theorem hear_end {B : List Int} {w : Int} (hw : 1 ≤ w ∧ w ≤ 9) (hB : bAt B 0 = 58) (h1 : 0 < B.length) (h2 : B.length < 600) : asciiHear ⟨B, true, 5, w⟩ 10 5 = (⟨[], false, 5, w⟩, [gotA (B ++ [10])]) := by
  unfold asciiHear
  rw [open_ok hw hB h1 (by omega)]
  dsimp only
  rw [gap_same, if_neg (by decide), decide_eq_false (show ¬ (0 : Int) ≥ w by omega), if_neg (by decide), if_neg (by decide), if_pos rfl, if_neg (by omega), if_pos rfl]
/-! ### The law -/
def stA (b : List Int) (w : Int) (i : Nat) : XAscii := if i ≤ 4 then ⟨[], false, if i = 0 then 0 else 5, w⟩ else if i < 4 + b.length then ⟨b.take (i - 4), true, 5, w⟩ else ⟨[], false, 5, w⟩
def toldA (b : List Int) (i : Nat) : List XGot := if i < 4 + b.length then [] else [gotA b]
theorem asc_step {u w x : Int} {p : List Int} (hw : 1 ≤ w ∧ w ≤ 9) (hx : x ≠ 58) (hu : 0 ≤ u ∧ u < 256) (hb : isBytes p) (hp : 1 ≤ p.length ∧ p.length ≤ 253) {i : Nat} (hi : i < 4 + (putAscii u p).length) :
    asciiHear (stA (putAscii u p) w i) (bAt ([13, 10, 120, x] ++ putAscii u p) i) 5 = (stA (putAscii u p) w (i + 1), if i + 1 < 4 + (putAscii u p).length then [] else [gotA (putAscii u p)]) := by
  have hL := putA_length hu hp
  have hF := putA_frame hu hp
  have h0 : (putAscii u p)[0]? = some 58 := by rw [hF]; rfl
  have hm : ∀ k, 0 < k → k < 2 * p.length + 6 → ∃ c, (putAscii u p)[k]? = some c ∧ c ≠ 58 ∧ c ≠ 10 := by
    intro k h1 h2
    have hh := hexL_len (bodyA u p)
    rw [body_len] at hh
    rw [hF]
    obtain ⟨k, rfl⟩ : ∃ j, k = j + 1 := ⟨k - 1, by omega⟩
    rw [List.getElem?_cons_succ]
    by_cases h3 : k < (hexL (bodyA u p)).length
    · rw [List.getElem?_append_left h3, List.getElem?_eq_getElem h3]
      exact ⟨_, rfl, hex_mem (body_b hu hb) (List.getElem_mem h3)⟩
    · rw [List.getElem?_append_right (by omega), show k - (hexL (bodyA u p)).length = 0 by omega]
      exact ⟨13, rfl, by decide, by decide⟩
  have he : (putAscii u p)[2 * p.length + 6]? = some 10 := by
    have hh := hexL_len (bodyA u p)
    rw [body_len] at hh
    rw [hF, show 2 * p.length + 6 = (2 * p.length + 5) + 1 by omega, List.getElem?_cons_succ, List.getElem?_append_right (by omega), show 2 * p.length + 5 - (hexL (bodyA u p)).length = 1 by omega]
    rfl
  clear hF
  generalize putAscii u p = b at *
  by_cases h4 : i < 4
  · have e : bAt ([13, 10, 120, x] ++ b) i ≠ 58 := by
      have : i = 0 ∨ i = 1 ∨ i = 2 ∨ i = 3 := by omega
      rcases this with rfl | rfl | rfl | rfl
      · show (13 : Int) ≠ 58; decide
      · show (10 : Int) ≠ 58; decide
      · show (120 : Int) ≠ 58; decide
      · exact hx
    rw [if_pos (show i + 1 < 4 + b.length by omega)]
    unfold stA
    rw [if_pos (show i ≤ 4 by omega), if_pos (show i + 1 ≤ 4 by omega), if_neg (show ¬ i + 1 = 0 by omega)]
    exact hear_junk (L := if i = 0 then 0 else 5) hw e (by split <;> rfl)
  · have e : ∀ c, b[i - 4]? = some c → bAt ([13, 10, 120, x] ++ b) i = c := fun c hc => bAt_get (by rw [List.getElem?_append_right (by simp; omega)]; exact hc)
    have hB0 : ∀ k, 0 < k → bAt (b.take k) 0 = 58 := fun k hk => bAt_get (l := b.take k) (i := 0) (by rw [List.getElem?_take_of_lt hk]; exact h0)
    by_cases h5 : i = 4
    · subst h5
      rw [e 58 h0, if_pos (by omega)]
      unfold stA
      rw [if_pos (by omega), if_neg (by omega), if_neg (by omega), if_pos (by omega)]
      have : b.take (4 + 1 - 4) = [58] := by
        cases b with
        | nil => simp at h0
        | cons y l => simp at h0; simp [h0]
      rw [this]
      exact hear_colon hw rfl
    · have hs : ∀ c, b[i - 4]? = some c → b.take (i - 4) ++ [c] = b.take (i + 1 - 4) := fun c hc => by
        rw [show i + 1 - 4 = (i - 4) + 1 by omega, List.take_add_one, hc]; rfl
      have hl : (b.take (i - 4)).length = i - 4 := by rw [List.length_take]; omega
      unfold stA
      rw [if_neg (by omega), if_pos (by omega), if_neg (by omega)]
      by_cases h6 : i + 1 < 4 + b.length
      · obtain ⟨c, h7, h8, h9⟩ := hm (i - 4) (by omega) (by omega)
        rw [if_pos h6, if_pos h6, e c h7, ← hs c h7]
        exact hear_digit hw (hB0 _ (by omega)) (by omega) (by omega) h8 h9
      · have hc : b[i - 4]? = some 10 := by rw [show i - 4 = 2 * p.length + 6 by omega]; exact he
        rw [if_neg h6, if_neg h6, e 10 hc, hear_end hw (hB0 _ (by omega)) (by omega) (by omega), hs 10 hc, List.take_of_length_le (by omega)]
def asciiNew (w : Int) : XAscii := if asciiOk ⟨[], false, 0, w⟩ then ⟨[], false, 0, w⟩ else ⟨[], false, 0, 0⟩
theorem m_AsciiNew (w : Int) : PureC Try.prog 31 [i64v w] [(asciiNew w).v] := by
  refine pureC_of (Γ := lookT tbl) (il := ilist) tg dr Try.func31 rfl (by kernel_rfl) rfl (Nat.le_of_ble_eq_true rfl) ?_
  (repeat' ((conv => whnf); first | refine br_i (fun _ => ?_) (fun _ => ?_) | (refine cur_leaf rfl rfl rfl ?_ ?_; · first | assumption | omega | exact hw ‹_›) | refine leaf_i rfl rfl ?_ | refine And.intro rfl ?_ | refine call_i (m_AsciiOk ⟨[], false, 0, w⟩) ?_ | refine Or.inl (call_i (m_AsciiOk ⟨[], false, 0, w⟩) ?_) | (refine And.intro ?_ ?_; · decide)))
  all_goals first | (rw [show asciiNew w = ⟨[], false, 0, w⟩ by simp_all [asciiNew]]; rfl) | (rw [show asciiNew w = ⟨[], false, 0, 0⟩ by simp_all [asciiNew]]; rfl)
theorem putA_b {u : Int} {p : List Int} (hu : 0 ≤ u ∧ u < 256) (hb : isBytes p) (hp : 1 ≤ p.length ∧ p.length ≤ 253) : isBytes (putAscii u p) := by
  rw [putA_frame hu hp]
  intro x hx
  rcases List.mem_cons.1 hx with rfl | hx
  · omega
  rcases List.mem_append.1 hx with hx | hx
  · obtain ⟨y, h1, h2⟩ := List.mem_flatMap.1 hx
    have := body_b hu hb y h1
    simp at h2
    have hd : ∀ n, 0 ≤ n ∧ n < 16 → 0 ≤ hexD n ∧ hexD n < 256 := fun n h => by unfold hexD; split <;> omega
    rcases h2 with rfl | rfl <;> exact hd _ (by omega)
  · simp at hx; omega
theorem stA_len (b : List Int) (w : Int) (i : Nat) : (stA b w i).Buf.length ≤ b.length := by
  unfold stA
  (repeat' split) <;> simp <;> omega
theorem stA_b {b : List Int} (hb : isBytes b) (w : Int) (i : Nat) : isBytes (stA b w i).Buf := by
  unfold stA
  intro x hx
  (repeat' split at hx) <;> first | (simp at hx; done) | exact hb x (List.mem_of_mem_take hx)
theorem stA_ok {b : List Int} {w : Int} (hw : 1 ≤ w ∧ w ≤ 9) (h0 : b[0]? = some 58) (hl : b.length ≤ 600) (i : Nat) : asciiOk (stA b w i) = true := by
  have hB0 : ∀ k, 0 < k → bAt (b.take k) 0 = 58 := fun k hk => bAt_get (l := b.take k) (i := 0) (by rw [List.getElem?_take_of_lt hk]; exact h0)
  have hn : ∀ L : Int, tickB L = true → asciiOk ⟨[], false, L, w⟩ = true := fun L hL => by
    unfold asciiOk
    dsimp only
    rw [hL, show inB w 1 1000 = true by simp [inB]; omega]
    rfl
  unfold stA
  by_cases h1 : i ≤ 4
  · rw [if_pos h1]
    exact hn _ (by split <;> rfl)
  rw [if_neg h1]
  by_cases h2 : i < 4 + b.length
  · rw [if_pos h2]
    exact open_ok hw (hB0 _ (by omega)) (by rw [List.length_take]; omega) (by rw [List.length_take]; omega)
  · rw [if_neg h2]
    exact hn 5 rfl
theorem law_FnAscii (code : List Int) (hw : ∀ q0, q0 ∈ code → (Lit.int .u8 q0).wf = true) : PureC Try.prog 7 [bytesV code] [boolv true] := by
  refine pureC_of (Γ := lookT tbl) (il := ilist) tg dr Try.func7 rfl (by kernel_rfl) rfl (Nat.le_of_ble_eq_true rfl) ?_
  have hbc : isBytes code := fun q hq => wf_u8 (hw q hq)
  conv => whnf
  refine call_i (l_big code) ?_
  conv => whnf
  refine br_i (fun h => ?_) (fun h => ?_)
  · conv => whnf
    exact leaf_i rfl rfl rfl
  have hlc : code.length ≤ 1048576 := by simp [bigB] at h; omega
  conv => whnf
  refine inl_nd (Γ := lookT tbl) [22] ?_
  conv => whnf
  refine nd_i (d_Frame code hlc) ?_
  rintro _ ⟨u, p, rfl, hu, hp, hbp⟩
  conv => whnf
  refine call_i (m_PutAscii u p hbp) ?_
  have hBl := putA_length hu hp
  have hBb := putA_b hu hbp hp
  have hBg := getA_put hu hbp hp
  have hB0 : (putAscii u p)[0]? = some 58 := by rw [putA_frame hu hp]; rfl
  have hstep := fun (w x : Int) (i : Nat) (h1 : 1 ≤ w ∧ w ≤ 9) (h2 : x ≠ 58) h3 => asc_step (u := u) (w := w) (x := x) (p := p) h1 h2 hu hbp hp (i := i) h3
  generalize putAscii u p = B at *
  have hG := m_GetAscii B hBb (by omega)
  rw [hBg] at hG
  dsimp only at hG
  have hS := eqSameB p p
  rw [decide_eq_true rfl] at hS
  conv => whnf
  refine call_i hG ?_
  conv => whnf
  rw [show (u != u) = false by simp]
  conv => whnf
  refine call_i hS ?_
  conv => whnf
  rw [List.length_map, List.length_map, wrap_ok (x := 2 * (p.length : Int)) (by omega) (by omega), wrap_ok (x := 2 * (p.length : Int) + 7) (by omega) (by omega)]
  refine br_i (fun h => absurd h (by simp; omega)) (fun _ => ?_)
  have ha2 := atI_b hbc 2
  have hat2 := l_at code hbc hlc 2 (by decide) (by decide)
  have ha3 := atI_b hbc 3
  have hat3 := l_at code hbc hlc 3 (by decide) (by decide)
  generalize atI code 2 = a2 at *
  generalize atI code 3 = a3 at *
  conv => whnf
  refine call_i hat2 ?_
  conv => whnf
  refine And.intro (by decide) ?_
  conv => whnf
  have hm := rem_b (x := a2) (n := 9) ha2.1 (by decide)
  generalize a2.tmod 9 = m at *
  rw [wrap_ok (x := 1 + m) (by omega) (by omega)]
  have hN := m_AsciiNew (1 + m)
  have hwx : ∃ w, w = 1 + m := ⟨_, rfl⟩
  obtain ⟨w, hwx⟩ := hwx
  rw [← hwx] at hN ⊢
  have hw9 : 1 ≤ w ∧ w ≤ 9 := by omega
  rw [show asciiNew w = ⟨[], false, 0, w⟩ by simp [asciiNew, asciiOk, inB, tickB]; omega] at hN
  refine call_i hN ?_
  conv => whnf
  refine call_i hat3 ?_
  conv => whnf
  rw [u8wd ha3.1 ha3.2]
  refine ⟨3, ⟨⟨rfl, by show 3 < 4; omega⟩, rfl⟩, ?_⟩
  conv => whnf
  refine ⟨_, ⟨rfl, rfl⟩, ?_⟩
  conv => whnf
  refine br_i (fun h => ?_) (fun h => ?_)
  · conv => whnf
    refine ⟨3, ⟨⟨rfl, by show 3 < 4; omega⟩, rfl⟩, ?_⟩
    conv => whnf
    obtain ⟨x, hx⟩ : ∃ z : Int, z = 121 := ⟨_, rfl⟩
    have hx2 : x ≠ 58 ∧ 0 ≤ x ∧ x < 256 := by omega
    refine ⟨[13, 10, 120, x].map byteEl, ⟨rfl, by show 3 < 4; omega, by decide, by rw [hx]; rfl⟩, ?_⟩
    clear hx h
    conv => whnf
    refine ⟨⟨rfl, flat_byte [13, 10, 120, x]⟩, ?_⟩
    conv => whnf
    refine ⟨[13, 10, 120, x].map byteEl, ⟨by show (0 + 4) * 1 ≤ 140737488355328; decide, rfl⟩, ?_⟩
    conv => whnf
    refine ⟨⟨rfl, flat_byte B⟩, ?_⟩
    conv => whnf
    have hst := fun i h => hstep w x i hw9 hx2.1 h
    have hAl : ([13, 10, 120, x] ++ B).length = 4 + B.length := by rw [List.length_append]; rfl
    have hAb : isBytes ([13, 10, 120, x] ++ B) := bytes_app (fun y hy => by simp at hy; omega) hBb
    refine ⟨([13, 10, 120, x] ++ B).map byteEl, ⟨by show (4 + (B.map byteEl).length) * 1 ≤ 140737488355328; rw [List.length_map]; omega, by rw [List.map_append]⟩, ?_⟩
    generalize [13, 10, 120, x] ++ B = A at *
    conv => whnf
    refine loop_i (fun i : Nat => ⟨envL [(0, .c (.pv (bytesP code))), (3, .c (.pv (.int .i64 u))), (4, .c (.row 3)), (9, .c (.ptr 0 0)), (11, .c (.row 1)), (12, .c (.row 4)), (13, .c (.pv (.int .i64 i)))], resL [(0, .box [.row 2, .pv (.bool (stA B w i).Open), .pv (.int .i64 (stA B w i).Last), .pv (.int .i64 (stA B w i).Wait)]), (1, .row true 1 (A.map byteEl)), (2, .row true 1 ((stA B w i).Buf.map byteEl)), (3, .row true 1 (p.map byteEl)), (4, .row true 3 ((toldA B i).map XGot.ps))], 5, 128⟩) (fun i => i ≤ 4 + B.length) (fun i => 4 + B.length - i) 0 (Nat.zero_le _)
      (le_mk [(0, _), (1, _), (2, _), (3, _), (4, _)] rfl ⟨⟨rfl, rfl⟩, ⟨rfl, rfl⟩, ⟨rfl, rfl⟩, ⟨rfl, rfl⟩, ⟨rfl, rfl⟩, ⟨rfl, rfl⟩, ⟨rfl, rfl⟩, trivial⟩ ⟨⟨rfl, rfl⟩, ⟨rfl, rfl⟩, ⟨rfl, rfl⟩, ⟨rfl, rfl⟩, ⟨by rw [show toldA B 0 = [] by unfold toldA; rw [if_pos (by omega)]]; rfl, rfl⟩, trivial⟩ rfl) ?_
    intro i hi
    conv => whnf
    refine br_i (fun h => ?_) (fun h => ?_)
    · have hlt : i < A.length := by simpa using h
      have hs := hst i (by omega)
      have hH := m_AsciiHear (stA B w i) (bAt A i) 5 (stA_b hBb w i) (by show 0 ≤ (bAt A i) ∧ _; rw [bAt_get (List.getElem?_eq_getElem hlt)]; exact hAb _ (List.getElem_mem hlt)) (by have := stA_len B w i; omega)
      rw [hs] at hH
      have hgt : (A.map byteEl)[i]? = some (byteEl (bAt A i)) := by rw [List.getElem?_map, List.getElem?_eq_getElem hlt, bAt_get (List.getElem?_eq_getElem hlt)]; rfl
      have hO := m_AsciiOk (stA B w (i + 1))
      rw [stA_ok hw9 hB0 (by omega)] at hO
      have hT : toldA B i = [] := by unfold toldA; rw [if_pos (by omega)]
      have hT2 : toldA B (i + 1) = if i + 1 < 4 + B.length then [] else [gotA B] := rfl
      rw [hT]
      conv => whnf
      refine ⟨i, ⟨⟨rfl, by rw [List.length_map]; exact hlt⟩, rfl⟩, ?_⟩
      conv => whnf
      refine ⟨_, ⟨rfl, hgt⟩, ?_⟩
      conv => whnf
      refine call_i hH ?_
      conv => whnf
      refine And.intro rfl ?_
      conv => whnf
      refine Or.inl (call_i hO ?_)
      conv => whnf
      have hap : (if i + 1 < 4 + B.length then [] else [gotA B]) = toldA B (i + 1) := hT2.symm
      rw [hap]
      have hTl : (toldA B (i + 1)).length ≤ 1 := by unfold toldA; split <;> simp
      refine ⟨rfl, ?_⟩
      conv => whnf
      refine ⟨(toldA B (i + 1)).map XGot.ps, ⟨by show (0 + ((toldA B (i + 1)).map XGot.ps).length) * 40 ≤ 140737488355328; rw [List.length_map]; omega, rfl⟩, ?_⟩
      conv => whnf
      exact ⟨i + 1, ⟨by omega, by show 4 + B.length - (i + 1) < 4 + B.length - i; omega⟩, le_mk [(0, _), (1, _), (2, _), (3, _), (4, _)] rfl ⟨⟨rfl, rfl⟩, ⟨rfl, rfl⟩, ⟨rfl, rfl⟩, ⟨rfl, rfl⟩, ⟨rfl, rfl⟩, ⟨rfl, rfl⟩, ⟨ctr (by omega), rfl⟩, trivial⟩ ⟨⟨rfl, rfl⟩, ⟨rfl, rfl⟩, ⟨rfl, rfl⟩, ⟨rfl, rfl⟩, ⟨rfl, rfl⟩, trivial⟩ rfl⟩
    · have hk2 : i = 4 + B.length := by have := dge h; rw [List.length_map] at this; omega
      subst hk2
      have hT : toldA B (4 + B.length) = [⟨0, u, p⟩] := by
        unfold toldA
        rw [if_neg (by omega)]
        unfold gotA
        rw [hBg]
      rw [hT]
      conv => whnf
      refine ⟨0, ⟨⟨rfl, Nat.succ_pos _⟩, rfl⟩, ?_⟩
      conv => whnf
      refine ⟨_, ⟨rfl, rfl⟩, ?_⟩
      conv => whnf
      refine ⟨0, ⟨⟨rfl, Nat.succ_pos _⟩, rfl⟩, ?_⟩
      conv => whnf
      refine ⟨_, ⟨rfl, rfl⟩, ?_⟩
      conv => whnf
      refine br_i (fun _ => ?_) (fun h => absurd h (by simp))
      conv => whnf
      refine ⟨0, ⟨⟨rfl, Nat.succ_pos _⟩, rfl⟩, ?_⟩
      conv => whnf
      refine ⟨_, ⟨rfl, rfl⟩, ?_⟩
      conv => whnf
      refine call_i hS ?_
      conv => whnf
      have hOp : (stA B w (4 + B.length)).Open = false := by unfold stA; rw [if_neg (by omega), if_neg (by omega)]
      rw [hOp]
      conv => whnf
      exact leaf_i rfl rfl rfl
  · have hx2 : a3 ≠ 58 ∧ 0 ≤ a3 ∧ a3 < 256 := by simp at h; omega
    obtain ⟨x, hx⟩ : ∃ z : Int, z = a3 := ⟨_, rfl⟩
    rw [← hx] at hx2 ⊢
    clear hx h
    conv => whnf
    refine ⟨⟨rfl, flat_byte [13, 10, 120, x]⟩, ?_⟩
    conv => whnf
    refine ⟨[13, 10, 120, x].map byteEl, ⟨by show (0 + 4) * 1 ≤ 140737488355328; decide, rfl⟩, ?_⟩
    conv => whnf
    refine ⟨⟨rfl, flat_byte B⟩, ?_⟩
    conv => whnf
    have hst := fun i h => hstep w x i hw9 hx2.1 h
    have hAl : ([13, 10, 120, x] ++ B).length = 4 + B.length := by rw [List.length_append]; rfl
    have hAb : isBytes ([13, 10, 120, x] ++ B) := bytes_app (fun y hy => by simp at hy; omega) hBb
    refine ⟨([13, 10, 120, x] ++ B).map byteEl, ⟨by show (4 + (B.map byteEl).length) * 1 ≤ 140737488355328; rw [List.length_map]; omega, by rw [List.map_append]⟩, ?_⟩
    generalize [13, 10, 120, x] ++ B = A at *
    conv => whnf
    refine loop_i (fun i : Nat => ⟨envL [(0, .c (.pv (bytesP code))), (3, .c (.pv (.int .i64 u))), (4, .c (.row 3)), (9, .c (.ptr 0 0)), (11, .c (.row 1)), (12, .c (.row 4)), (13, .c (.pv (.int .i64 i)))], resL [(0, .box [.row 2, .pv (.bool (stA B w i).Open), .pv (.int .i64 (stA B w i).Last), .pv (.int .i64 (stA B w i).Wait)]), (1, .row true 1 (A.map byteEl)), (2, .row true 1 ((stA B w i).Buf.map byteEl)), (3, .row true 1 (p.map byteEl)), (4, .row true 3 ((toldA B i).map XGot.ps))], 5, 128⟩) (fun i => i ≤ 4 + B.length) (fun i => 4 + B.length - i) 0 (Nat.zero_le _)
      (le_mk [(0, _), (1, _), (2, _), (3, _), (4, _)] rfl ⟨⟨rfl, rfl⟩, ⟨rfl, rfl⟩, ⟨rfl, rfl⟩, ⟨rfl, rfl⟩, ⟨rfl, rfl⟩, ⟨rfl, rfl⟩, ⟨rfl, rfl⟩, trivial⟩ ⟨⟨rfl, rfl⟩, ⟨rfl, rfl⟩, ⟨rfl, rfl⟩, ⟨rfl, rfl⟩, ⟨by rw [show toldA B 0 = [] by unfold toldA; rw [if_pos (by omega)]]; rfl, rfl⟩, trivial⟩ rfl) ?_
    intro i hi
    conv => whnf
    refine br_i (fun h => ?_) (fun h => ?_)
    · have hlt : i < A.length := by simpa using h
      have hs := hst i (by omega)
      have hH := m_AsciiHear (stA B w i) (bAt A i) 5 (stA_b hBb w i) (by show 0 ≤ (bAt A i) ∧ _; rw [bAt_get (List.getElem?_eq_getElem hlt)]; exact hAb _ (List.getElem_mem hlt)) (by have := stA_len B w i; omega)
      rw [hs] at hH
      have hgt : (A.map byteEl)[i]? = some (byteEl (bAt A i)) := by rw [List.getElem?_map, List.getElem?_eq_getElem hlt, bAt_get (List.getElem?_eq_getElem hlt)]; rfl
      have hO := m_AsciiOk (stA B w (i + 1))
      rw [stA_ok hw9 hB0 (by omega)] at hO
      have hT : toldA B i = [] := by unfold toldA; rw [if_pos (by omega)]
      have hT2 : toldA B (i + 1) = if i + 1 < 4 + B.length then [] else [gotA B] := rfl
      rw [hT]
      conv => whnf
      refine ⟨i, ⟨⟨rfl, by rw [List.length_map]; exact hlt⟩, rfl⟩, ?_⟩
      conv => whnf
      refine ⟨_, ⟨rfl, hgt⟩, ?_⟩
      conv => whnf
      refine call_i hH ?_
      conv => whnf
      refine And.intro rfl ?_
      conv => whnf
      refine Or.inl (call_i hO ?_)
      conv => whnf
      have hap : (if i + 1 < 4 + B.length then [] else [gotA B]) = toldA B (i + 1) := hT2.symm
      rw [hap]
      have hTl : (toldA B (i + 1)).length ≤ 1 := by unfold toldA; split <;> simp
      refine ⟨rfl, ?_⟩
      conv => whnf
      refine ⟨(toldA B (i + 1)).map XGot.ps, ⟨by show (0 + ((toldA B (i + 1)).map XGot.ps).length) * 40 ≤ 140737488355328; rw [List.length_map]; omega, rfl⟩, ?_⟩
      conv => whnf
      exact ⟨i + 1, ⟨by omega, by show 4 + B.length - (i + 1) < 4 + B.length - i; omega⟩, le_mk [(0, _), (1, _), (2, _), (3, _), (4, _)] rfl ⟨⟨rfl, rfl⟩, ⟨rfl, rfl⟩, ⟨rfl, rfl⟩, ⟨rfl, rfl⟩, ⟨rfl, rfl⟩, ⟨rfl, rfl⟩, ⟨ctr (by omega), rfl⟩, trivial⟩ ⟨⟨rfl, rfl⟩, ⟨rfl, rfl⟩, ⟨rfl, rfl⟩, ⟨rfl, rfl⟩, ⟨rfl, rfl⟩, trivial⟩ rfl⟩
    · have hk2 : i = 4 + B.length := by have := dge h; rw [List.length_map] at this; omega
      subst hk2
      have hT : toldA B (4 + B.length) = [⟨0, u, p⟩] := by
        unfold toldA
        rw [if_neg (by omega)]
        unfold gotA
        rw [hBg]
      rw [hT]
      conv => whnf
      refine ⟨0, ⟨⟨rfl, Nat.succ_pos _⟩, rfl⟩, ?_⟩
      conv => whnf
      refine ⟨_, ⟨rfl, rfl⟩, ?_⟩
      conv => whnf
      refine ⟨0, ⟨⟨rfl, Nat.succ_pos _⟩, rfl⟩, ?_⟩
      conv => whnf
      refine ⟨_, ⟨rfl, rfl⟩, ?_⟩
      conv => whnf
      refine br_i (fun _ => ?_) (fun h => absurd h (by simp))
      conv => whnf
      refine ⟨0, ⟨⟨rfl, Nat.succ_pos _⟩, rfl⟩, ?_⟩
      conv => whnf
      refine ⟨_, ⟨rfl, rfl⟩, ?_⟩
      conv => whnf
      refine call_i hS ?_
      conv => whnf
      have hOp : (stA B w (4 + B.length)).Open = false := by unfold stA; rw [if_neg (by omega), if_neg (by omega)]
      rw [hOp]
      conv => whnf
      exact leaf_i rfl rfl rfl

end Go.Proofs.Ytkpffcjgjiljeaa
