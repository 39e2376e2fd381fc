/- A frame comes back of its bytes. -/
import Derived.Test.YtkpffcjgjiljeaaXGaps
namespace Go.Proofs.Ytkpffcjgjiljeaa
open Go Go.Vi
set_option linter.unusedVariables false
set_option linter.unusedSimpArgs false
set_option maxRecDepth 100000
theorem w16_b {a b : Int} (ha : 0 ≤ a ∧ a < 256) (hb : 0 ≤ b ∧ b < 256) : w16 a b = a * 256 + b := by
  obtain ⟨n, rfl⟩ := Int.eq_ofNat_of_zero_le ha.1
  obtain ⟨m, rfl⟩ := Int.eq_ofNat_of_zero_le hb.1
  unfold w16
  rw [wrap_ok (x := (n : Int)) (by omega) (by omega), wrap_ok (x := (m : Int)) (by omega) (by omega)]
  have e : (n : Int) * 2 ^ min (Int.toNat 8) IntKind.i64.bits = ((n * 256 : Nat) : Int) := by
    show (n : Int) * 256 = _
    omega
  rw [e, wrap_ok (x := ((n * 256 : Nat) : Int)) (by omega) (by omega)]
  have h : (BitVec.ofInt IntKind.i64.bits ((n * 256 : Nat) : Int) ||| BitVec.ofInt IntKind.i64.bits (m : Int)).toNat = n * 256 + m := by
    rw [BitVec.toNat_or, BitVec.toNat_ofInt, BitVec.toNat_ofInt]
    have e1 : (((n * 256 : Nat) : Int) % (2 ^ IntKind.i64.bits : Nat)).toNat = 2 ^ 8 * n := by
      show (((n * 256 : Nat) : Int) % ((2 ^ 64 : Nat) : Int)).toNat = _
      omega
    have e2 : ((m : Int) % (2 ^ IntKind.i64.bits : Nat)).toNat = m := by
      show ((m : Int) % ((2 ^ 64 : Nat) : Int)).toNat = _
      omega
    rw [e1, e2, ← Nat.two_pow_add_eq_or_of_lt (show m < 2 ^ 8 by omega)]
    omega
  rw [h, wrap_ok (by omega) (by omega)]
  omega
theorem w16_word {n : Int} (h : 0 ≤ n ∧ n < 65536) : w16 (n / 256) (n % 256) = n := by
  rw [w16_b (by omega) (by omega)]
  omega
/-- A frame's bytes, one by one. -/
def frameL (t u : Int) (p : List Int) : List Int := t / 256 :: t % 256 :: 0 :: 0 :: ((p.length : Int) + 1) / 256 :: ((p.length : Int) + 1) % 256 :: u :: p
theorem putMbap_frame {t u : Int} {p : List Int} (h : (inB t 0 65535 && pduB u p) = true) : putMbap t u p = frameL t u p := by
  unfold putMbap
  rw [if_pos h]
  rfl
theorem frame_len (t u : Int) (p : List Int) : (frameL t u p).length = p.length + 7 := rfl
theorem bAt_app {l r : List Int} {i : Int} (h : 0 ≤ i ∧ i < l.length) : bAt (l ++ r) i = bAt l i := by
  unfold bAt
  rw [List.getD_eq_getElem?_getD, List.getD_eq_getElem?_getD, List.getElem?_append_left (by omega)]
theorem bAt_take {l : List Int} {m : Nat} {i : Int} (h : 0 ≤ i) : bAt (l.take m) i = if i < m then bAt l i else 0 := by
  unfold bAt
  rw [List.getD_eq_getElem?_getD, List.getD_eq_getElem?_getD, List.getElem?_take]
  by_cases h2 : i < m
  · rw [if_pos (by omega), if_pos h2]
  · rw [if_neg (by omega), if_neg h2]; rfl
theorem word_in {l : List Int} {i : Int} (h0 : 0 ≤ i) (h1 : i + 2 ≤ l.length) (hL : l.length ≤ 1000000) : wordAt l i = (w16 (bAt l i) (bAt l (i + 1)), true) := by
  unfold wordAt
  rw [show wrap64 ((l.length : Int) - 2) = (l.length : Int) - 2 from wrap_ok (by omega) (by omega), if_pos (by simp [inB]; omega), show wrap64 (i + 1) = i + 1 from wrap_ok (by omega) (by omega)]
theorem word_out {l : List Int} {i : Int} (h1 : l.length < i + 2) (hL : l.length ≤ 1000000) : wordAt l i = (0, false) := by
  unfold wordAt
  rw [show wrap64 ((l.length : Int) - 2) = (l.length : Int) - 2 from wrap_ok (by omega) (by omega), if_neg (by simp [inB]; omega)]
theorem frame_at (t u : Int) (p : List Int) : bAt (frameL t u p) 0 = t / 256 ∧ bAt (frameL t u p) 1 = t % 256 ∧ bAt (frameL t u p) 2 = 0 ∧ bAt (frameL t u p) 3 = 0 ∧ bAt (frameL t u p) 4 = ((p.length : Int) + 1) / 256 ∧ bAt (frameL t u p) 5 = ((p.length : Int) + 1) % 256 ∧ bAt (frameL t u p) 6 = u := ⟨rfl, rfl, rfl, rfl, rfl, rfl, rfl⟩
theorem frame_back {t u : Int} {p r : List Int} (ht : 0 ≤ t ∧ t < 65536) (hu : 0 ≤ u ∧ u < 256) (hp : 1 ≤ p.length ∧ p.length ≤ 253) (hr : r.length ≤ 1000) : nextMbap (frameL t u p ++ r) = ⟨t, u, p, (p.length : Int) + 7, 1⟩ := by
  have hl : (frameL t u p ++ r).length = p.length + 7 + r.length := by rw [List.length_append, frame_len]
  have hb : ∀ i : Int, 0 ≤ i → i ≤ 6 → bAt (frameL t u p ++ r) i = bAt (frameL t u p) i := fun i h h2 => bAt_app (by rw [frame_len]; omega)
  obtain ⟨b0, b1, b2, b3, b4, b5, b6⟩ := frame_at t u p
  have w0 : wordAt (frameL t u p ++ r) 0 = (t, true) := by
    rw [word_in (by decide) (by rw [hl]; omega) (by rw [hl]; omega), hb 0 (by decide) (by decide), hb (0 + 1) (by decide) (by decide), b0, show bAt (frameL t u p) (0 + 1) = t % 256 from b1, w16_word ht]
  have w4 : wordAt (frameL t u p ++ r) 4 = ((p.length : Int) + 1, true) := by
    rw [word_in (by decide) (by rw [hl]; omega) (by rw [hl]; omega), hb 4 (by decide) (by decide), hb (4 + 1) (by decide) (by decide), b4, show bAt (frameL t u p) (4 + 1) = _ from b5, w16_word (by omega)]
  have e6 : wrap64 (6 + ((p.length : Int) + 1)) = (p.length : Int) + 7 := by rw [show wrap64 (6 + ((p.length : Int) + 1)) = 6 + ((p.length : Int) + 1) from wrap_ok (by omega) (by omega)]; omega
  rw [nm_good]
  · rw [w0, w4, hb 6 (by decide) (by decide), b6]
    dsimp only
    rw [e6, show wC u = u from wrap_ok (by omega) (by omega)]
    congr 1
    unfold cutL
    rw [show ((p.length : Int) + 7).toNat = (frameL t u p).length by rw [frame_len]; omega, List.take_left]
    rfl
  · unfold nmBad
    rw [w4, hb 2 (by decide) (by decide), hb 3 (by decide) (by decide), b2, b3]
    simp [inB]
    omega
  · unfold nmWait
    rw [w4]
    dsimp only
    rw [e6, hl]
    simp
    omega
theorem frame_cut {t u : Int} {p : List Int} (hp : 1 ≤ p.length ∧ p.length ≤ 253) {m : Nat} (hm : m < p.length + 7) : (nextMbap ((frameL t u p).take m)).code = 0 := by
  have hl : ((frameL t u p).take m).length = m := by rw [List.length_take, frame_len]; omega
  obtain ⟨b0, b1, b2, b3, b4, b5, b6⟩ := frame_at t u p
  have z2 : bAt ((frameL t u p).take m) 2 = 0 := by rw [bAt_take (by decide), b2]; split <;> rfl
  have z3 : bAt ((frameL t u p).take m) 3 = 0 := by rw [bAt_take (by decide), b3]; split <;> rfl
  by_cases h6 : m < 6
  · have w4 := word_out (l := (frameL t u p).take m) (i := 4) (by rw [hl]; omega) (by rw [hl]; omega)
    rw [nm_wait]
    · unfold nmBad
      rw [w4, z2, z3]
      simp
    · unfold nmWait
      rw [w4]
      simp
  · have w4 : wordAt ((frameL t u p).take m) 4 = ((p.length : Int) + 1, true) := by
      rw [word_in (by decide) (by rw [hl]; omega) (by rw [hl]; omega), bAt_take (by decide), bAt_take (by decide), if_pos (by omega), if_pos (by omega), b4, show bAt (frameL t u p) (4 + 1) = _ from b5, w16_word (by omega)]
    rw [nm_wait]
    · unfold nmBad
      rw [w4, z2, z3]
      simp [inB]
      omega
    · unfold nmWait
      rw [w4]
      dsimp only
      rw [show wrap64 (6 + ((p.length : Int) + 1)) = 6 + ((p.length : Int) + 1) from wrap_ok (by omega) (by omega), hl]
      simp
      omega
theorem d_PutMbap (code : List Int) (hl : code.length ≤ 1048576) : NdC Try.prog 9 [bytesV code] (fun rs => ∃ (n u : Int) (b : List Int), rs = [i64v n, i64v u, bytesV b] ∧ b.length ≤ 255 ∧ isBytes b) := by
  refine ndC_of (Γ := lookT tbl) (il := ilist) tg dr Try.func9 rfl (by kernel_rfl) rfl (Nat.le_of_ble_eq_true rfl) ?_
  have hP := d_PutRtu code hl
  have hI := d_Int code (by omega) [0, 1, 65535, 65536, -1, 300] (by decide)
  have newI := fun {k : Nat} (hb : (k : Int) < (code.map byteEl).length) => newI (L := code.map byteEl) (code := code) hb rfl
  have hL : (code.map byteEl).length ≤ 1048576 := by rw [List.length_map]; exact hl
  unfold bytesV bytesP at *
  generalize code.map byteEl = L at *
  conv => whnf
  refine inl_of (Γ := lookT tbl) (il := ilist) tg dr Try.func34 rfl (by kernel_rfl) rfl (ts := [22]) (Nat.le_of_ble_eq_true rfl) ?_
  conv => whnf
  refine loop_i (fun s : Nat × Int => ⟨envL [(0, .c (.pv (.sl 1 L))), (3, .c (.pv (.int .i64 s.2))), (4, .c (.pv (.int .i64 s.1)))], resL [(4096, .env [(0, .c (.pv (.sl 1 L)))])], 4096 + 1, 32⟩) (fun s => s.1 ≤ L.length) (fun s => L.length - s.1) (0, _) (Nat.zero_le _) (le_mk [] rfl ⟨⟨rfl, rfl⟩, ⟨rfl, rfl⟩, ⟨rfl, rfl⟩, trivial⟩ ⟨⟨⟨rfl, rfl⟩, _, rfl, ⟨rfl, rfl⟩, trivial⟩, trivial⟩ rfl) ?_
  rintro ⟨k, h⟩ hk
  dsimp only at hk
  conv => whnf
  refine br_i (fun hb => ?_) (fun hb => ?_)
  focus
    have hb : (k : Int) < L.length := by simpa using hb
    conv => whnf
    refine br_i (fun hb2 => ?_) (fun hb2 => ?_)
    focus
      conv => whnf
      refine ⟨_, ⟨⟨by omega, newI hb⟩, rfl⟩, ?_⟩
      conv => whnf
      exact ⟨(k + 1, _), ⟨by show k + 1 ≤ L.length; omega, by show L.length - (k + 1) < L.length - k; omega⟩, le_mk [] rfl ⟨⟨rfl, rfl⟩, ⟨rfl, rfl⟩, ⟨ctr (by omega), rfl⟩, trivial⟩ ⟨⟨⟨rfl, rfl⟩, _, rfl, ⟨rfl, rfl⟩, trivial⟩, trivial⟩ rfl⟩
  all_goals
    conv => whnf
    refine inl_cur (Γ := lookT tbl) [65] ?_
    conv => whnf
    refine cur_i hI (by decide) ?_
    rintro _ i h ⟨n, rfl, hn⟩ hi
    conv => whnf
    refine inl_nd (Γ := lookT tbl) [22] ?_
    conv => whnf
    refine nd_i hP ?_
    rintro _ ⟨u, b, rfl, hu, hb, hbb⟩
    conv => whnf
    refine leaf_i rfl rfl ?_
    exact ⟨n, u, b, rfl, hb, hbb⟩
theorem law_FnMbap (code : List Int) (hw : ∀ q0, q0 ∈ code → (Lit.int .u8 q0).wf = true) : PureC Try.prog 3 [bytesV code] [boolv true] := by
  refine pureC_of (Γ := lookT tbl) (il := ilist) tg dr Try.func3 rfl (by kernel_rfl) rfl (Nat.le_of_ble_eq_true rfl) ?_
  have hbc : isBytes code := fun q hq => wf_u8 (hw q hq)
  conv => whnf
  refine call_i (l_big code) ?_
  conv => whnf
  refine br_i (fun h => ?_) (fun h => ?_)
  · conv => whnf
    exact leaf_i rfl rfl rfl
  have hlc : code.length ≤ 1048576 := by simp [bigB] at h; omega
  conv => whnf
  refine inl_nd (Γ := lookT tbl) [22] ?_
  conv => whnf
  refine nd_i (d_PutMbap code hlc) ?_
  rintro _ ⟨n, u, p, rfl, hp, hbp⟩
  conv => whnf
  refine call_i (m_PutMbap n u p hbp) ?_
  conv => whnf
  refine call_i (s_PutMbap n u p hbp) ?_
  conv => whnf
  cases hok : inB n 0 65535 && pduB u p with
  | false =>
    rw [show putMbap n u p = [] by unfold putMbap; rw [if_neg (by rw [hok]; decide)]]
    conv => whnf
    exact leaf_i rfl rfl rfl
  | true =>
    rw [putMbap_frame hok]
    have hn : 0 ≤ n ∧ n < 65536 := by simp [inB] at hok; omega
    have hu : 0 ≤ u ∧ u < 256 := by simp [inB, pduB] at hok; omega
    have hp2 : 1 ≤ p.length ∧ p.length ≤ 253 := by simp [inB, pduB] at hok; omega
    have hFl : (frameL n u p).length = p.length + 7 := frame_len n u p
    have hF := frame_back (p := p) (r := [1, 2]) hn hu hp2 (by decide)
    have hC := fun (m : Nat) (h : m < p.length + 7) => frame_cut (t := n) (u := u) hp2 h
    have ha2 := atI_b hbc 2
    have hat := l_at code hbc hlc 2 (by decide) (by decide)
    have hN := m_NextMbap (frameL n u p ++ [1, 2])
    rw [hF] at hN
    have hS := eqSameB p p
    rw [decide_eq_true rfl] at hS
    have hCm := fun m => m_NextMbap ((frameL n u p).take m)
    clear hF
    generalize frameL n u p = F at *
    generalize atI code 2 = a2 at *
    refine br_i (fun h => ?_) (fun h => ?_)
    · have h := eq_of_beq h
      rw [List.length_map] at h
      omega
    conv => whnf
    refine ⟨⟨rfl, flat_byte F⟩, ?_⟩
    conv => whnf
    refine ⟨F.map byteEl, ⟨by show (0 + (F.map byteEl).length) * 1 ≤ _; rw [List.length_map]; omega, rfl⟩, ?_⟩
    conv => whnf
    refine ⟨⟨rfl, flat_byte [1, 2]⟩, ?_⟩
    conv => whnf
    refine ⟨(F ++ [1, 2]).map byteEl, ⟨by show ((F.map byteEl).length + 2) * 1 ≤ _; rw [List.length_map]; omega, by rw [List.map_append]; rfl⟩, ?_⟩
    conv => whnf
    refine call_i hN ?_
    conv => whnf
    refine call_i hat ?_
    conv => whnf
    rw [List.length_map]
    refine And.intro (by omega) ?_
    conv => whnf
    have hq := rem_b (x := a2) (n := (F.length : Int)) ha2.1 (by omega)
    generalize a2.tmod (F.length : Int) = q at *
    refine ⟨(F.take q.toNat).map byteEl, cut_to byteEl 1 F q q.toNat (by omega) (by omega), Or.inl ?_⟩
    conv => whnf
    have hX := hCm q.toNat
    have hc0 := hC q.toNat (by omega)
    generalize nextMbap (F.take q.toNat) = X at hX hc0
    obtain ⟨x1, x2, x3, x4, x5⟩ := X
    dsimp only at hc0
    subst hc0
    refine call_i hX ?_
    have e1 : (((p.length : Int) + 7) == ((F.map byteEl).length : Int)) = true := by rw [List.length_map, beq_iff_eq]; omega
    (repeat' ((conv => whnf); first | exact leaf_i rfl rfl rfl | (refine br_i ?_ ?_; rotate_left; (· (intro h; exfalso; first | (simp at h; done) | (rw [e1] at h; cases h))); intro _) | refine call_i hS ?_))

end Go.Proofs.Ytkpffcjgjiljeaa
