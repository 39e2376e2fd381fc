/- A frame by silences comes back; one bit turned is told. -/
import Derived.Test.YtkpffcjgjiljeaaXGaps
namespace Go.Proofs.Ytkpffcjgjiljeaa
open Go Go.Vi
set_option linter.unusedVariables false
set_option linter.unusedSimpArgs false
set_option maxRecDepth 100000
theorem byteN_inj {s s' b : Nat} (hs : s < 65536) (hs' : s' < 65536) (hb : b < 256) (h : byteN s b = byteN s' b) : s = s' :=
  xor_cancel (roundsN_inj 8 (xor16 hs (by omega)) (xor16 hs' (by omega)) h)
theorem byteN_injb {s b b' : Nat} (hs : s < 65536) (hb : b < 256) (hb' : b' < 256) (h : byteN s b = byteN s b') : b = b' := by
  have h1 := roundsN_inj 8 (xor16 hs (show b < 65536 by omega)) (xor16 hs (show b' < 65536 by omega)) h
  rw [Nat.xor_comm s b, Nat.xor_comm s b'] at h1
  exact xor_cancel h1
theorem crc_inj : ∀ {l : List Int} {s s' : Nat}, isBytes l → s < 65536 → s' < 65536 → crcN s l = crcN s' l → s = s'
  | [], s, s', _, _, _, h => h
  | a :: l, s, s', hb, hs, hs', h => by
    have ha := hb a (List.mem_cons_self ..)
    have h1 := crc_inj (l := l) (fun x hx => hb x (List.mem_cons_of_mem _ hx)) (byteN_lt hs (by omega)) (byteN_lt hs' (by omega)) h
    exact byteN_inj hs hs' (by omega) h1
/-- One byte turned is told. -/
theorem crc_set : ∀ {l : List Int} {s j : Nat} {v : Int}, isBytes l → s < 65536 → (hj : j < l.length) → 0 ≤ v ∧ v < 256 → v ≠ l[j] → crcN s (l.set j v) ≠ crcN s l
  | [], s, j, v, _, _, hj, _, _ => by simp at hj
  | a :: l, s, 0, v, hb, hs, hj, hv, hne => by
    intro h
    have ha := hb a (List.mem_cons_self ..)
    have h1 := crc_inj (l := l) (fun x hx => hb x (List.mem_cons_of_mem _ hx)) (byteN_lt hs (by omega)) (byteN_lt hs (by omega)) (show crcN (byteN s v.toNat) l = crcN (byteN s a.toNat) l from h)
    have h2 := byteN_injb hs (by omega) (by omega) h1
    apply hne
    show v = a
    omega
  | a :: l, s, j + 1, v, hb, hs, hj, hv, hne => by
    have ha := hb a (List.mem_cons_self ..)
    exact crc_set (l := l) (fun x hx => hb x (List.mem_cons_of_mem _ hx)) (byteN_lt hs (by omega)) (by simpa using hj) hv (by simpa using hne)
theorem crc_put {u : Int} {p : List Int} (hu : 0 ≤ u ∧ u < 256) (hb : isBytes p) (hp : 1 ≤ p.length ∧ p.length ≤ 253) : crcN 65535 (putRtu u p) = 0 := by
  have hok : pduB u p = true := by simp [pduB, inB]; omega
  have hb2 : isBytes (u :: p) := fun x hx => by
    rcases List.mem_cons.1 hx with rfl | hx
    · exact hu
    · exact hb x hx
  have hc := crcN_lt (u :: p) 65535 hb2 (by decide)
  unfold putRtu
  rw [if_pos hok]
  have e : ∀ s : Nat, s < 65536 → ∀ a b : Nat, crcN s [(a : Int), (b : Int)] = byteN (byteN s a) b := fun s _ a b => rfl
  have e2 : ∀ (s : Nat) (l m : List Int), crcN s (l ++ m) = crcN (crcN s l) m := fun s l m => by unfold crcN; rw [List.foldl_append]
  rw [e2, e _ hc]
  exact (crc_ends hc (by omega) (by omega)).2 ⟨rfl, rfl⟩
theorem get_put {u : Int} {p : List Int} (hu : 0 ≤ u ∧ u < 256) (hb : isBytes p) (hp : 1 ≤ p.length ∧ p.length ≤ 253) : getRtu (putRtu u p) = (u, p, 0) := by
  have hl := putRtu_len hu hp
  rw [getRtu_impl _ (putRtu_b hu hb) (by omega) (by omega), if_pos (crc_put hu hb hp)]
  have hok : pduB u p = true := by simp [pduB, inB]; omega
  have e : putRtu u p = (u :: p) ++ [((crcN 65535 (u :: p) % 256 : Nat) : Int), ((crcN 65535 (u :: p) / 256 : Nat) : Int)] := by unfold putRtu; rw [if_pos hok]
  rw [e]
  refine Prod.ext rfl (Prod.ext ?_ rfl)
  show cutL _ 1 _ = p
  unfold cutL
  rw [show ((((u :: p) ++ [((crcN 65535 (u :: p) % 256 : Nat) : Int), ((crcN 65535 (u :: p) / 256 : Nat) : Int)]).length : Int) - 2).toNat = (u :: p).length by simp; omega, List.take_left]
  rfl
theorem get_turned {B : List Int} (hb : isBytes B) (hl : 4 ≤ B.length ∧ B.length ≤ 256) (h0 : crcN 65535 B = 0) {j : Nat} (hj : j < B.length) {v : Int} (hv : 0 ≤ v ∧ v < 256) (hne : v ≠ B[j]) : (getRtu (B.set j v)).2.2 = 3 := by
  have hb2 : isBytes (B.set j v) := fun x hx => by
    rcases List.mem_or_eq_of_mem_set hx with hx | rfl
    · exact hb x hx
    · exact hv
  have hc := crc_set hb (by decide : 65535 < 65536) hj hv hne
  rw [h0] at hc
  rw [getRtu_impl _ hb2 (by rw [List.length_set]; omega) (by rw [List.length_set]; omega), if_neg hc]
theorem gap_on {t d : Int} (ht : tickB t = true) (hd : 0 ≤ d ∧ d < 4294967296) : tickGap t (tickOn t d) = d ∧ tickB (tickOn t d) = true := by
  have hd2 : tickB d = true := by simp [tickB, inB]; omega
  have e : tickOn t d = (t + d) % 4294967296 := by unfold tickOn; rw [ht, hd2]; rfl
  have h2 : tickB ((t + d) % 4294967296) = true := by simp [tickB, inB]; omega
  rw [e]
  refine ⟨?_, h2⟩
  unfold tickGap
  rw [ht, h2]
  simp [tickB, inB] at ht
  simp only [Bool.and_self, if_true]
  omega
theorem xor_turn {x m : Int} (hx : 0 ≤ x ∧ x < 256) (hm : 0 ≤ m ∧ m < 8) :
    let v := IntKind.u8.wrap ((BitVec.ofInt IntKind.u8.bits x ^^^ BitVec.ofInt IntKind.u8.bits (IntKind.u8.wrap (1 * 2 ^ min (IntKind.u64.wrap m).toNat IntKind.u8.bits))).toNat : Int)
    (0 ≤ v ∧ v < 256) ∧ v ≠ x := by
  obtain ⟨n, rfl⟩ := Int.eq_ofNat_of_zero_le hx.1
  obtain ⟨k, rfl⟩ := Int.eq_ofNat_of_zero_le hm.1
  have hn : n < 256 := by omega
  have hk : k < 8 := by omega
  have e1 : (IntKind.u64.wrap (k : Int)).toNat = k := by
    show ((k : Int) % 18446744073709551616).toNat = k
    omega
  intro v
  refine ⟨⟨Int.emod_nonneg _ (by decide), Int.emod_lt_of_pos _ (by decide)⟩, ?_⟩
  have hv : v = IntKind.u8.wrap ((BitVec.ofInt 8 (n : Int) ^^^ BitVec.ofInt 8 (IntKind.u8.wrap (1 * 2 ^ min k 8))).toNat : Int) := by
    show IntKind.u8.wrap _ = _
    rw [e1]
    rfl
  rw [hv]
  have hb1 : BitVec.ofInt 8 (n : Int) = BitVec.ofNat 8 n := by
    apply BitVec.eq_of_toNat_eq
    rw [BitVec.toNat_ofInt, BitVec.toNat_ofNat]
    show ((n : Int) % 256).toNat = n % 256
    omega
  rw [hb1]
  intro h
  have h3 : ((BitVec.ofNat 8 n ^^^ BitVec.ofInt 8 (IntKind.u8.wrap (1 * 2 ^ min k 8))).toNat : Int) = n := by
    have hlt := (BitVec.ofNat 8 n ^^^ BitVec.ofInt 8 (IntKind.u8.wrap (1 * 2 ^ min k 8))).isLt
    have e : IntKind.u8.wrap ((BitVec.ofNat 8 n ^^^ BitVec.ofInt 8 (IntKind.u8.wrap (1 * 2 ^ min k 8))).toNat : Int) = ((BitVec.ofNat 8 n ^^^ BitVec.ofInt 8 (IntKind.u8.wrap (1 * 2 ^ min k 8))).toNat : Int) := u8wd (by omega) (by omega)
    rw [e] at h
    exact h
  have h4 : BitVec.ofNat 8 n ^^^ BitVec.ofInt 8 (IntKind.u8.wrap (1 * 2 ^ min k 8)) = BitVec.ofNat 8 n := by
    apply BitVec.eq_of_toNat_eq
    rw [BitVec.toNat_ofNat]
    omega
  have h5 : BitVec.ofInt 8 (IntKind.u8.wrap (1 * 2 ^ min k 8)) = 0#8 := by
    have := congrArg (BitVec.ofNat 8 n ^^^ ·) h4
    simpa [← BitVec.xor_assoc] using this
  clear h h3 h4 hv v e1 hb1
  match k, hk with
  | 0, _ => revert h5; decide
  | 1, _ => revert h5; decide
  | 2, _ => revert h5; decide
  | 3, _ => revert h5; decide
  | 4, _ => revert h5; decide
  | 5, _ => revert h5; decide
  | 6, _ => revert h5; decide
  | 7, _ => revert h5; decide
theorem hear_turn {B : List Int} {f last tick : Int} {k : Nat} (hf : 1 ≤ f ∧ f ≤ 5) (hB : B.length ≤ 256) (hk : k < B.length) (ht : tickB tick = true) (hl : tickB last = true) (hg : k = 0 ∨ tickGap last tick < f) :
    rtuHear ⟨B.take k, last, false, f, f + 3⟩ (bAt B k) tick = (⟨B.take (k + 1), tick, false, f, f + 3⟩, []) := by
  have hlen : (B.take k).length = k := by rw [List.length_take]; omega
  rw [hear_one (by simp [rtuOk, inB, hl, hlen]; omega) ht (by rw [hlen]; rcases hg with h | h; exact .inl h; exact .inr (by omega)) (by omega)]
  have e1 : B.take k ++ [bAt B k] = B.take (k + 1) := by
    rw [List.take_succ_eq_append_getElem hk]
    congr 2
    simp [bAt, hk]
  rw [e1, hlen]
  have e2 : (false || (decide ((k : Int) > 0) && decide (tickGap last tick ≥ f))) = false := by
    rcases hg with h | h
    · subst h; rfl
    · rw [decide_eq_false (p := tickGap last tick ≥ f) (by omega), Bool.and_false]; rfl
  rw [e2]
theorem wait_two {B : List Int} {f last : Int} (hf : 1 ≤ f ∧ f ≤ 5) (hl : tickB last = true) (hB : 1 ≤ B.length ∧ B.length ≤ 256) :
    rtuWait ⟨B.take B.length, last, false, f, f + 3⟩ (tickOn last (f + 2)) = (⟨B.take B.length, last, false, f, f + 3⟩, []) ∧
    rtuWait ⟨B.take B.length, last, false, f, f + 3⟩ (tickOn last (f + 3)) = (⟨[], last, false, f, f + 3⟩, [⟨(getRtu B).2.2, (getRtu B).1, (getRtu B).2.1⟩]) := by
  rw [List.take_length]
  obtain ⟨a1, a2⟩ := gap_on hl (d := f + 2) (by omega)
  obtain ⟨b1, b2⟩ := gap_on hl (d := f + 3) (by omega)
  have hok : rtuOk ⟨B, last, false, f, f + 3⟩ = true := by simp [rtuOk, inB, hl]; omega
  refine ⟨wait_stop ?_, ?_⟩
  · unfold waitStop
    rw [show tickGap (⟨B, last, false, f, f + 3⟩ : XRtu).Last (tickOn last (f + 2)) = f + 2 from a1, decide_eq_true (show f + 2 < (⟨B, last, false, f, f + 3⟩ : XRtu).Whole by show f + 2 < f + 3; omega), Bool.or_true]
  · rw [wait_go]
    · rfl
    · unfold waitStop
      rw [show tickGap (⟨B, last, false, f, f + 3⟩ : XRtu).Last (tickOn last (f + 3)) = f + 3 from b1, hok, b2, decide_eq_false (show ¬ (f + 3 < (⟨B, last, false, f, f + 3⟩ : XRtu).Whole) by show ¬ (f + 3 < f + 3); omega), decide_eq_false (show ¬ ((⟨B, last, false, f, f + 3⟩ : XRtu).Buf.length : Int) = 0 by show ¬ (B.length : Int) = 0; omega)]
      rfl
set_option maxHeartbeats 4000000 in
theorem law_FnRtu (code : List Int) (hw : ∀ q0, q0 ∈ code → (Lit.int .u8 q0).wf = true) : PureC Try.prog 5 [bytesV code] [boolv true] := by
  refine pureC_of (Γ := lookT tbl) (il := ilist) tg dr Try.func5 rfl (by kernel_rfl) rfl (Nat.le_of_ble_eq_true rfl) ?_
  have hbc : isBytes code := fun q hq => wf_u8 (hw q hq)
  conv => whnf
  refine call_i (l_big code) ?_
  conv => whnf
  refine br_i (fun h => ?_) (fun h => ?_)
  · conv => whnf
    exact leaf_i rfl rfl rfl
  have hlc : code.length ≤ 1048576 := by simp [bigB] at h; omega
  conv => whnf
  refine inl_nd (Γ := lookT tbl) [22] ?_
  conv => whnf
  refine nd_i (d_Frame code hlc) ?_
  rintro _ ⟨u, p, rfl, hu, hp, hbp⟩
  conv => whnf
  refine call_i (m_PutRtu u p hbp) ?_
  have hBl := putRtu_len hu hp
  have hBb := putRtu_b hu hbp
  have hBg := get_put hu hbp hp
  have hB0 := crc_put hu hbp hp
  generalize putRtu u p = B at *
  have hG := m_GetRtu B hBb (by omega)
  rw [hBg] at hG
  have hS := eqSameB p p
  rw [decide_eq_true rfl] at hS
  conv => whnf
  refine call_i hG ?_
  conv => whnf
  refine br_i (fun h => absurd h (by simp)) (fun _ => ?_)
  conv => whnf
  refine call_i hS ?_
  conv => whnf
  have ha2 := atI_b hbc 2
  have hat2 := l_at code hbc hlc 2 (by decide) (by decide)
  have ha3 := atI_b hbc 3
  have hat3 := l_at code hbc hlc 3 (by decide) (by decide)
  have ha4 := atI_b hbc 4
  have hat4 := l_at code hbc hlc 4 (by decide) (by decide)
  have ha5 := atI_b hbc 5
  have hat5 := l_at code hbc hlc 5 (by decide) (by decide)
  have ha6 := atI_b hbc 6
  have hat6 := l_at code hbc hlc 6 (by decide) (by decide)
  generalize atI code 2 = a2 at *
  generalize atI code 3 = a3 at *
  generalize atI code 4 = a4 at *
  generalize atI code 5 = a5 at *
  generalize atI code 6 = a6 at *
  refine call_i hat2 ?_
  conv => whnf
  refine call_i hat3 ?_
  conv => whnf
  rw [List.length_map, wrap_ok (x := a2 * 256) (by omega) (by omega), wrap_ok (x := a2 * 256 + a3) (by omega) (by omega), wrap_ok (x := 8 * (B.length : Int)) (by omega) (by omega)]
  refine And.intro (by omega) ?_
  conv => whnf
  have hq := rem_b (x := a2 * 256 + a3) (n := 8 * (B.length : Int)) (by omega) (by omega)
  generalize (a2 * 256 + a3).tmod (8 * (B.length : Int)) = q at *
  refine ⟨⟨rfl, flat_byte B⟩, ?_⟩
  conv => whnf
  refine ⟨B.map byteEl, ⟨by show (0 + (B.map byteEl).length) * 1 ≤ _; rw [List.length_map]; omega, rfl⟩, ?_⟩
  conv => whnf
  refine And.intro (by decide) ?_
  conv => whnf
  have hj : q.toNat / 8 < B.length := by omega
  have q1 : IntKind.i64.wrap (q.tdiv 8) = ((q.toNat / 8 : Nat) : Int) := by
    rw [Int.tdiv_eq_ediv_of_nonneg (by omega), wrap_ok (by omega) (by omega)]; omega
  have hm := rem_b (x := q) (n := 8) hq.1 (by decide)
  refine ⟨q.toNat / 8, ⟨⟨q1, by rw [List.length_map]; exact hj⟩, rfl⟩, ?_⟩
  conv => whnf
  refine ⟨_, ⟨rfl, by rw [List.getElem?_map, List.getElem?_eq_getElem hj]; rfl⟩, ?_⟩
  conv => whnf
  refine And.intro (by decide) ?_
  conv => whnf
  refine And.intro (Int.emod_nonneg _ (by decide)) ?_
  conv => whnf
  refine ⟨q.toNat / 8, ⟨⟨q1, by rw [List.length_map]; exact hj⟩, rfl⟩, ?_⟩
  conv => whnf
  have hx := xor_turn (x := B[q.toNat / 8]) (m := q.tmod 8) (hBb _ (List.getElem_mem hj)) hm
  generalize hV : IntKind.u8.wrap ((BitVec.ofInt IntKind.u8.bits B[q.toNat / 8] ^^^ BitVec.ofInt IntKind.u8.bits (IntKind.u8.wrap (1 * 2 ^ min (IntKind.u64.wrap (q.tmod 8)).toNat IntKind.u8.bits))).toNat : Int) = V at hx
  refine ⟨(B.set (q.toNat / 8) V).map byteEl, ⟨rfl, by rw [List.length_map]; exact hj, by decide, by rw [← hV]; exact set_map (PV.int .u8) B (q.toNat / 8) _⟩, ?_⟩
  conv => whnf
  have hT := m_GetRtu (B.set (q.toNat / 8) V) (fun x hx2 => by
    rcases List.mem_or_eq_of_mem_set hx2 with hx2 | rfl
    · exact hBb x hx2
    · exact hx.1) (by rw [List.length_set]; omega)
  have hT3 := get_turned hBb (by omega) hB0 hj hx.1 hx.2
  rw [hT3] at hT
  generalize getRtu (B.set (q.toNat / 8) V) = Y at hT
  refine call_i hT ?_
  conv => whnf
  refine call_i hat4 ?_
  conv => whnf
  refine And.intro (by decide) ?_
  conv => whnf
  have hh := rem_b (x := a4) (n := 5) ha4.1 (by decide)
  generalize a4.tmod 5 = a at *
  rw [wrap_ok (x := 1 + a) (by omega) (by omega), wrap_ok (x := 1 + a + 3) (by omega) (by omega)]
  have hN := m_RtuNew (1 + a) (1 + a + 3)
  rw [show rtuNew (1 + a) (1 + a + 3) = ⟨[], 0, false, 1 + a, 1 + a + 3⟩ by simp [rtuNew, rtuOk, inB, tickB]; omega] at hN
  have hfx : ∃ f, f = 1 + a := ⟨_, rfl⟩
  obtain ⟨f, hfx⟩ := hfx
  rw [← hfx] at hN ⊢
  have hf : 1 ≤ f ∧ f ≤ 5 := by omega
  refine call_i hN ?_
  conv => whnf
  refine call_i hat5 ?_
  conv => whnf
  rw [wrap_ok (x := a5 * 16843009) (by omega) (by omega)]
  have hstep := fun (k : Nat) (last tick : Int) (hk : k < B.length) (ht : tickB tick = true) (hl : tickB last = true) (hg : k = 0 ∨ tickGap last tick < f) => hear_turn (B := B) (f := f) (k := k) hf (by omega) hk ht hl hg
  refine loop_i (fun s : Nat × Int × Int => ⟨envL [(0, .c (.pv (bytesP code))), (3, .c (.pv (.int .i64 u))), (4, .c (.row 3)), (5, .c (.row 1)), (13, .c (.pv (.int .i64 3))), (14, .c (.pv (.int .i64 f))), (15, .c (.ptr 0 0)), (16, .c (.pv (.int .i64 s.2.2))), (17, .c (.pv (.int .i64 s.1)))], resL [(0, .box [.row 2, .pv (.int .i64 s.2.1), .pv (.bool false), .pv (.int .i64 f), .pv (.int .i64 (f + 3))]), (1, .row true 1 (B.map byteEl)), (2, .row true 1 ((B.take s.1).map byteEl)), (3, .row true 1 (p.map byteEl))], 4, 188⟩)
    (fun s => s.1 ≤ B.length ∧ tickB s.2.2 = true ∧ tickB s.2.1 = true ∧ (s.1 = 0 ∨ tickGap s.2.1 s.2.2 < f)) (fun s => B.length - s.1) (0, 0, a5 * 16843009) ⟨Nat.zero_le _, by simp [tickB, inB]; omega, rfl, .inl rfl⟩
    (le_mk [(0, _), (1, _), (2, _), (3, _)] rfl ⟨⟨rfl, rfl⟩, ⟨rfl, rfl⟩, ⟨rfl, rfl⟩, ⟨rfl, rfl⟩, ⟨rfl, rfl⟩, ⟨rfl, rfl⟩, ⟨rfl, rfl⟩, ⟨rfl, rfl⟩, ⟨rfl, rfl⟩, trivial⟩ ⟨⟨rfl, rfl⟩, ⟨rfl, rfl⟩, ⟨rfl, rfl⟩, ⟨rfl, rfl⟩, trivial⟩ rfl) ?_
  rintro ⟨k, last, tick⟩ ⟨hk, ht, hl, hg⟩
  dsimp only at hk ht hl hg
  conv => whnf
  refine br_i (fun h => ?_) (fun h => ?_)
  · have hlt : k < B.length := by simpa using h
    have hs := hstep k last tick hlt ht hl hg
    have hH := m_RtuHear ⟨B.take k, last, false, f, f + 3⟩ (bAt B k) tick (fun x hx => hBb x (List.mem_of_mem_take hx)) (by show (B.take k).length ≤ _; rw [List.length_take]; omega)
    rw [hs] at hH
    have hgt : (B.map byteEl)[k]? = some (byteEl (bAt B k)) := by rw [List.getElem?_map, List.getElem?_eq_getElem hlt]; simp [bAt, hlt]
    have hO := m_RtuOk ⟨B.take (k + 1), tick, false, f, f + 3⟩
    rw [show rtuOk ⟨B.take (k + 1), tick, false, f, f + 3⟩ = true by simp [rtuOk, inB, ht]; omega] at hO
    conv => whnf
    refine ⟨k, ⟨⟨rfl, by rw [List.length_map]; exact hlt⟩, rfl⟩, ?_⟩
    conv => whnf
    refine ⟨_, ⟨rfl, hgt⟩, ?_⟩
    conv => whnf
    refine call_i hH ?_
    conv => whnf
    refine And.intro rfl ?_
    conv => whnf
    refine Or.inl (call_i hO ?_)
    conv => whnf
    refine call_i hat6 ?_
    conv => whnf
    rw [wrap_ok (x := a6 + (k : Int)) (by omega) (by omega)]
    refine And.intro (by omega) ?_
    conv => whnf
    have hd := rem_b (x := a6 + (k : Int)) (n := f) (by omega) (by omega)
    generalize (a6 + (k : Int)).tmod f = d at *
    refine call_i (m_TickOn tick d) ?_
    obtain ⟨g1, g2⟩ := gap_on ht (d := d) (by omega)
    conv => whnf
    exact ⟨(k + 1, tick, tickOn tick d), ⟨⟨hlt, g2, ht, .inr (by rw [g1]; omega)⟩, by show B.length - (k + 1) < B.length - k; omega⟩, le_mk [(0, _), (1, _), (2, _), (3, _)] rfl ⟨⟨rfl, rfl⟩, ⟨rfl, rfl⟩, ⟨rfl, rfl⟩, ⟨rfl, rfl⟩, ⟨rfl, rfl⟩, ⟨rfl, rfl⟩, ⟨rfl, rfl⟩, ⟨rfl, rfl⟩, ⟨ctr (by omega), rfl⟩, trivial⟩ ⟨⟨rfl, rfl⟩, ⟨rfl, rfl⟩, ⟨rfl, rfl⟩, ⟨rfl, rfl⟩, trivial⟩ rfl⟩
  · have hk2 : k = B.length := by have := of_decide_eq_false h; rw [List.length_map] at this; dsimp only at this; omega
    subst hk2
    have hW1 := m_RtuWait ⟨B.take B.length, last, false, f, f + 3⟩ (tickOn last (f + 2)) (fun x hx => hBb x (List.mem_of_mem_take hx)) (by show (B.take B.length).length ≤ _; rw [List.length_take]; omega)
    obtain ⟨w1, w2⟩ := wait_two (B := B) (last := last) (f := f) hf hl (by omega)
    have hW2 := m_RtuWait ⟨B.take B.length, last, false, f, f + 3⟩ (tickOn last (f + 3)) (fun x hx => hBb x (List.mem_of_mem_take hx)) (by show (B.take B.length).length ≤ _; rw [List.length_take]; omega)
    rw [w1] at hW1
    rw [w2, hBg] at hW2
    conv => whnf
    rw [wrap_ok (x := f + 2) (by omega) (by omega)]
    refine call_i (m_TickOn last (f + 2)) ?_
    conv => whnf
    refine call_i hW1 ?_
    conv => whnf
    refine And.intro rfl ?_
    conv => whnf
    rw [wrap_ok (x := f + 3) (by omega) (by omega)]
    refine call_i (m_TickOn last (f + 3)) ?_
    conv => whnf
    refine call_i hW2 ?_
    conv => whnf
    refine And.intro rfl ?_
    conv => whnf
    refine ⟨0, ⟨⟨rfl, Nat.succ_pos _⟩, rfl⟩, ?_⟩
    conv => whnf
    refine ⟨_, ⟨rfl, rfl⟩, ?_⟩
    conv => whnf
    refine ⟨0, ⟨⟨rfl, Nat.succ_pos _⟩, rfl⟩, ?_⟩
    conv => whnf
    refine ⟨_, ⟨rfl, rfl⟩, ?_⟩
    conv => whnf
    refine br_i (fun _ => ?_) (fun h => absurd h (by simp))
    conv => whnf
    refine ⟨0, ⟨⟨rfl, Nat.succ_pos _⟩, rfl⟩, ?_⟩
    conv => whnf
    refine ⟨_, ⟨rfl, rfl⟩, ?_⟩
    conv => whnf
    refine call_i hS ?_
    conv => whnf
    exact leaf_i rfl rfl rfl

end Go.Proofs.Ytkpffcjgjiljeaa
