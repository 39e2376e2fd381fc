/- Bytes of a stream in two pieces. -/
import Derived.Test.YtkpffcjgjiljeaaXMbap
namespace Go.Proofs.Ytkpffcjgjiljeaa
open Go Go.Vi
set_option linter.unusedVariables false
set_option linter.unusedSimpArgs false
set_option maxRecDepth 100000
theorem putMbap_size {t u : Int} {p : List Int} (h : p.length ≤ 253) : (putMbap t u p).length ≤ 260 := by
  unfold putMbap
  split
  · simp [wordL]; omega
  · simp
theorem putMbap_b {t u : Int} {p : List Int} (hb : isBytes p) : isBytes (putMbap t u p) := by
  unfold putMbap
  split
  · rename_i h
    simp [inB, pduB] at h
    refine bytes_app (bytes_app (bytes_app (bytes_app (word_b (by omega)) (word_b (by omega))) (word_b (by omega))) fun x hx => ?_) hb
    simp at hx
    omega
  · intro x hx; cases hx
theorem d_l8Bytes (code : List Int) (hl : code.length ≤ 1048576) (m : Int) (hm : 0 < m) (hm2 : m ≤ 100) : CurC Try.prog 54 1 (code.map byteEl) [i64v m] (fun rs => ∃ b : List Int, rs = [bytesV b] ∧ b.length ≤ 30000 ∧ isBytes b) := by
  refine curC_of (Γ := lookT tbl) (il := ilist) tg dr Try.func54 rfl (by kernel_rfl) rfl (Nat.le_of_ble_eq_true rfl) ?_
  intro i h hi
  have hB := d_Below code (by omega)
  have hI := d_Int code (by omega)
  have hS := d_Some code (by omega)
  generalize code.map byteEl = L at *
  conv => whnf
  refine inl_cur (Γ := lookT tbl) [3] ?_
  conv => whnf
  refine cur_i (hB m hm) hi ?_
  rintro _ i h ⟨n, rfl, hn, hn2⟩ hi
  conv => whnf
  refine loop_i (fun s : Nat × List Int × Int × Int => ⟨envL [(0, .c (.ptr 0 0)), (5, .c (.row 3)), (6, .c (.pv (.int .i64 s.1)))], resL [(0, .box [.row 1, .pv (.int .i64 s.2.2.1), .pv (.int .i64 s.2.2.2)]), (1, .ro 1 L), (2, .env [(0, .c (.ptr 0 0)), (1, .c (.row 1))]), (3, .row true 1 (s.2.1.map byteEl))], 4, 51⟩) (fun s => (s.1 ≤ 100 ∧ s.2.1.length + 260 * s.1 ≤ 26000) ∧ isBytes s.2.1 ∧ 0 ≤ s.2.2.1) (fun s => s.1) (n.toNat, [], i, h) ⟨⟨by show n.toNat ≤ 100; omega, by show 0 + 260 * n.toNat ≤ 26000; omega⟩, (fun x hx => by cases hx), hi⟩
    (le_mk [(3, _)] rfl ⟨⟨rfl, rfl⟩, ⟨rfl, rfl⟩, ⟨i64_eq (by show n = (n.toNat : Int); omega), rfl⟩, trivial⟩ ⟨⟨rfl, rfl⟩, ⟨rfl, rfl⟩, ⟨⟨rfl, rfl⟩, _, rfl, ⟨rfl, rfl⟩, ⟨rfl, rfl⟩, trivial⟩, ⟨rfl, rfl⟩, trivial⟩ rfl) ?_
  rintro ⟨k, l, i, h⟩ ⟨⟨hk, hl⟩, hw, hi⟩
  dsimp only at hk hl hw hi
  conv => whnf
  refine br_i (fun hb => ?_) (fun hb => ?_)
  · have hb : 0 < k := by simpa using hb
    conv => whnf
    refine inl_cur (Γ := lookT tbl) [3] ?_
    conv => whnf
    refine cur_i (hB 900 (by decide)) hi ?_
    rintro _ i h ⟨x, rfl, hx, hx2⟩ hi
    conv => whnf
    refine inl_cur (Γ := lookT tbl) [3] ?_
    conv => whnf
    refine cur_i (hB 9 (by decide)) hi ?_
    rintro _ i h ⟨y, rfl, hy, hy2⟩ hi
    conv => whnf
    refine inl_cur (Γ := lookT tbl) [] ?_
    conv => whnf
    refine cur_i hS hi ?_
    rintro _ i h ⟨b, rfl, hb1, hb2⟩ hi
    conv => whnf
    refine call_i (s_PutMbap x y b hb2) ?_
    have hp1 := putMbap_size (t := x) (u := y) hb1.2
    have hp2 := putMbap_b (t := x) (u := y) hb2
    generalize putMbap x y b = F at *
    conv => whnf
    refine ⟨⟨rfl, flat_byte F⟩, ?_⟩
    conv => whnf
    refine ⟨(l ++ F).map byteEl, ⟨by rw [List.length_map, List.length_map]; show (l.length + F.length) * 1 ≤ _; omega, by rw [List.map_append]⟩, ?_⟩
    conv => whnf
    exact ⟨(k - 1, l ++ F, i, h), ⟨⟨⟨by show k - 1 ≤ 100; omega, by show (l ++ F).length + 260 * (k - 1) ≤ 26000; rw [List.length_append]; omega⟩, bytes_app hw hp2, hi⟩, by show k - 1 < k; omega⟩, le_mk [(3, _)] rfl ⟨⟨rfl, rfl⟩, ⟨rfl, rfl⟩, ⟨i64_eq (by rw [wrap_ok (by show -9223372036854775808 ≤ (k : Int) - 1; omega) (by show (k : Int) - 1 ≤ 9223372036854775807; omega)]; show (k : Int) - 1 = ((k - 1 : Nat) : Int); omega), rfl⟩, trivial⟩ ⟨⟨rfl, rfl⟩, ⟨rfl, rfl⟩, ⟨⟨rfl, rfl⟩, _, rfl, ⟨rfl, rfl⟩, ⟨rfl, rfl⟩, trivial⟩, ⟨rfl, rfl⟩, trivial⟩ rfl⟩
  conv => whnf
  refine inl_cur (Γ := lookT tbl) [3] ?_
  conv => whnf
  refine cur_i (hB 6 (by decide)) hi ?_
  rintro _ i h ⟨x, rfl, hx, hx2⟩ hi
  conv => whnf
  refine br_i (fun hb => ?_) (fun hb => ?_)
  · conv => whnf
    rw [List.length_map]
    refine br_i (fun hb => ?_) (fun hb => ?_)
    · have hb : 0 < l.length := by simpa using hb
      conv => whnf
      refine inl_cur (Γ := lookT tbl) [3] ?_
      conv => whnf
      rw [List.length_map]
      refine cur_i (hB l.length (by omega)) hi ?_
      rintro _ i h ⟨y, rfl, hy, hy2⟩ hi
      conv => whnf
      refine inl_cur (Γ := lookT tbl) [65] ?_
      conv => whnf
      refine cur_i (hI [0, 1, 255] (Nat.succ_pos _)) hi ?_
      rintro _ i h ⟨z, rfl, hz⟩ hi
      conv => whnf
      refine ⟨y.toNat, ⟨⟨by omega, by show y.toNat < (l.map byteEl).length; rw [List.length_map]; omega⟩, rfl⟩, ?_⟩
      conv => whnf
      refine ⟨(l.set y.toNat _).map byteEl, ⟨rfl, by show y.toNat < (l.map byteEl).length; rw [List.length_map]; omega, by decide, set_map (PV.int .u8) l y.toNat _⟩, ?_⟩
      conv => whnf
      refine cur_leaf rfl rfl rfl hi ?_
      refine ⟨_, rfl, by rw [List.length_set]; omega, fun q hq => ?_⟩
      rcases List.mem_or_eq_of_mem_set hq with hq | rfl
      · exact hw q hq
      · exact ⟨Int.emod_nonneg _ (by decide), Int.emod_lt_of_pos _ (by decide)⟩
    · conv => whnf
      refine cur_leaf rfl rfl rfl hi ?_
      exact ⟨l, rfl, by omega, hw⟩
  conv => whnf
  refine br_i (fun hb => ?_) (fun hb => ?_)
  · conv => whnf
    refine inl_cur (Γ := lookT tbl) [3] ?_
    conv => whnf
    rw [List.length_map, wrap_ok (x := (l.length : Int) + 1) (by omega) (by omega)]
    refine cur_i (hB ((l.length : Int) + 1) (by omega)) hi ?_
    rintro _ i h ⟨y, rfl, hy, hy2⟩ hi
    conv => whnf
    refine ⟨(l.take y.toNat).map byteEl, cut_to byteEl 1 l y y.toNat (by omega) (by omega), Or.inr ?_⟩
    conv => whnf
    refine cur_leaf rfl rfl rfl hi ?_
    exact ⟨_, rfl, by rw [List.length_take]; omega, fun q hq => hw q (List.mem_of_mem_take hq)⟩
  · conv => whnf
    refine cur_leaf rfl rfl rfl hi ?_
    exact ⟨l, rfl, by omega, hw⟩
theorem d_Pieces (code : List Int) (hl : code.length ≤ 1048576) : NdC Try.prog 24 [bytesV code] (fun rs => ∃ b : List Int, rs = [bytesV b] ∧ b.length ≤ 30000 ∧ isBytes b) := by
  refine ndC_of (Γ := lookT tbl) (il := ilist) tg dr Try.func24 rfl (by kernel_rfl) rfl (Nat.le_of_ble_eq_true rfl) ?_
  have hB := d_l8Bytes code hl 6 (by decide) (by decide)
  have newI := fun {k : Nat} (hb : (k : Int) < (code.map byteEl).length) => newI (L := code.map byteEl) (code := code) hb rfl
  have hL : (code.map byteEl).length ≤ 1048576 := by rw [List.length_map]; exact hl
  unfold bytesV bytesP at *
  generalize code.map byteEl = L at *
  conv => whnf
  refine inl_of (Γ := lookT tbl) (il := ilist) tg dr Try.func34 rfl (by kernel_rfl) rfl (ts := [22]) (Nat.le_of_ble_eq_true rfl) ?_
  conv => whnf
  refine loop_i (fun s : Nat × Int => ⟨envL [(0, .c (.pv (.sl 1 L))), (3, .c (.pv (.int .i64 s.2))), (4, .c (.pv (.int .i64 s.1)))], resL [(2048, .env [(0, .c (.pv (.sl 1 L)))])], 2048 + 1, 32⟩) (fun s => s.1 ≤ L.length) (fun s => L.length - s.1) (0, _) (Nat.zero_le _) (le_mk [] rfl ⟨⟨rfl, rfl⟩, ⟨rfl, rfl⟩, ⟨rfl, rfl⟩, trivial⟩ ⟨⟨⟨rfl, rfl⟩, _, rfl, ⟨rfl, rfl⟩, trivial⟩, trivial⟩ rfl) ?_
  rintro ⟨k, h⟩ hk
  dsimp only at hk
  conv => whnf
  refine br_i (fun hb => ?_) (fun hb => ?_)
  focus
    have hb : (k : Int) < L.length := by simpa using hb
    conv => whnf
    refine br_i (fun hb2 => ?_) (fun hb2 => ?_)
    focus
      conv => whnf
      refine ⟨_, ⟨⟨by omega, newI hb⟩, rfl⟩, ?_⟩
      conv => whnf
      exact ⟨(k + 1, _), ⟨by show k + 1 ≤ L.length; omega, by show L.length - (k + 1) < L.length - k; omega⟩, le_mk [] rfl ⟨⟨rfl, rfl⟩, ⟨rfl, rfl⟩, ⟨ctr (by omega), rfl⟩, trivial⟩ ⟨⟨⟨rfl, rfl⟩, _, rfl, ⟨rfl, rfl⟩, trivial⟩, trivial⟩ rfl⟩
  all_goals
    conv => whnf
    refine inl_cur (Γ := lookT tbl) [3] ?_
    conv => whnf
    refine cur_i hB (by decide) ?_
    rintro _ i h ⟨b, rfl, hb1, hb2⟩ hi
    conv => whnf
    refine leaf_i rfl rfl ?_
    exact ⟨b, rfl, hb1, hb2⟩
/-! ### The plain law -/
def hearS (l : List Int) : List XBox × List Int × Int := hearGo (l.length + 1) l
theorem go_fuel : ∀ {f g : Nat} {l : List Int}, l.length < f → l.length < g → hearGo f l = hearGo g l
  | 0, _, _, h, _ => by omega
  | _, 0, _, _, h => by omega
  | f + 1, g + 1, l, hf, hg => by
    by_cases h : (nextMbap l).code = 1
    · have hn := nm_code l h
      have e := go_fuel (f := f) (g := g) (l := l.drop (nextMbap l).n.toNat) (by rw [List.length_drop]; omega) (by rw [List.length_drop]; omega)
      simp only [hearGo, h, if_true, e]
    · simp only [hearGo, h, if_false]
theorem hearS_step {l : List Int} (h : (nextMbap l).code = 1) : hearS l = (boxOf l :: (hearS (l.drop (nextMbap l).n.toNat)).1, (hearS (l.drop (nextMbap l).n.toNat)).2) := by
  have hn := nm_code l h
  unfold hearS
  rw [hear_step (Nat.lt_succ_self _) h, go_fuel (f := l.length + 1 - 1) (g := (l.drop (nextMbap l).n.toNat).length + 1) (by rw [List.length_drop]; omega) (by omega)]
theorem hearS_stop {l : List Int} (h : (nextMbap l).code ≠ 1) : hearS l = ([], l, (nextMbap l).code) := hear_stop h
theorem word_app {a r : List Int} {i : Int} (h0 : 0 ≤ i) (hL : (a ++ r).length ≤ 1000000) (h : (wordAt a i).2 = true) : wordAt (a ++ r) i = wordAt a i := by
  have hl : (a ++ r).length = a.length + r.length := List.length_append
  by_cases h2 : i + 2 ≤ a.length
  · rw [word_in h0 h2 (by omega), word_in h0 (by omega) hL, bAt_app (by omega), bAt_app (by omega)]
  · rw [word_out (by omega) (by omega)] at h; cases h
theorem bad_app {a r : List Int} (hL : (a ++ r).length ≤ 1000000) (h : nmBad a = true) : nmBad (a ++ r) = true := by
  have hl : (a ++ r).length = a.length + r.length := List.length_append
  unfold nmBad at h ⊢
  simp only [Bool.or_eq_true, Bool.and_eq_true, decide_eq_true_eq] at h ⊢
  rcases h with (⟨h1, h2⟩ | ⟨h1, h2⟩) | ⟨h1, h2⟩
  · exact .inl (.inl ⟨by omega, by rw [bAt_app (by omega)]; exact h2⟩)
  · exact .inl (.inr ⟨by omega, by rw [bAt_app (by omega)]; exact h2⟩)
  · exact .inr (by rw [word_app (by decide) hL h1]; exact ⟨h1, h2⟩)
theorem good_app {a r : List Int} (hL : (a ++ r).length ≤ 1000000) (hb : nmBad a = false) (hw : nmWait a = false) : nextMbap (a ++ r) = nextMbap a := by
  have hl : (a ++ r).length = a.length + r.length := List.length_append
  obtain ⟨f1, f2, f3, f4⟩ := nm_fact hb hw
  have w4 : (wordAt a 4).2 = true := by simp [nmWait] at hw; exact hw.1
  have e4 := word_app (i := 4) (by decide) hL w4
  have w0 : (wordAt a 0).2 = true := by rw [word_in (by decide) (by omega) (by omega)]
  have e0 := word_app (i := 0) (by decide) hL w0
  have hb2 : nmBad (a ++ r) = false := by
    unfold nmBad at hb ⊢
    rw [e4, bAt_app (by omega), bAt_app (by omega)]
    rw [decide_eq_true (show (a.length : Int) > 2 by omega), decide_eq_true (show (a.length : Int) > 3 by omega)] at hb
    rw [decide_eq_true (show ((a ++ r).length : Int) > 2 by omega), decide_eq_true (show ((a ++ r).length : Int) > 3 by omega)]
    exact hb
  have hw2 : nmWait (a ++ r) = false := by
    unfold nmWait at hw ⊢
    rw [e4, w4, f3, decide_eq_false (by omega)]
    rfl
  rw [nm_good hb hw, nm_good hb2 hw2, e0, e4, bAt_app (by omega)]
  congr 1
  unfold cutL
  rw [f3, List.take_append_of_le_length (by omega)]
/-- Bytes behind bytes. -/
theorem hear_app : ∀ (n : Nat) (a r : List Int), a.length ≤ n → (a ++ r).length ≤ 1000000 →
    ((hearS a).2.2 = 2 → (hearS (a ++ r)).1 = (hearS a).1 ∧ (hearS (a ++ r)).2.2 = 2) ∧
    ((hearS a).2.2 = 0 → (hearS (a ++ r)).1 = (hearS a).1 ++ (hearS ((hearS a).2.1 ++ r)).1 ∧ (hearS (a ++ r)).2 = (hearS ((hearS a).2.1 ++ r)).2) ∧ ((hearS a).2.2 = 0 ∨ (hearS a).2.2 = 2) ∧ ((hearS a).2.2 = 0 → (hearS a).2.1.length ≤ 260) := by
  intro n
  induction n with
  | zero =>
    intro a r ha hL
    have : a = [] := List.length_eq_zero_iff.1 (by omega)
    subst this
    have e : hearS [] = ([], [], 0) := hearS_stop (by decide)
    rw [e]
    exact ⟨fun h => (by cases h), fun _ => ⟨rfl, rfl⟩, .inl rfl, fun _ => by decide⟩
  | succ n ih =>
    intro a r ha hL
    have hl : (a ++ r).length = a.length + r.length := List.length_append
    cases hb : nmBad a with
    | true =>
      have e1 : hearS a = ([], a, 2) := by rw [hearS_stop (by rw [nm_bad hb]; decide), nm_bad hb]
      have e2 : hearS (a ++ r) = ([], a ++ r, 2) := by rw [hearS_stop (by rw [nm_bad (bad_app hL hb)]; decide), nm_bad (bad_app hL hb)]
      rw [e1, e2]
      exact ⟨fun _ => ⟨rfl, rfl⟩, fun h => (by cases h), .inr rfl, fun h => (by cases h)⟩
    | false =>
      cases hw : nmWait a with
      | true =>
        have e1 : hearS a = ([], a, 0) := by rw [hearS_stop (by rw [nm_wait hb hw]; decide), nm_wait hb hw]
        rw [e1]
        refine ⟨fun h => (by cases h), fun _ => ⟨rfl, rfl⟩, .inl rfl, fun _ => ?_⟩
        show a.length ≤ 260
        by_cases h6 : a.length < 6
        · omega
        · have w4 := word_in (l := a) (i := 4) (by decide) (by omega) (by omega)
          unfold nmBad at hb
          unfold nmWait at hw
          rw [w4] at hb hw
          simp [inB] at hb hw
          rw [show wrap64 (6 + w16 (bAt a 4) (bAt a 5)) = 6 + w16 (bAt a 4) (bAt a 5) from wrap_ok (by omega) (by omega)] at hw
          omega
      | false =>
        have hc : (nextMbap a).code = 1 := by rw [nm_good hb hw]
        have eA := good_app (r := r) hL hb hw
        have hn := nm_code a hc
        have hd : (a ++ r).drop (nextMbap a).n.toNat = a.drop (nextMbap a).n.toNat ++ r := by rw [List.drop_append_of_le_length (by omega)]
        have e1 := hearS_step hc
        have e2 := hearS_step (l := a ++ r) (by rw [eA]; exact hc)
        rw [eA, hd] at e2
        have hbx : boxOf (a ++ r) = boxOf a := by unfold boxOf; rw [eA]
        rw [hbx] at e2
        obtain ⟨i1, i2, i3, i4⟩ := ih (a.drop (nextMbap a).n.toNat) r (by rw [List.length_drop]; omega) (by rw [List.length_append, List.length_drop]; omega)
        rw [e1, e2]
        refine ⟨fun h => ?_, fun h => ?_, i3, i4⟩
        · obtain ⟨j1, j2⟩ := i1 h
          exact ⟨by show _ :: _ = _ :: _; rw [j1], j2⟩
        · obtain ⟨j1, j2⟩ := i2 h
          exact ⟨by show _ :: _ = _ :: _ ++ _; rw [j1]; rfl, j2⟩
theorem l_sameBoxes (l : List XBox) : PureC Try.prog 27 [XBox.sV l, XBox.sV l] [boolv true] := by
  refine pureC_fit ⟨_, Try.func27, by kernel_rfl, rfl⟩ fun hf => ?_
  have hl : l.length ≤ 9223372036854775807 := fits_len (hf (XBox.sV l) (by simp))
  refine pureC_of (Γ := lookT tbl) (il := ilist) tg dr Try.func27 rfl (by kernel_rfl) rfl (Nat.le_of_ble_eq_true rfl) ?_
  conv => whnf
  refine br_i (fun h => absurd h (by simp)) (fun h => ?_)
  clear h
  conv => whnf
  refine loop_i (fun k : Nat => ⟨envL [(0, .c (.pv (XBox.sP l))), (1, .c (.pv (XBox.sP l))), (5, .c (.pv (.int .i64 k)))], resL [], 0, 55⟩) (fun k => k ≤ l.length) (fun k => l.length - k) 0 (Nat.zero_le _) (le_mk [] rfl ⟨⟨rfl, rfl⟩, ⟨rfl, rfl⟩, ⟨rfl, rfl⟩, trivial⟩ trivial rfl) ?_
  intro k hk
  conv => whnf
  refine br_i (fun h => ?_) (fun h => ?_)
  · have hlt : k < l.length := by simpa using h
    have ix := idx_map l XBox.ps k hlt 3
    have hS := eqSameB l[k].Pdu l[k].Pdu
    rw [decide_eq_true rfl] at hS
    generalize l[k] = x at *
    (repeat' ((conv => whnf); first | (refine br_i ?_ ?_; (· (intro h; exfalso; simp at h; done)); intro _) | refine ⟨_, ix, ?_⟩ | refine call_i hS ?_ | refine And.intro rfl ?_))
    all_goals ((conv => whnf); exact ⟨k + 1, ⟨hlt, by omega⟩, le_mk [] rfl ⟨⟨rfl, rfl⟩, ⟨rfl, rfl⟩, ⟨ctr (by omega), rfl⟩, trivial⟩ trivial rfl⟩)
  · conv => whnf
    exact leaf_i rfl rfl rfl
def finS (x : List Int × Int) : XStream := if x.2 = 2 ∨ (x.1.length : Int) > 600 then ⟨[], true⟩ else ⟨x.1, false⟩
theorem streamHear_eq (s : XStream) (b : List Int) (h : streamOk s = true) (h2 : s.Shut = false) : streamHear s b = (finS (hearS (s.Buf ++ b)).2, (hearS (s.Buf ++ b)).1) := by
  unfold streamHear
  rw [if_neg (by rw [h, h2]; decide)]
  rfl
theorem hear_two (b : List Int) (k : Nat) (hb : b.length ≤ 30000) : (streamHear ⟨[], false⟩ b).2 = (streamHear ⟨[], false⟩ (b.take k)).2 ++ (streamHear (streamHear ⟨[], false⟩ (b.take k)).1 (b.drop k)).2 ∧
    (streamHear ⟨[], false⟩ b).1 = (streamHear (streamHear ⟨[], false⟩ (b.take k)).1 (b.drop k)).1 ∧ streamOk (streamHear ⟨[], false⟩ b).1 = true := by
  have ok0 : streamOk ⟨[], false⟩ = true := by decide
  rw [streamHear_eq _ _ ok0 rfl, streamHear_eq _ _ ok0 rfl]
  dsimp only [List.nil_append]
  have hab : b.take k ++ b.drop k = b := List.take_append_drop k b
  obtain ⟨h1, h2, h3, h4⟩ := hear_app (b.take k).length (b.take k) (b.drop k) (Nat.le_refl _) (by rw [hab]; omega)
  obtain ⟨g1, g2, g3, g4⟩ := hear_app b.length b [] (Nat.le_refl _) (by rw [List.append_nil]; omega)
  rw [hab] at h1 h2
  have hok : streamOk (finS (hearS b).2) = true := by
    unfold finS
    split
    · rfl
    · rename_i h
      have := g4 (g3.resolve_right fun e => h (.inl e))
      simp [streamOk]
      omega
  refine and_assoc.1 ⟨?_, hok⟩
  rcases h3 with h0 | h0
  · obtain ⟨e1, e2⟩ := h2 h0
    have hl := h4 h0
    rw [show finS (hearS (b.take k)).2 = ⟨(hearS (b.take k)).2.1, false⟩ from if_neg (by rw [h0]; omega)]
    rw [streamHear_eq _ _ (by simp [streamOk]; omega) rfl]
    dsimp only
    rw [e1, e2]
    exact ⟨rfl, rfl⟩
  · obtain ⟨e1, e2⟩ := h1 h0
    rw [show finS (hearS (b.take k)).2 = ⟨[], true⟩ from if_pos (.inl h0)]
    rw [show streamHear ⟨[], true⟩ (b.drop k) = (⟨[], true⟩, []) from rfl]
    rw [e1, show finS (hearS b).2 = ⟨[], true⟩ from if_pos (.inl e2)]
    exact ⟨by simp, rfl⟩
theorem hear_cnt (b : List Int) : (hearS b).1.length ≤ b.length := by
  have h1 := hear_size (b.length + 1) b
  have h2 := boxes_le (hearS b).1
  unfold hearS at *
  omega
set_option maxHeartbeats 8000000 in
theorem law_FnStreams (code : List Int) (hw : ∀ q0, q0 ∈ code → (Lit.int .u8 q0).wf = true) : PureC Try.prog 6 [bytesV code] [boolv true] := by
  refine pureC_of (Γ := lookT tbl) (il := ilist) tg dr Try.func6 rfl (by kernel_rfl) rfl (Nat.le_of_ble_eq_true rfl) ?_
  have hbc : isBytes code := fun q hq => wf_u8 (hw q hq)
  conv => whnf
  refine call_i (l_big code) ?_
  conv => whnf
  refine br_i (fun h => ?_) (fun h => ?_)
  · conv => whnf
    exact leaf_i rfl rfl rfl
  have hlc : code.length ≤ 1048576 := by simp [bigB] at h; omega
  conv => whnf
  refine inl_nd (Γ := lookT tbl) [22] ?_
  conv => whnf
  refine nd_i (d_Pieces code hlc) ?_
  rintro _ ⟨b, rfl, hb, hbb⟩
  conv => whnf
  have ha2 := atI_b hbc 2
  have hat2 := l_at code hbc hlc 2 (by decide) (by decide)
  have ha3 := atI_b hbc 3
  have hat3 := l_at code hbc hlc 3 (by decide) (by decide)
  generalize atI code 2 = a2 at *
  generalize atI code 3 = a3 at *
  have fin : ∀ k : Nat, k ≤ b.length → True := fun _ _ => trivial
  refine br_i (fun h => ?_) (fun h => ?_)
  · have h : 0 < b.length := by simpa using h
    conv => whnf
    refine call_i hat2 ?_
    conv => whnf
    refine call_i hat3 ?_
    conv => whnf
    rw [List.length_map, wrap_ok (x := a2 * 256) (by omega) (by omega), wrap_ok (x := a2 * 256 + a3) (by omega) (by omega)]
    refine And.intro (by omega) ?_
    conv => whnf
    have hq := rem_b (x := a2 * 256 + a3) (n := (b.length : Int)) (by omega) (by omega)
    generalize (a2 * 256 + a3).tmod (b.length : Int) = q at *
    refine br_i (fun h => ?_) (fun h => ?_)
    · conv => whnf
      exact leaf_i rfl rfl rfl
    have hq5 : q ≤ 590 := by simpa using h
    conv => whnf
    rw [List.length_map, wrap_ok (x := (b.length : Int) - q) (by omega) (by omega)]
    refine br_i (fun h => ?_) (fun h => ?_)
    · conv => whnf
      exact leaf_i rfl rfl rfl
    conv => whnf
    have hk : q.toNat ≤ b.length := by omega
    obtain ⟨e1, e2, e3⟩ := hear_two b q.toNat hb
    have e5 := congrArg Prod.snd (Prod.ext e2 e1 : streamHear ⟨[], false⟩ b = ((streamHear (streamHear ⟨[], false⟩ (b.take (q.toNat))).1 (b.drop (q.toNat))).1, (streamHear ⟨[], false⟩ (b.take (q.toNat))).2 ++ (streamHear (streamHear ⟨[], false⟩ (b.take (q.toNat))).1 (b.drop (q.toNat))).2))
    dsimp only at e5
    obtain ⟨_, _, e4⟩ := hear_two (b.take q.toNat) 0 (by rw [List.length_take]; omega)
    have hm0 := m_StreamHear ⟨[], false⟩ b (by decide) (by omega)
    have hs0 := s_StreamHear ⟨[], false⟩ b (by decide) (by omega)
    have hm1 := m_StreamHear ⟨[], false⟩ (b.take q.toNat) (by decide) (by rw [List.length_take]; omega)
    generalize streamHear ⟨[], false⟩ (b.take q.toNat) = H at *
    obtain ⟨h1, f1⟩ := H
    dsimp only at e1 e2 e4 hm1
    have hm2 := m_StreamHear h1 (b.drop q.toNat) (by simp [streamOk] at e4; omega) (by rw [List.length_drop]; omega)
    rw [e1, e2] at hm0 hs0
    rw [e2] at e3
    generalize streamHear h1 (b.drop q.toNat) = R at *
    obtain ⟨r1, f2⟩ := R
    dsimp only at e3 hm0 hs0 hm2
    have hS := eqSameB r1.Buf r1.Buf
    rw [decide_eq_true rfl] at hS
    have hO := m_StreamOk r1
    rw [e3] at hO
    have hX := l_sameBoxes (f1 ++ f2)
    have hcnt := hear_cnt b
    rw [streamHear_eq _ _ (by decide) rfl] at e5
    dsimp only [List.nil_append] at e5
    rw [e5, List.length_append] at hcnt
    clear e1 e2 e3 e4
    refine call_i hm0 ?_
    conv => whnf
    refine ⟨(b.take q.toNat).map byteEl, cut_to byteEl 1 b q q.toNat (by omega) hk, Or.inl ?_⟩
    conv => whnf
    refine call_i hm1 ?_
    conv => whnf
    refine ⟨_, le_refl, ?_⟩
    conv => whnf
    refine ⟨(b.drop q.toNat).map byteEl, cut_i byteEl 1 b q (by omega), ?_⟩
    conv => whnf
    refine call_i hm2 ?_
    conv => whnf
    refine And.intro rfl ?_
    conv => whnf
    refine call_i hs0 ?_
    conv => whnf
    refine ⟨rfl, ?_⟩
    conv => whnf
    refine ⟨f1.map XBox.ps, ⟨by show (0 + (f1.map XBox.ps).length) * 40 ≤ 140737488355328; rw [List.length_map]; omega, rfl⟩, ?_⟩
    conv => whnf
    refine ⟨rfl, ?_⟩
    conv => whnf
    refine ⟨(f1 ++ f2).map XBox.ps, ⟨by show ((f1.map XBox.ps).length + (f2.map XBox.ps).length) * 40 ≤ 140737488355328; rw [List.length_map, List.length_map]; omega, List.map_append⟩, ?_⟩
    conv => whnf
    refine call_i hX ?_
    conv => whnf
    refine call_i hX ?_
    conv => whnf
    refine br_i (fun _ => ?_) (fun h => absurd h (by simp))
    conv => whnf
    refine call_i hS ?_
    conv => whnf
    refine Or.inl (call_i hO ?_)
    conv => whnf
    exact leaf_i rfl rfl rfl
  · have h : ¬ 0 < b.length := by simpa using h
    conv => whnf
    rw [List.length_map, wrap_ok (x := (b.length : Int) - 0) (by omega) (by omega)]
    refine br_i (fun h => ?_) (fun h => ?_)
    · conv => whnf
      exact leaf_i rfl rfl rfl
    conv => whnf
    have hk : 0 ≤ b.length := by omega
    obtain ⟨e1, e2, e3⟩ := hear_two b 0 hb
    have e5 := congrArg Prod.snd (Prod.ext e2 e1 : streamHear ⟨[], false⟩ b = ((streamHear (streamHear ⟨[], false⟩ (b.take (0))).1 (b.drop (0))).1, (streamHear ⟨[], false⟩ (b.take (0))).2 ++ (streamHear (streamHear ⟨[], false⟩ (b.take (0))).1 (b.drop (0))).2))
    dsimp only at e5
    obtain ⟨_, _, e4⟩ := hear_two (b.take 0) 0 (by rw [List.length_take]; omega)
    have hm0 := m_StreamHear ⟨[], false⟩ b (by decide) (by omega)
    have hs0 := s_StreamHear ⟨[], false⟩ b (by decide) (by omega)
    have hm1 := m_StreamHear ⟨[], false⟩ (b.take 0) (by decide) (by rw [List.length_take]; omega)
    generalize streamHear ⟨[], false⟩ (b.take 0) = H at *
    obtain ⟨h1, f1⟩ := H
    dsimp only at e1 e2 e4 hm1
    have hm2 := m_StreamHear h1 (b.drop 0) (by simp [streamOk] at e4; omega) (by rw [List.length_drop]; omega)
    rw [e1, e2] at hm0 hs0
    rw [e2] at e3
    generalize streamHear h1 (b.drop 0) = R at *
    obtain ⟨r1, f2⟩ := R
    dsimp only at e3 hm0 hs0 hm2
    have hS := eqSameB r1.Buf r1.Buf
    rw [decide_eq_true rfl] at hS
    have hO := m_StreamOk r1
    rw [e3] at hO
    have hX := l_sameBoxes (f1 ++ f2)
    have hcnt := hear_cnt b
    rw [streamHear_eq _ _ (by decide) rfl] at e5
    dsimp only [List.nil_append] at e5
    rw [e5, List.length_append] at hcnt
    clear e1 e2 e3 e4
    refine call_i hm0 ?_
    conv => whnf
    refine ⟨(b.take 0).map byteEl, cut_to byteEl 1 b 0 0 rfl hk, Or.inl ?_⟩
    conv => whnf
    refine call_i hm1 ?_
    conv => whnf
    refine ⟨_, le_refl, ?_⟩
    conv => whnf
    refine ⟨(b.drop (0 : Int).toNat).map byteEl, cut_i byteEl 1 b 0 (by omega), ?_⟩
    conv => whnf
    refine call_i hm2 ?_
    conv => whnf
    refine And.intro rfl ?_
    conv => whnf
    refine call_i hs0 ?_
    conv => whnf
    refine ⟨rfl, ?_⟩
    conv => whnf
    refine ⟨f1.map XBox.ps, ⟨by show (0 + (f1.map XBox.ps).length) * 40 ≤ 140737488355328; rw [List.length_map]; omega, rfl⟩, ?_⟩
    conv => whnf
    refine ⟨rfl, ?_⟩
    conv => whnf
    refine ⟨(f1 ++ f2).map XBox.ps, ⟨by show ((f1.map XBox.ps).length + (f2.map XBox.ps).length) * 40 ≤ 140737488355328; rw [List.length_map, List.length_map]; omega, List.map_append⟩, ?_⟩
    conv => whnf
    refine call_i hX ?_
    conv => whnf
    refine call_i hX ?_
    conv => whnf
    refine br_i (fun _ => ?_) (fun h => absurd h (by simp))
    conv => whnf
    refine call_i hS ?_
    conv => whnf
    refine Or.inl (call_i hO ?_)
    conv => whnf
    exact leaf_i rfl rfl rfl

end Go.Proofs.Ytkpffcjgjiljeaa
