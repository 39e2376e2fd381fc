/- What is drawn: a cursor's functions, by the properties of what they give. -/
import Derived.Test.YtnpcgheojijpjaaXTaF
namespace Go.Proofs.Ytnpcgheojijpjaa
open Go Go.Vi
set_option linter.unusedVariables false
set_option linter.unusedSimpArgs false
set_option maxRecDepth 100000
theorem and255 (y : Int) : 0 ≤ IntKind.i64.wrap ((BitVec.ofInt IntKind.i64.bits y &&& BitVec.ofInt IntKind.i64.bits 255).toNat : Int) ∧ IntKind.i64.wrap ((BitVec.ofInt IntKind.i64.bits y &&& BitVec.ofInt IntKind.i64.bits 255).toNat : Int) < 256 := by
  have h : (BitVec.ofInt IntKind.i64.bits y &&& BitVec.ofInt IntKind.i64.bits 255).toNat ≤ 255 := by
    rw [BitVec.toNat_and]
    exact Nat.le_trans Nat.and_le_right (by decide)
  rw [wrap_ok (by omega) (by omega)]
  omega
theorem d_Byte (code : List Int) (hl : code.length ≤ 9223372036854775807) : CurC Try.prog 80 1 (code.map byteEl) [] (fun rs => ∃ x : Int, rs = [i64v x] ∧ 0 ≤ x ∧ x < 256) := by
  refine curC_of (Γ := lookT tbl) (il := ilist) tg dr Try.func80 rfl (by kernel_rfl) rfl (Nat.le_of_ble_eq_true rfl) ?_
  intro i h0 hi
  generalize hL : code.map byteEl = L
  have hLl : L.length ≤ 9223372036854775807 := by rw [← hL, List.length_map]; exact hl
  have key : ∃ b : Int, i < L.length → ((i = (i.toNat : Int) ∧ i.toNat < L.length) ∧ 1 = 1) ∧ L[i.toNat]? = some [PV.int .u8 b] := by
    by_cases h : i < L.length
    · have hlt : i.toNat < code.length := by rw [← hL, List.length_map] at h; omega
      refine ⟨code[i.toNat], fun _ => ⟨⟨⟨by omega, by omega⟩, rfl⟩, ?_⟩⟩
      rw [← hL, List.getElem?_map, List.getElem?_eq_getElem hlt]
      rfl
    · exact ⟨0, fun h2 => absurd h2 h⟩
  obtain ⟨b, key⟩ := key
  have hw : decide (i < (L.length : Int)) = true → 0 ≤ IntKind.i64.wrap (i + 1) := fun h => by
    have h : i < (L.length : Int) := by simpa using h
    rw [wrap_ok (by omega) (by omega)]; omega
  (repeat' ((conv => whnf); first | refine br_i (fun _ => ?_) (fun _ => ?_) | (refine cur_leaf rfl rfl rfl ?_ ?_; · first | assumption | omega | exact hw ‹_›) | refine leaf_i rfl rfl ?_ | refine And.intro rfl ?_ | (refine ⟨i.toNat, (key (by simpa using ‹decide (i < (L.length : Int)) = true›)).1, ?_⟩) | (refine ⟨_, ⟨rfl, (key (by simpa using ‹decide (i < (L.length : Int)) = true›)).2⟩, ?_⟩) | (refine And.intro ?_ ?_; · decide)))
  all_goals exact ⟨_, rfl, and255 _⟩
theorem rem_b {x n : Int} (hx : 0 ≤ x) (hn : 0 < n) : 0 ≤ x.tmod n ∧ x.tmod n < n := ⟨Int.tmod_nonneg _ hx, Int.tmod_lt_of_pos _ hn⟩
/-- Below n. -/
theorem d_Below (code : List Int) (hl : code.length ≤ 9223372036854775807) (n : Int) (hn : 0 < n) : CurC Try.prog 45 1 (code.map byteEl) [i64v n] (fun rs => ∃ x : Int, rs = [i64v x] ∧ 0 ≤ x ∧ x < n) := by
  refine curC_of (Γ := lookT tbl) (il := ilist) tg dr Try.func45 rfl (by kernel_rfl) rfl (Nat.le_of_ble_eq_true rfl) ?_
  intro i h0 hi
  have hB := d_Byte code hl
  generalize code.map byteEl = L at *
  conv => whnf
  refine br_i (fun h => absurd h (by simp; omega)) (fun h => ?_)
  conv => whnf
  refine br_i (fun h => ?_) (fun h => ?_)
  · conv => whnf
    refine inl_cur (Γ := lookT tbl) [] ?_
    conv => whnf
    refine cur_i hB hi ?_
    rintro _ i h0 ⟨x, rfl, hx, hx2⟩ hi
    conv => whnf
    refine ⟨by omega, ?_⟩
    conv => whnf
    refine cur_leaf rfl rfl rfl hi ?_
    exact ⟨_, rfl, rem_b hx hn⟩
  · conv => whnf
    refine inl_cur (Γ := lookT tbl) [] ?_
    conv => whnf
    refine cur_i hB hi ?_
    rintro _ i h0 ⟨x, rfl, hx, hx2⟩ hi
    conv => whnf
    refine inl_cur (Γ := lookT tbl) [] ?_
    conv => whnf
    refine cur_i hB hi ?_
    rintro _ i h0 ⟨y, rfl, hy, hy2⟩ hi
    conv => whnf
    refine inl_cur (Γ := lookT tbl) [] ?_
    conv => whnf
    refine cur_i hB hi ?_
    rintro _ i h0 ⟨z, rfl, hz, hz2⟩ hi
    conv => whnf
    refine ⟨by omega, ?_⟩
    conv => whnf
    refine cur_leaf rfl rfl rfl hi ?_
    rw [wrap_ok (x := x * 65536) (by omega) (by omega), wrap_ok (x := y * 256) (by omega) (by omega), wrap_ok (x := x * 65536 + y * 256) (by omega) (by omega), wrap_ok (x := x * 65536 + y * 256 + z) (by omega) (by omega)]
    exact ⟨_, rfl, rem_b (by omega) hn⟩
/-- One of a list. -/
theorem d_Int (code : List Int) (hl : code.length ≤ 9223372036854775807) (l : List Int) (h0 : 0 < l.length) : CurC Try.prog 23 1 (code.map byteEl) [intsV l] (fun rs => ∃ x : Int, rs = [i64v x] ∧ x ∈ l) := by
  refine curC_of (Γ := lookT tbl) (il := ilist) tg dr Try.func23 rfl (by kernel_rfl) rfl (Nat.le_of_ble_eq_true rfl) ?_
  intro i h hi
  have hB := d_Below code hl l.length (by omega)
  generalize code.map byteEl = L at *
  conv => whnf
  refine inl_cur (Γ := lookT tbl) [3] ?_
  conv => whnf
  rw [List.length_map]
  refine cur_i hB hi ?_
  rintro _ i h0 ⟨x, rfl, hx, hx2⟩ hi
  conv => whnf
  refine ⟨_, idx_i l x ⟨hx, hx2⟩, ?_⟩
  conv => whnf
  refine cur_leaf rfl rfl rfl hi ?_
  refine ⟨_, rfl, ?_⟩
  have h2 : x.toNat < l.length := by omega
  rw [show bAt l x = l[x.toNat] by simp [bAt, h2]]
  exact List.getElem_mem h2
theorem d_Once (code : List Int) (hl : code.length ≤ 9223372036854775807) (n : Int) (hn : 0 < n) : CurC Try.prog 18 1 (code.map byteEl) [i64v n] (fun rs => ∃ x : Bool, rs = [boolv x]) := by
  refine curC_of (Γ := lookT tbl) (il := ilist) tg dr Try.func18 rfl (by kernel_rfl) rfl (Nat.le_of_ble_eq_true rfl) ?_
  intro i h hi
  have hB := d_Below code hl n hn
  generalize code.map byteEl = L at *
  conv => whnf
  refine inl_cur (Γ := lookT tbl) [3] ?_
  conv => whnf
  refine cur_i hB hi ?_
  rintro _ i h0 ⟨x, rfl, hx, hx2⟩ hi
  conv => whnf
  refine cur_leaf rfl rfl rfl hi ?_
  exact ⟨_, rfl⟩
/-- n words. -/
def words (l : List Int) : Prop := ∀ x ∈ l, 0 ≤ x ∧ x < 65536
theorem d_List (code : List Int) (hl : code.length ≤ 9223372036854775807) (n : Int) (hn : 0 ≤ n) (hn2 : n ≤ 1000) : CurC Try.prog 50 1 (code.map byteEl) [i64v n] (fun rs => ∃ l : List Int, rs = [intsV l] ∧ (l.length : Int) = n ∧ words l) := by
  refine curC_of (Γ := lookT tbl) (il := ilist) tg dr Try.func50 rfl (by kernel_rfl) rfl (Nat.le_of_ble_eq_true rfl) ?_
  intro i h hi
  have hB := d_Below code hl 65536 (by decide)
  have hI := fun l h => d_Int code hl l h
  generalize code.map byteEl = L at *
  conv => whnf
  refine loop_i (fun s : Nat × List Int × Int × Int => ⟨envL [(0, .c (.ptr 0 0)), (1, .c (.pv (.int .i64 n))), (5, .c (.row 3)), (6, .c (.pv (.int .i64 s.1)))], resL [(0, .box [.row 1, .pv (.int .i64 s.2.2.1), .pv (.int .i64 s.2.2.2)]), (1, .ro 1 L), (2, .env [(0, .c (.ptr 0 0)), (1, .c (.row 1))]), (3, .row true 1 (s.2.1.map intEl))], 4, 22⟩) (fun s => ((s.1 : Int) ≤ n ∧ s.2.1.length = s.1) ∧ words s.2.1 ∧ 0 ≤ s.2.2.1) (fun s => n.toNat - s.1) (0, [], i, h) ⟨⟨hn, rfl⟩, (fun x hx => by cases hx), hi⟩
    (le_mk [(3, 1088)] rfl ⟨⟨rfl, rfl⟩, ⟨rfl, rfl⟩, ⟨rfl, rfl⟩, ⟨rfl, rfl⟩, trivial⟩ ⟨⟨rfl, rfl⟩, ⟨rfl, rfl⟩, ⟨⟨rfl, rfl⟩, _, rfl, ⟨rfl, rfl⟩, ⟨rfl, rfl⟩, trivial⟩, ⟨rfl, rfl⟩, trivial⟩ rfl) ?_
  rintro ⟨k, l, i, h⟩ ⟨⟨hk, hl⟩, hw, hi⟩
  dsimp only at hk hl hw hi
  conv => whnf
  refine br_i (fun hb => ?_) (fun hb => ?_)
  · conv => whnf
    refine inl_cur (Γ := lookT tbl) [3] ?_
    conv => whnf
    refine cur_i hB hi ?_
    rintro _ i h ⟨x, rfl, hx, hx2⟩ hi
    conv => whnf
    refine inl_cur (Γ := lookT tbl) [27] ?_
    conv => whnf
    refine cur_i (hI [0, 1, 65535, 256, x] (Nat.succ_pos 4)) hi ?_
    rintro _ i h ⟨y, rfl, hy⟩ hi
    conv => whnf
    refine ⟨⟨rfl, flat_int [y]⟩, ?_⟩
    conv => whnf
    refine ⟨(l ++ [y]).map intEl, ⟨by rw [List.length_map]; show (l.length + 1) * 8 ≤ _; omega, by rw [List.map_append]; rfl⟩, ?_⟩
    conv => whnf
    have hb : (k : Int) < n := by simpa using hb
    refine ⟨(k + 1, l ++ [y], i, h), ⟨⟨⟨by show ((k + 1 : Nat) : Int) ≤ n; omega, by simp [hl]⟩, fun q hq => ?_, hi⟩, by show n.toNat - (k + 1) < n.toNat - k; omega⟩, le_mk [(3, _)] rfl ⟨⟨rfl, rfl⟩, ⟨rfl, rfl⟩, ⟨rfl, rfl⟩, ⟨ctr (by omega), rfl⟩, trivial⟩ ⟨⟨rfl, rfl⟩, ⟨rfl, rfl⟩, ⟨⟨rfl, rfl⟩, _, rfl, ⟨rfl, rfl⟩, ⟨rfl, rfl⟩, trivial⟩, ⟨rfl, rfl⟩, trivial⟩ rfl⟩
    rcases List.mem_append.1 hq with hq | hq
    · exact hw q hq
    · simp at hq hy; omega
  · conv => whnf
    refine cur_leaf rfl rfl rfl hi ?_
    exact ⟨l, rfl, by simp at hb; omega, hw⟩
theorem d_Bits (code : List Int) (hl : code.length ≤ 9223372036854775807) (n : Int) (hn : 0 ≤ n) (hn2 : n ≤ 1000) : CurC Try.prog 49 1 (code.map byteEl) [i64v n] (fun rs => ∃ l : List Bool, rs = [boolsV l] ∧ (l.length : Int) = n) := by
  refine curC_of (Γ := lookT tbl) (il := ilist) tg dr Try.func49 rfl (by kernel_rfl) rfl (Nat.le_of_ble_eq_true rfl) ?_
  intro i h hi
  have hB := d_Once code hl 2 (by decide)
  generalize code.map byteEl = L at *
  conv => whnf
  refine loop_i (fun s : Nat × List Bool × Int × Int => ⟨envL [(0, .c (.ptr 0 0)), (1, .c (.pv (.int .i64 n))), (5, .c (.row 3)), (6, .c (.pv (.int .i64 s.1)))], resL [(0, .box [.row 1, .pv (.int .i64 s.2.2.1), .pv (.int .i64 s.2.2.2)]), (1, .ro 1 L), (2, .env [(0, .c (.ptr 0 0)), (1, .c (.row 1))]), (3, .row true 1 (s.2.1.map boolEl))], 4, 19⟩) (fun s => ((s.1 : Int) ≤ n ∧ s.2.1.length = s.1) ∧ 0 ≤ s.2.2.1) (fun s => n.toNat - s.1) (0, [], i, h) ⟨⟨hn, rfl⟩, hi⟩
    (le_mk [(3, _)] rfl ⟨⟨rfl, rfl⟩, ⟨rfl, rfl⟩, ⟨rfl, rfl⟩, ⟨rfl, rfl⟩, trivial⟩ ⟨⟨rfl, rfl⟩, ⟨rfl, rfl⟩, ⟨⟨rfl, rfl⟩, _, rfl, ⟨rfl, rfl⟩, ⟨rfl, rfl⟩, trivial⟩, ⟨rfl, rfl⟩, trivial⟩ rfl) ?_
  rintro ⟨k, l, i, h⟩ ⟨⟨hk, hl⟩, hi⟩
  dsimp only at hk hl hi
  conv => whnf
  refine br_i (fun hb => ?_) (fun hb => ?_)
  · conv => whnf
    refine inl_cur (Γ := lookT tbl) [3] ?_
    conv => whnf
    refine cur_i hB hi ?_
    rintro _ i h ⟨x, rfl⟩ hi
    conv => whnf
    refine ⟨⟨rfl, flat_bool [x]⟩, ?_⟩
    conv => whnf
    refine ⟨(l ++ [x]).map boolEl, ⟨by rw [List.length_map]; show (l.length + 1) * 1 ≤ _; omega, by rw [List.map_append]; rfl⟩, ?_⟩
    conv => whnf
    have hb : (k : Int) < n := by simpa using hb
    exact ⟨(k + 1, l ++ [x], i, h), ⟨⟨⟨by show ((k + 1 : Nat) : Int) ≤ n; omega, by simp [hl]⟩, hi⟩, by show n.toNat - (k + 1) < n.toNat - k; omega⟩, le_mk [(3, _)] rfl ⟨⟨rfl, rfl⟩, ⟨rfl, rfl⟩, ⟨rfl, rfl⟩, ⟨ctr (by omega), rfl⟩, trivial⟩ ⟨⟨rfl, rfl⟩, ⟨rfl, rfl⟩, ⟨⟨rfl, rfl⟩, _, rfl, ⟨rfl, rfl⟩, ⟨rfl, rfl⟩, trivial⟩, ⟨rfl, rfl⟩, trivial⟩ rfl⟩
  · conv => whnf
    refine cur_leaf rfl rfl rfl hi ?_
    exact ⟨l, rfl, by simp at hb; omega⟩
theorem u8wd {x : Int} (h : 0 ≤ x) (h2 : x < 256) : IntKind.u8.wrap x = x := by
  show Int.emod x 256 = x
  exact Int.emod_eq_of_lt h h2
theorem newI {L : List (List PV)} {k : Nat} {code : List Int} (hb : (k : Int) < L.length) (hL : L = code.map byteEl := by rfl) : L[((k : Int)).toNat]? = some (byteEl (bAt code k)) := by
  subst hL
  rw [List.length_map] at hb
  exact (idx_b code k ⟨by omega, hb⟩).1.2
/-- A question that was drawn near to a place. -/
def goodR (near : Int) (r : XReq) : Prop := specReq r = true ∧ (near ≤ r.At ∧ r.At < near + 12) ∧ (0 ≤ r.N ∧ r.N ≤ 6) ∧ (r.Words.length ≤ 6 ∧ r.Bits.length ≤ 13) ∧ (0 ≤ r.WAt ∧ r.WAt < near + 12) ∧ words r.Words
theorem fits_ok {a n : Int} (h : 0 ≤ a) (h2 : 0 ≤ n) (h3 : a + n ≤ 65536) (h4 : a ≤ 65535) : fitsB a n = true := by
  unfold fitsB wrap64
  rw [wrap_ok (by omega) (by omega)]
  simp [inB]; omega
theorem words_all {l : List Int} (h : words l) : l.all word = true := by
  rw [List.all_eq_true]
  intro x hx
  have := h x hx
  simp [word, inB]; omega
theorem goodR_mk {near k a n w : Int} {W : List Int} {B : List Bool} (hn : 0 ≤ near) (hn2 : near ≤ 1000) (ha : near ≤ a ∧ a < near + 12) (hN : 0 ≤ n ∧ n ≤ 6) (hl : W.length ≤ 6 ∧ B.length ≤ 13) (hw : 0 ≤ w ∧ w < near + 12) (hW : words W)
    (hk : ((k = 1 ∨ k = 2 ∨ k = 3 ∨ k = 4) ∧ 1 ≤ n ∧ W.length = 0 ∧ B.length = 0 ∧ w = 0) ∨ (k = 5 ∧ n = 0 ∧ W.length = 0 ∧ B.length = 1 ∧ w = 0) ∨ (k = 6 ∧ n = 0 ∧ W.length = 1 ∧ B.length = 0 ∧ w = 0) ∨ (k = 15 ∧ n = 0 ∧ W.length = 0 ∧ 1 ≤ B.length ∧ w = 0) ∨
      (k = 16 ∧ n = 0 ∧ 1 ≤ W.length ∧ B.length = 0 ∧ w = 0) ∨ (k = 22 ∧ n = 0 ∧ W.length = 2 ∧ B.length = 0 ∧ w = 0) ∨ (k = 23 ∧ 1 ≤ n ∧ 1 ≤ W.length ∧ B.length = 0)) : goodR near ⟨k, a, n, W, B, w⟩ := by
  refine ⟨?_, ha, hN, hl, hw, hW⟩
  have h1 := words_all hW
  have h2 : inB a 0 65535 = true := by simp [inB]; omega
  have h3 : ∀ m : Int, 0 ≤ m → m ≤ 1000 → fitsB a m = true := fun m h h' => fits_ok (by omega) h (by omega) (by omega)
  have h4 : ∀ m : Int, 0 ≤ m → m ≤ 1000 → fitsB w m = true := fun m h h' => fits_ok (by omega) h (by omega) (by omega)
  unfold specReq
  dsimp only
  rw [if_neg (by rw [h1, h2]; decide)]
  rcases hk with ⟨hk, c1, c2, c3, c4⟩ | ⟨rfl, c1, c2, c3, c4⟩ | ⟨rfl, c1, c2, c3, c4⟩ | ⟨rfl, c1, c2, c3, c4⟩ | ⟨rfl, c1, c2, c3, c4⟩ | ⟨rfl, c1, c2, c3, c4⟩ | ⟨rfl, c1, c2, c3⟩
  · rcases hk with rfl | rfl | rfl | rfl <;> simp [zeroB, inB, c2, c3, c4, h3 n hN.1 (by omega)] <;> omega
  · simp [zeroB, inB, c1, c2, c3, c4]
  · simp [zeroB, inB, c1, c2, c3, c4]
  · simp [zeroB, inB, c1, c2, c4, h3 (B.length : Int) (by omega) (by omega)]; omega
  · simp [zeroB, inB, c1, c3, c4, h3 (W.length : Int) (by omega) (by omega)]; omega
  · simp [zeroB, inB, c1, c2, c3, c4]
  · simp [zeroB, inB, c3, h3 n hN.1 (by omega), h4 (W.length : Int) (by omega) (by omega)]; omega
theorem words_nil : words [] := fun x hx => by cases hx
theorem d_Req (code : List Int) (hl : code.length ≤ 9223372036854775807) (near : Int) (hn : 0 ≤ near) (hn2 : near ≤ 1000) : CurC Try.prog 20 1 (code.map byteEl) [i64v near] (fun rs => ∃ r : XReq, rs = [r.v] ∧ goodR near r) := by
  refine curC_of (Γ := lookT tbl) (il := ilist) tg dr Try.func20 rfl (by kernel_rfl) rfl (Nat.le_of_ble_eq_true rfl) ?_
  intro i h hi
  have hI := d_Int code hl
  have hB := d_Below code hl
  have hL := d_List code hl
  have hT := d_Bits code hl
  generalize code.map byteEl = L at *
  conv => whnf
  refine inl_cur (Γ := lookT tbl) [27] ?_
  conv => whnf
  refine cur_i (hI [1, 2, 3, 4, 5, 6, 15, 16, 22, 23, 3, 16] (Nat.succ_pos _)) hi ?_
  rintro _ i h ⟨k, rfl, hk⟩ hi
  conv => whnf
  refine inl_cur (Γ := lookT tbl) [3] ?_
  conv => whnf
  refine cur_i (hB 12 (by decide)) hi ?_
  rintro _ i h ⟨a, rfl, ha, ha2⟩ hi
  conv => whnf
  rw [wrap_ok (x := near + a) (by omega) (by omega)]
  refine inl_cur (Γ := lookT tbl) [3] ?_
  conv => whnf
  refine cur_i (hB 6 (by decide)) hi ?_
  rintro _ i h ⟨n, rfl, hn0, hn1⟩ hi
  conv => whnf
  rw [wrap_ok (x := 1 + n) (by omega) (by omega)]
  refine br_i (fun hb => ?_) (fun hb => ?_)
  · have hb : k = 5 := by simpa using hb
    conv => whnf
    refine inl_cur (Γ := lookT tbl) [3] ?_
    conv => whnf
    refine cur_i (hT 1 (by decide) (by decide)) hi ?_
    rintro _ i h ⟨l, rfl, hl1⟩ hi
    conv => whnf
    refine cur_leaf rfl rfl rfl hi ?_
    exact ⟨⟨k, near + a, 0, [], l, 0⟩, rfl, goodR_mk hn hn2 (by omega) (by omega) (by simp; omega) (by omega) words_nil (by simp; omega)⟩
  have hb : k ≠ 5 := by simpa using hb
  conv => whnf
  refine br_i (fun hc => ?_) (fun hc => ?_)
  · have hc : k = 6 := by simpa using hc
    conv => whnf
    refine inl_cur (Γ := lookT tbl) [3] ?_
    conv => whnf
    refine cur_i (hL 1 (by decide) (by decide)) hi ?_
    rintro _ i h ⟨l, rfl, hl1, hl2⟩ hi
    conv => whnf
    refine cur_leaf rfl rfl rfl hi ?_
    exact ⟨⟨k, near + a, 0, l, [], 0⟩, rfl, goodR_mk hn hn2 (by omega) (by omega) (by simp; omega) (by omega) hl2 (by simp; omega)⟩
  have hc : k ≠ 6 := by simpa using hc
  conv => whnf
  refine br_i (fun hd => ?_) (fun hd => ?_)
  · have hd : k = 22 := by simpa using hd
    conv => whnf
    refine inl_cur (Γ := lookT tbl) [3] ?_
    conv => whnf
    refine cur_i (hL 2 (by decide) (by decide)) hi ?_
    rintro _ i h ⟨l, rfl, hl1, hl2⟩ hi
    conv => whnf
    refine cur_leaf rfl rfl rfl hi ?_
    exact ⟨⟨k, near + a, 0, l, [], 0⟩, rfl, goodR_mk hn hn2 (by omega) (by omega) (by simp; omega) (by omega) hl2 (by simp; omega)⟩
  have hd : k ≠ 22 := by simpa using hd
  conv => whnf
  refine br_i (fun he => ?_) (fun he => ?_)
  · have he : k = 15 := by simpa using he
    conv => whnf
    refine inl_cur (Γ := lookT tbl) [3] ?_
    conv => whnf
    refine cur_i (hB 8 (by decide)) hi ?_
    rintro _ i h ⟨m, rfl, hm, hm2⟩ hi
    conv => whnf
    rw [wrap_ok (x := 1 + n + m) (by omega) (by omega)]
    refine inl_cur (Γ := lookT tbl) [3] ?_
    conv => whnf
    refine cur_i (hT (1 + n + m) (by omega) (by omega)) hi ?_
    rintro _ i h ⟨l, rfl, hl1⟩ hi
    conv => whnf
    refine cur_leaf rfl rfl rfl hi ?_
    exact ⟨⟨k, near + a, 0, [], l, 0⟩, rfl, goodR_mk hn hn2 (by omega) (by omega) (by simp; omega) (by omega) words_nil (by simp; omega)⟩
  have he : k ≠ 15 := by simpa using he
  conv => whnf
  refine br_i (fun hf => ?_) (fun hf => ?_)
  · have hf : k = 16 := by simpa using hf
    conv => whnf
    refine inl_cur (Γ := lookT tbl) [3] ?_
    conv => whnf
    refine cur_i (hL (1 + n) (by omega) (by omega)) hi ?_
    rintro _ i h ⟨l, rfl, hl1, hl2⟩ hi
    conv => whnf
    refine cur_leaf rfl rfl rfl hi ?_
    exact ⟨⟨k, near + a, 0, l, [], 0⟩, rfl, goodR_mk hn hn2 (by omega) (by omega) (by simp; omega) (by omega) hl2 (by simp; omega)⟩
  have hf : k ≠ 16 := by simpa using hf
  conv => whnf
  refine br_i (fun hg => ?_) (fun hg => ?_)
  · have hg : k = 23 := by simpa using hg
    conv => whnf
    refine inl_cur (Γ := lookT tbl) [3] ?_
    conv => whnf
    refine cur_i (hB 12 (by decide)) hi ?_
    rintro _ i h ⟨m, rfl, hm, hm2⟩ hi
    conv => whnf
    rw [wrap_ok (x := near + m) (by omega) (by omega)]
    refine inl_cur (Γ := lookT tbl) [3] ?_
    conv => whnf
    refine cur_i (hB 4 (by decide)) hi ?_
    rintro _ i h ⟨p, rfl, hp, hp2⟩ hi
    conv => whnf
    rw [wrap_ok (x := 1 + p) (by omega) (by omega)]
    refine inl_cur (Γ := lookT tbl) [3] ?_
    conv => whnf
    refine cur_i (hL (1 + p) (by omega) (by omega)) hi ?_
    rintro _ i h ⟨l, rfl, hl1, hl2⟩ hi
    conv => whnf
    refine cur_leaf rfl rfl rfl hi ?_
    exact ⟨⟨k, near + a, 1 + n, l, [], near + m⟩, rfl, goodR_mk hn hn2 (by omega) (by omega) (by simp; omega) (by omega) hl2 (by simp; omega)⟩
  have hg : k ≠ 23 := by simpa using hg
  conv => whnf
  refine cur_leaf rfl rfl rfl hi ?_
  simp at hk
  exact ⟨⟨k, near + a, 1 + n, [], [], 0⟩, rfl, goodR_mk hn hn2 (by omega) (by omega) (by simp) (by omega) words_nil (by simp; omega)⟩
theorem flat_rule (l : List XRule) : Flat (l.map XRule.ps) := by
  intro el h p hp
  obtain ⟨r, _, rfl⟩ := List.mem_map.1 h
  simp [XRule.ps] at hp
  rcases hp with rfl | rfl | rfl | rfl | rfl | rfl | rfl <;> rfl
theorem setAt_map {α : Type} {f : α → List PV} {l : List α} {k : Nat} (h : k < l.length) (x : α) (j : Nat) (p : PV) (e : (f l[k]).set j p = f x) : (l.set k x).map f = setAt (l.map f) k j p := by
  apply List.ext_getElem?
  intro i
  simp only [setAt, List.getElem?_map, List.getElem?_set, List.getElem?_modify]
  by_cases hi : k = i
  · subst hi
    simp [h, e]
  · simp [hi]
set_option maxHeartbeats 2000000 in
theorem d_One (code : List Int) (hl : code.length ≤ 9223372036854775807) : CurC Try.prog 22 1 (code.map byteEl) [] (fun rs => ∃ l : List XRule, rs = [XRule.sV l] ∧ l.length ≤ 200) := by
  refine curC_of (Γ := lookT tbl) (il := ilist) tg dr Try.func22 rfl (by kernel_rfl) rfl (Nat.le_of_ble_eq_true rfl) ?_
  intro i h hi
  have hB := d_Below code hl
  generalize code.map byteEl = L at *
  conv => whnf
  refine loop_i (fun s : Nat × List XRule × Int × Int => ⟨envL [(0, .c (.ptr 0 0)), (3, .c (.row 3)), (4, .c (.pv (.int .i64 s.1)))], resL [(0, .box [.row 1, .pv (.int .i64 s.2.2.1), .pv (.int .i64 s.2.2.2)]), (1, .ro 1 L), (2, .env [(0, .c (.ptr 0 0)), (1, .c (.row 1))]), (3, .row true 7 (s.2.1.map XRule.ps))], 4, 36⟩) (fun s => (s.1 ≤ 4 ∧ s.2.1.length ≤ 21 * s.1) ∧ 0 ≤ s.2.2.1) (fun s => 4 - s.1) (0, [], i, h) ⟨⟨Nat.zero_le _, Nat.le_refl _⟩, hi⟩
    (le_mk [(3, _)] rfl ⟨⟨rfl, rfl⟩, ⟨rfl, rfl⟩, ⟨rfl, rfl⟩, trivial⟩ ⟨⟨rfl, rfl⟩, ⟨rfl, rfl⟩, ⟨⟨rfl, rfl⟩, _, rfl, ⟨rfl, rfl⟩, ⟨rfl, rfl⟩, trivial⟩, ⟨rfl, rfl⟩, trivial⟩ rfl) ?_
  rintro ⟨k, l, i, h⟩ ⟨⟨hk, hll⟩, hi⟩
  dsimp only at hk hll hi
  conv => whnf
  refine br_i (fun hb => ?_) (fun hb => ?_)
  · have hb : k < 4 := by simp at hb; omega
    conv => whnf
    refine loop_i (fun s : Nat × List XRule × Int × Int => ⟨envL [(0, .c (.ptr 0 0)), (3, .c (.row 3)), (4, .c (.pv (.int .i64 k))), (5, .c (.pv (.int .i64 s.1)))], resL [(0, .box [.row 1, .pv (.int .i64 s.2.2.1), .pv (.int .i64 s.2.2.2)]), (1, .ro 1 L), (2, .env [(0, .c (.ptr 0 0)), (1, .c (.row 1))]), (3, .row true 7 (s.2.1.map XRule.ps))], 4, 36⟩) (fun s => (s.1 ≤ 21 ∧ s.2.1.length ≤ 21 * k + s.1) ∧ 0 ≤ s.2.2.1) (fun s => 21 - s.1) (0, l, i, h) ⟨⟨Nat.zero_le _, hll⟩, hi⟩
      (le_mk [] rfl ⟨⟨rfl, rfl⟩, ⟨rfl, rfl⟩, ⟨rfl, rfl⟩, ⟨rfl, rfl⟩, trivial⟩ ⟨⟨rfl, rfl⟩, ⟨rfl, rfl⟩, ⟨⟨rfl, rfl⟩, _, rfl, ⟨rfl, rfl⟩, ⟨rfl, rfl⟩, trivial⟩, ⟨rfl, rfl⟩, trivial⟩ rfl) ?_
    rintro ⟨m, l, i, h⟩ ⟨⟨hm, hl2⟩, hi⟩
    dsimp only at hm hl2 hi
    conv => whnf
    refine br_i (fun hb3 => ?_) (fun hb3 => ?_)
    · have hb3 : m < 20 := by simp at hb3; omega
      conv => whnf
      refine inl_cur (Γ := lookT tbl) [3] ?_
      conv => whnf
      refine cur_i (hB 9 (by decide)) hi ?_
      rintro _ i h ⟨x, rfl, hx, hx2⟩ hi
      conv => whnf
      rw [wrap_ok (x := (m : Int) + 2) (by omega) (by omega), wrap_ok (x := (m : Int) + 2 + x) (by omega) (by omega)]
      obtain ⟨v, hv, hv1⟩ : ∃ v : Nat, (v : Int) = m + 2 + x ∧ m + 2 ≤ v := ⟨m + 2 + x.toNat, by omega, by omega⟩
      rw [← hv]
      refine br_i (fun hb4 => ?_) (fun hb4 => ?_)
      all_goals
        conv => whnf
        refine inl_cur (Γ := lookT tbl) [3] ?_
        conv => whnf
        refine cur_i (hB 3 (by decide)) hi ?_
        rintro _ i h ⟨x3, rfl, _, _⟩ hi
        conv => whnf
        refine inl_cur (Γ := lookT tbl) [3] ?_
        conv => whnf
        refine cur_i (hB 2 (by decide)) hi ?_
        rintro _ i h ⟨x4, rfl, _, _⟩ hi
        conv => whnf
        refine ⟨⟨rfl, flat_rule [⟨_, _, _, _, _, _, _⟩]⟩, ?_⟩
        conv => whnf
      · obtain ⟨r, hr⟩ : ∃ r : XRule, r = ⟨1, k, m, 20, x3, IntKind.i64.wrap (1 + x4), 0⟩ := ⟨_, rfl⟩
        refine ⟨(l ++ [r]).map XRule.ps, ⟨by rw [List.length_map]; show (l.length + 1) * 56 ≤ 140737488355328; omega, by rw [List.map_append, hr]; rfl⟩, ?_⟩
        conv => whnf
        exact ⟨(21, l ++ [r], i, h), ⟨⟨⟨Nat.le_refl _, by show (l ++ [r]).length ≤ 21 * k + 21; rw [List.length_append]; simp; omega⟩, hi⟩, by show 21 - 21 < 21 - m; omega⟩, le_mk [(3, _)] rfl ⟨⟨rfl, rfl⟩, ⟨rfl, rfl⟩, ⟨rfl, rfl⟩, ⟨rfl, rfl⟩, trivial⟩ ⟨⟨rfl, rfl⟩, ⟨rfl, rfl⟩, ⟨⟨rfl, rfl⟩, _, rfl, ⟨rfl, rfl⟩, ⟨rfl, rfl⟩, trivial⟩, ⟨rfl, rfl⟩, trivial⟩ rfl⟩
      · have hb4 : v ≤ 20 := by simp at hb4; omega
        obtain ⟨r, hr⟩ : ∃ r : XRule, r = ⟨1, k, m, v, x3, IntKind.i64.wrap (1 + x4), 0⟩ := ⟨_, rfl⟩
        refine ⟨(l ++ [r]).map XRule.ps, ⟨by rw [List.length_map]; show (l.length + 1) * 56 ≤ 140737488355328; omega, by rw [List.map_append, hr]; rfl⟩, ?_⟩
        conv => whnf
        exact ⟨(v + 1, l ++ [r], i, h), ⟨⟨⟨by show v + 1 ≤ 21; omega, by show (l ++ [r]).length ≤ 21 * k + (v + 1); rw [List.length_append]; simp; omega⟩, hi⟩, by show 21 - (v + 1) < 21 - m; omega⟩, le_mk [(3, _)] rfl ⟨⟨rfl, rfl⟩, ⟨rfl, rfl⟩, ⟨rfl, rfl⟩, ⟨ctr (by omega), rfl⟩, trivial⟩ ⟨⟨rfl, rfl⟩, ⟨rfl, rfl⟩, ⟨⟨rfl, rfl⟩, _, rfl, ⟨rfl, rfl⟩, ⟨rfl, rfl⟩, trivial⟩, ⟨rfl, rfl⟩, trivial⟩ rfl⟩
    · conv => whnf
      exact ⟨(k + 1, l, i, h), ⟨⟨⟨by show k + 1 ≤ 4; omega, by show l.length ≤ 21 * (k + 1); omega⟩, hi⟩, by show 4 - (k + 1) < 4 - k; omega⟩, le_mk [] rfl ⟨⟨rfl, rfl⟩, ⟨rfl, rfl⟩, ⟨ctr (by omega), rfl⟩, trivial⟩ ⟨⟨rfl, rfl⟩, ⟨rfl, rfl⟩, ⟨⟨rfl, rfl⟩, _, rfl, ⟨rfl, rfl⟩, ⟨rfl, rfl⟩, trivial⟩, ⟨rfl, rfl⟩, trivial⟩ rfl⟩
  · conv => whnf
    refine cur_leaf rfl rfl rfl hi ?_
    exact ⟨l, rfl, by omega⟩
def smallQ (r : XReq) : Prop := (0 ≤ r.N ∧ r.N ≤ 6) ∧ r.Words.length ≤ 6 ∧ r.Bits.length ≤ 13
theorem small_of {n : Int} {r : XReq} (h : goodR n r) : smallQ r := ⟨h.2.2.1, h.2.2.2.1⟩
theorem fB (l : List Bool) : (1 = 1) ∧ Flat (l.map boolEl) := ⟨rfl, flat_bool l⟩
theorem fI (l : List Int) : (1 = 1) ∧ Flat (l.map intEl) := ⟨rfl, flat_int l⟩
theorem aB (l : List Bool) (h : l.length ≤ 1048576) : (0 + (l.map boolEl).length) * 1 ≤ 140737488355328 ∧ l.map boolEl = [] ++ l.map boolEl := ⟨app_b l h, rfl⟩
theorem aI (l : List Int) (h : l.length ≤ 1048576) : (0 + (l.map intEl).length) * 8 ≤ 140737488355328 ∧ l.map intEl = [] ++ l.map intEl := ⟨app_i l h, rfl⟩
theorem tl1 (k : Int) (W : List Int) {n : Int} (h : (W.length : Int) = n) (h2 : n ≤ 6) : ∃ a : XResp, [VV.agg [.int .i64 k, .int .i64 0, .int .i64 0, .int .i64 0, .sl 1 (W.map intEl), .sl 1 []]] = [a.v] ∧ a.tot ≤ 40 := ⟨⟨k, 0, 0, 0, W, []⟩, rfl, by show W.length + 0 ≤ 40; omega⟩
theorem tl2 (k a_ : Int) (B : List Bool) (h : B.length ≤ 13) : ∃ a : XResp, [VV.agg [.int .i64 k, .int .i64 0, .int .i64 a_, .int .i64 0, .sl 1 [], .sl 1 (B.map boolEl)]] = [a.v] ∧ a.tot ≤ 40 := ⟨⟨k, 0, a_, 0, [], B⟩, rfl, by show 0 + B.length ≤ 40; omega⟩
theorem tl3 (k a_ : Int) (W : List Int) (h : W.length ≤ 6) : ∃ a : XResp, [VV.agg [.int .i64 k, .int .i64 0, .int .i64 a_, .int .i64 0, .sl 1 (W.map intEl), .sl 1 []]] = [a.v] ∧ a.tot ≤ 40 := ⟨⟨k, 0, a_, 0, W, []⟩, rfl, by show W.length + 0 ≤ 40; omega⟩
theorem tl4 (k a_ n : Int) : ∃ a : XResp, [VV.agg [.int .i64 k, .int .i64 0, .int .i64 a_, .int .i64 n, .sl 1 [], .sl 1 []]] = [a.v] ∧ a.tot ≤ 40 := ⟨⟨k, 0, a_, n, [], []⟩, rfl, Nat.zero_le _⟩
theorem d_Tell (code : List Int) (hl : code.length ≤ 9223372036854775807) (q : XReq) (hq : smallQ q) : CurC Try.prog 48 1 (code.map byteEl) [q.v] (fun rs => ∃ a : XResp, rs = [a.v] ∧ a.tot ≤ 40) := by
  refine curC_of (Γ := lookT tbl) (il := ilist) tg dr Try.func48 rfl (by kernel_rfl) rfl (Nat.le_of_ble_eq_true rfl) ?_
  intro i h hi
  have hB := d_Below code hl
  have hO := d_Once code hl 6 (by decide)
  have hT := d_Bits code hl q.N (by have := hq.1; omega) (by have := hq.1; omega)
  have hL := d_List code hl q.N (by have := hq.1; omega) (by have := hq.1; omega)
  obtain ⟨⟨hN, hN2⟩, hW, hQ⟩ := hq
  generalize code.map byteEl = L at *
  conv => whnf
  refine inl_cur (Γ := lookT tbl) [3] ?_
  conv => whnf
  refine cur_i hO hi ?_
  rintro _ i h ⟨x, rfl⟩ hi
  conv => whnf
  refine br_i (fun hb => ?_) (fun hb => ?_)
  · conv => whnf
    refine And.intro rfl ?_
    conv => whnf
    refine cur_i (hB 11 (by decide)) hi ?_
    rintro _ i h ⟨y, rfl, _, _⟩ hi
    conv => whnf
    refine And.intro rfl ?_
    conv => whnf
    refine cur_leaf rfl rfl rfl hi ?_
    exact ⟨⟨q.Kind, IntKind.i64.wrap (1 + y), 0, 0, [], []⟩, rfl, Nat.zero_le _⟩
  clear hb
  (repeat' ((conv => whnf); first | refine br_i (fun _ => ?_) (fun _ => ?_) | (refine cur_leaf rfl rfl rfl ?_ ?_; · first | assumption | omega | exact hw ‹_›) | refine leaf_i rfl rfl ?_ | refine And.intro rfl ?_ | ((refine inl_cur (Γ := lookT tbl) [3] ?_; (conv => whnf); refine cur_i hT hi ?_; rintro _ i2 h2 ⟨B, rfl, hBl⟩ hi2)) | ((refine inl_cur (Γ := lookT tbl) [3] ?_; (conv => whnf); refine cur_i hL hi ?_; rintro _ i2 h2 ⟨W, rfl, hWl, _⟩ hi2)) | (refine And.intro (fB q.Bits) ?_) | (refine And.intro (fI q.Words) ?_) | (refine Exists.intro (q.Bits.map boolEl) (And.intro (aB q.Bits (by omega)) ?_)) | (refine Exists.intro (q.Words.map intEl) (And.intro (aI q.Words (by omega)) ?_)) | (refine And.intro ?_ ?_; · decide)))
  all_goals try exact tl1 _ _ hWl hN2
  all_goals try exact tl2 _ _ _ hQ
  all_goals try exact tl3 _ _ _ hW
  all_goals try exact tl4 _ _ _
  all_goals
    conv => whnf
    have hBn : B.length ≤ 6 := by omega
    refine loop_i (fun s : Nat => ⟨envL [(0, .c (.ptr 0 0)), (4, .c (.ptr 4 0)), (5, .c (.ptr 3 0))], resL [(0, .box [.row 1, .pv (.int .i64 i2), .pv (.int .i64 h2)]), (1, .ro 1 L), (2, .env [(0, .c (.ptr 0 0)), (1, .c (.row 1))]), (3, .box [.pv (.int .i64 q.Kind), .pv (.int .i64 0), .pv (.int .i64 0), .pv (.int .i64 0), .nil 1, .row 5]), (4, .box [.pv (.int .i64 0), .pv (.int .i64 0), .pv (.int .i64 0), .pv (.int .i64 0), .nil 1, .nil 1]), (5, .row true 1 ((B ++ List.replicate s false).map boolEl))], 6, 84⟩) (fun s => s ≤ (8 - B.length % 8) % 8) (fun s => 8 - s) 0 (Nat.zero_le _)
      (le_mk [(3, _), (4, _), (5, _)] rfl ⟨⟨rfl, rfl⟩, ⟨rfl, rfl⟩, ⟨rfl, rfl⟩, trivial⟩ ⟨⟨rfl, rfl⟩, ⟨rfl, rfl⟩, ⟨⟨rfl, rfl⟩, _, rfl, ⟨rfl, rfl⟩, ⟨rfl, rfl⟩, trivial⟩, ⟨rfl, rfl⟩, ⟨rfl, rfl⟩, ⟨by rw [List.replicate_zero, List.append_nil]; exact ⟨rfl, rfl⟩, trivial⟩⟩ rfl) ?_
    intro s hs
    have hlen : ((B ++ List.replicate s false).map boolEl).length = B.length + s := by simp
    conv => whnf
    refine ⟨by decide, ?_⟩
    conv => whnf
    rw [hlen]
    refine br_i (fun hc => ?_) (fun hc => ?_)
    · have hc : ((B.length + s : Nat) : Int).tmod 8 ≠ 0 := by simpa using hc
      rw [Int.tmod_eq_emod_of_nonneg (by omega)] at hc
      conv => whnf
      refine And.intro (fB [false]) ?_
      conv => whnf
      refine ⟨(B ++ List.replicate (s + 1) false).map boolEl, ⟨by rw [hlen]; show (B.length + s + 1) * 1 ≤ 140737488355328; omega, by rw [List.replicate_succ', ← List.append_assoc, List.map_append]; rfl⟩, ?_⟩
      conv => whnf
      exact ⟨s + 1, ⟨by omega, by show 8 - (s + 1) < 8 - s; omega⟩, le_mk [(3, _), (4, _), (5, _)] rfl ⟨⟨rfl, rfl⟩, ⟨rfl, rfl⟩, ⟨rfl, rfl⟩, trivial⟩ ⟨⟨rfl, rfl⟩, ⟨rfl, rfl⟩, ⟨⟨rfl, rfl⟩, _, rfl, ⟨rfl, rfl⟩, ⟨rfl, rfl⟩, trivial⟩, ⟨rfl, rfl⟩, ⟨rfl, rfl⟩, ⟨rfl, rfl⟩, trivial⟩ rfl⟩
    · conv => whnf
      refine cur_leaf rfl rfl rfl hi2 ?_
      exact tl2 _ _ (B ++ List.replicate s false) (by rw [List.length_append, List.length_replicate]; omega)
end Go.Proofs.Ytnpcgheojijpjaa
