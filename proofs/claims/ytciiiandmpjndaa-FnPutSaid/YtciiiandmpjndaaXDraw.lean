/- What is drawn: a cursor's functions, by the properties of what they give. -/
import Derived.Test.YtciiiandmpjndaaXLineOk
namespace Go.Proofs.Ytciiiandmpjndaa
open Go Go.Vi
set_option linter.unusedVariables false
set_option linter.unusedSimpArgs false
set_option maxRecDepth 100000
theorem and255 (y : Int) : 0 ≤ IntKind.i64.wrap ((BitVec.ofInt IntKind.i64.bits y &&& BitVec.ofInt IntKind.i64.bits 255).toNat : Int) ∧ IntKind.i64.wrap ((BitVec.ofInt IntKind.i64.bits y &&& BitVec.ofInt IntKind.i64.bits 255).toNat : Int) < 256 := by
  have h : (BitVec.ofInt IntKind.i64.bits y &&& BitVec.ofInt IntKind.i64.bits 255).toNat ≤ 255 := by
    rw [BitVec.toNat_and]
    exact Nat.le_trans Nat.and_le_right (by decide)
  rw [wrap_ok (by omega) (by omega)]
  omega
theorem d_Byte (code : List Int) (hl : code.length ≤ 9223372036854775807) : CurC Try.prog 45 1 (code.map byteEl) [] (fun rs => ∃ x : Int, rs = [i64v x] ∧ 0 ≤ x ∧ x < 256) := by
  refine curC_of (Γ := lookT tbl) (il := ilist) tg dr Try.func45 rfl (by kernel_rfl) rfl (Nat.le_of_ble_eq_true rfl) ?_
  intro i h0 hi
  generalize hL : code.map byteEl = L
  have hLl : L.length ≤ 9223372036854775807 := by rw [← hL, List.length_map]; exact hl
  have key : ∃ b : Int, i < L.length → ((i = (i.toNat : Int) ∧ i.toNat < L.length) ∧ 1 = 1) ∧ L[i.toNat]? = some [PV.int .u8 b] := by
    by_cases h : i < L.length
    · have hlt : i.toNat < code.length := by rw [← hL, List.length_map] at h; omega
      refine ⟨code[i.toNat], fun _ => ⟨⟨⟨by omega, by omega⟩, rfl⟩, ?_⟩⟩
      rw [← hL, List.getElem?_map, List.getElem?_eq_getElem hlt]
      rfl
    · exact ⟨0, fun h2 => absurd h2 h⟩
  obtain ⟨b, key⟩ := key
  have hw : decide (i < (L.length : Int)) = true → 0 ≤ IntKind.i64.wrap (i + 1) := fun h => by
    have h : i < (L.length : Int) := by simpa using h
    rw [wrap_ok (by omega) (by omega)]; omega
  (repeat' ((conv => whnf); first | refine br_i (fun _ => ?_) (fun _ => ?_) | (refine cur_leaf rfl rfl rfl ?_ ?_; · first | assumption | omega | exact hw ‹_›) | refine leaf_i rfl rfl ?_ | refine And.intro rfl ?_ | (refine ⟨i.toNat, (key (by simpa using ‹decide (i < (L.length : Int)) = true›)).1, ?_⟩) | (refine ⟨_, ⟨rfl, (key (by simpa using ‹decide (i < (L.length : Int)) = true›)).2⟩, ?_⟩) | (refine And.intro ?_ ?_; · decide)))
  all_goals exact ⟨_, rfl, and255 _⟩
theorem rem_b {x n : Int} (hx : 0 ≤ x) (hn : 0 < n) : 0 ≤ x.tmod n ∧ x.tmod n < n := ⟨Int.tmod_nonneg _ hx, Int.tmod_lt_of_pos _ hn⟩
/-- Below n. -/
theorem d_Below (code : List Int) (hl : code.length ≤ 9223372036854775807) (n : Int) (hn : 0 < n) : CurC Try.prog 20 1 (code.map byteEl) [i64v n] (fun rs => ∃ x : Int, rs = [i64v x] ∧ 0 ≤ x ∧ x < n) := by
  refine curC_of (Γ := lookT tbl) (il := ilist) tg dr Try.func20 rfl (by kernel_rfl) rfl (Nat.le_of_ble_eq_true rfl) ?_
  intro i h0 hi
  have hB := d_Byte code hl
  generalize code.map byteEl = L at *
  conv => whnf
  refine br_i (fun h => absurd h (by simp; omega)) (fun h => ?_)
  conv => whnf
  refine br_i (fun h => ?_) (fun h => ?_)
  · conv => whnf
    refine inl_cur (Γ := lookT tbl) [] ?_
    conv => whnf
    refine cur_i hB hi ?_
    rintro _ i h0 ⟨x, rfl, hx, hx2⟩ hi
    conv => whnf
    refine ⟨by omega, ?_⟩
    conv => whnf
    refine cur_leaf rfl rfl rfl hi ?_
    exact ⟨_, rfl, rem_b hx hn⟩
  · conv => whnf
    refine inl_cur (Γ := lookT tbl) [] ?_
    conv => whnf
    refine cur_i hB hi ?_
    rintro _ i h0 ⟨x, rfl, hx, hx2⟩ hi
    conv => whnf
    refine inl_cur (Γ := lookT tbl) [] ?_
    conv => whnf
    refine cur_i hB hi ?_
    rintro _ i h0 ⟨y, rfl, hy, hy2⟩ hi
    conv => whnf
    refine inl_cur (Γ := lookT tbl) [] ?_
    conv => whnf
    refine cur_i hB hi ?_
    rintro _ i h0 ⟨z, rfl, hz, hz2⟩ hi
    conv => whnf
    refine ⟨by omega, ?_⟩
    conv => whnf
    refine cur_leaf rfl rfl rfl hi ?_
    rw [wrap_ok (x := x * 65536) (by omega) (by omega), wrap_ok (x := y * 256) (by omega) (by omega), wrap_ok (x := x * 65536 + y * 256) (by omega) (by omega), wrap_ok (x := x * 65536 + y * 256 + z) (by omega) (by omega)]
    exact ⟨_, rfl, rem_b (by omega) hn⟩
/-- One of a list. -/
theorem d_Int (code : List Int) (hl : code.length ≤ 9223372036854775807) (l : List Int) (h0 : 0 < l.length) : CurC Try.prog 22 1 (code.map byteEl) [intsV l] (fun rs => ∃ x : Int, rs = [i64v x] ∧ x ∈ l) := by
  refine curC_of (Γ := lookT tbl) (il := ilist) tg dr Try.func22 rfl (by kernel_rfl) rfl (Nat.le_of_ble_eq_true rfl) ?_
  intro i h hi
  have hB := d_Below code hl l.length (by omega)
  generalize code.map byteEl = L at *
  conv => whnf
  refine inl_cur (Γ := lookT tbl) [3] ?_
  conv => whnf
  rw [List.length_map]
  refine cur_i hB hi ?_
  rintro _ i h0 ⟨x, rfl, hx, hx2⟩ hi
  conv => whnf
  refine ⟨_, idx_i l x ⟨hx, hx2⟩, ?_⟩
  conv => whnf
  refine cur_leaf rfl rfl rfl hi ?_
  refine ⟨_, rfl, ?_⟩
  have h2 : x.toNat < l.length := by omega
  rw [show bAt l x = l[x.toNat] by simp [bAt, h2]]
  exact List.getElem_mem h2
theorem d_Once (code : List Int) (hl : code.length ≤ 9223372036854775807) (n : Int) (hn : 0 < n) : CurC Try.prog 84 1 (code.map byteEl) [i64v n] (fun rs => ∃ x : Bool, rs = [boolv x]) := by
  refine curC_of (Γ := lookT tbl) (il := ilist) tg dr Try.func84 rfl (by kernel_rfl) rfl (Nat.le_of_ble_eq_true rfl) ?_
  intro i h hi
  have hB := d_Below code hl n hn
  generalize code.map byteEl = L at *
  conv => whnf
  refine inl_cur (Γ := lookT tbl) [3] ?_
  conv => whnf
  refine cur_i hB hi ?_
  rintro _ i h0 ⟨x, rfl, hx, hx2⟩ hi
  conv => whnf
  refine cur_leaf rfl rfl rfl hi ?_
  exact ⟨_, rfl⟩
/-- n words. -/
def words (l : List Int) : Prop := ∀ x ∈ l, 0 ≤ x ∧ x < 65536
theorem d_List (code : List Int) (hl : code.length ≤ 9223372036854775807) (n : Int) (hn : 0 ≤ n) (hn2 : n ≤ 1000) : CurC Try.prog 73 1 (code.map byteEl) [i64v n] (fun rs => ∃ l : List Int, rs = [intsV l] ∧ (l.length : Int) = n ∧ words l) := by
  refine curC_of (Γ := lookT tbl) (il := ilist) tg dr Try.func73 rfl (by kernel_rfl) rfl (Nat.le_of_ble_eq_true rfl) ?_
  intro i h hi
  have hB := d_Below code hl 65536 (by decide)
  have hI := fun l h => d_Int code hl l h
  generalize code.map byteEl = L at *
  conv => whnf
  refine loop_i (fun s : Nat × List Int × Int × Int => ⟨envL [(0, .c (.ptr 0 0)), (1, .c (.pv (.int .i64 n))), (5, .c (.row 3)), (6, .c (.pv (.int .i64 s.1)))], resL [(0, .box [.row 1, .pv (.int .i64 s.2.2.1), .pv (.int .i64 s.2.2.2)]), (1, .ro 1 L), (2, .env [(0, .c (.ptr 0 0)), (1, .c (.row 1))]), (3, .row true 1 (s.2.1.map intEl))], 4, 22⟩) (fun s => ((s.1 : Int) ≤ n ∧ s.2.1.length = s.1) ∧ words s.2.1 ∧ 0 ≤ s.2.2.1) (fun s => n.toNat - s.1) (0, [], i, h) ⟨⟨hn, rfl⟩, (fun x hx => by cases hx), hi⟩
    (le_mk [(3, 1088)] rfl ⟨⟨rfl, rfl⟩, ⟨rfl, rfl⟩, ⟨rfl, rfl⟩, ⟨rfl, rfl⟩, trivial⟩ ⟨⟨rfl, rfl⟩, ⟨rfl, rfl⟩, ⟨⟨rfl, rfl⟩, _, rfl, ⟨rfl, rfl⟩, ⟨rfl, rfl⟩, trivial⟩, ⟨rfl, rfl⟩, trivial⟩ rfl) ?_
  rintro ⟨k, l, i, h⟩ ⟨⟨hk, hl⟩, hw, hi⟩
  dsimp only at hk hl hw hi
  conv => whnf
  refine br_i (fun hb => ?_) (fun hb => ?_)
  · conv => whnf
    refine inl_cur (Γ := lookT tbl) [3] ?_
    conv => whnf
    refine cur_i hB hi ?_
    rintro _ i h ⟨x, rfl, hx, hx2⟩ hi
    conv => whnf
    refine inl_cur (Γ := lookT tbl) [25] ?_
    conv => whnf
    refine cur_i (hI [0, 1, 65535, 256, x] (Nat.succ_pos 4)) hi ?_
    rintro _ i h ⟨y, rfl, hy⟩ hi
    conv => whnf
    refine ⟨⟨rfl, flat_int [y]⟩, ?_⟩
    conv => whnf
    refine ⟨(l ++ [y]).map intEl, ⟨by rw [List.length_map]; show (l.length + 1) * 8 ≤ _; omega, by rw [List.map_append]; rfl⟩, ?_⟩
    conv => whnf
    have hb : (k : Int) < n := by simpa using hb
    refine ⟨(k + 1, l ++ [y], i, h), ⟨⟨⟨by show ((k + 1 : Nat) : Int) ≤ n; omega, by simp [hl]⟩, fun q hq => ?_, hi⟩, by show n.toNat - (k + 1) < n.toNat - k; omega⟩, le_mk [(3, _)] rfl ⟨⟨rfl, rfl⟩, ⟨rfl, rfl⟩, ⟨rfl, rfl⟩, ⟨ctr (by omega), rfl⟩, trivial⟩ ⟨⟨rfl, rfl⟩, ⟨rfl, rfl⟩, ⟨⟨rfl, rfl⟩, _, rfl, ⟨rfl, rfl⟩, ⟨rfl, rfl⟩, trivial⟩, ⟨rfl, rfl⟩, trivial⟩ rfl⟩
    rcases List.mem_append.1 hq with hq | hq
    · exact hw q hq
    · simp at hq hy; omega
  · conv => whnf
    refine cur_leaf rfl rfl rfl hi ?_
    exact ⟨l, rfl, by simp at hb; omega, hw⟩
theorem d_Bits (code : List Int) (hl : code.length ≤ 9223372036854775807) (n : Int) (hn : 0 ≤ n) (hn2 : n ≤ 1000) : CurC Try.prog 72 1 (code.map byteEl) [i64v n] (fun rs => ∃ l : List Bool, rs = [boolsV l] ∧ (l.length : Int) = n) := by
  refine curC_of (Γ := lookT tbl) (il := ilist) tg dr Try.func72 rfl (by kernel_rfl) rfl (Nat.le_of_ble_eq_true rfl) ?_
  intro i h hi
  have hB := d_Once code hl 2 (by decide)
  generalize code.map byteEl = L at *
  conv => whnf
  refine loop_i (fun s : Nat × List Bool × Int × Int => ⟨envL [(0, .c (.ptr 0 0)), (1, .c (.pv (.int .i64 n))), (5, .c (.row 3)), (6, .c (.pv (.int .i64 s.1)))], resL [(0, .box [.row 1, .pv (.int .i64 s.2.2.1), .pv (.int .i64 s.2.2.2)]), (1, .ro 1 L), (2, .env [(0, .c (.ptr 0 0)), (1, .c (.row 1))]), (3, .row true 1 (s.2.1.map boolEl))], 4, 19⟩) (fun s => ((s.1 : Int) ≤ n ∧ s.2.1.length = s.1) ∧ 0 ≤ s.2.2.1) (fun s => n.toNat - s.1) (0, [], i, h) ⟨⟨hn, rfl⟩, hi⟩
    (le_mk [(3, _)] rfl ⟨⟨rfl, rfl⟩, ⟨rfl, rfl⟩, ⟨rfl, rfl⟩, ⟨rfl, rfl⟩, trivial⟩ ⟨⟨rfl, rfl⟩, ⟨rfl, rfl⟩, ⟨⟨rfl, rfl⟩, _, rfl, ⟨rfl, rfl⟩, ⟨rfl, rfl⟩, trivial⟩, ⟨rfl, rfl⟩, trivial⟩ rfl) ?_
  rintro ⟨k, l, i, h⟩ ⟨⟨hk, hl⟩, hi⟩
  dsimp only at hk hl hi
  conv => whnf
  refine br_i (fun hb => ?_) (fun hb => ?_)
  · conv => whnf
    refine inl_cur (Γ := lookT tbl) [3] ?_
    conv => whnf
    refine cur_i hB hi ?_
    rintro _ i h ⟨x, rfl⟩ hi
    conv => whnf
    refine ⟨⟨rfl, flat_bool [x]⟩, ?_⟩
    conv => whnf
    refine ⟨(l ++ [x]).map boolEl, ⟨by rw [List.length_map]; show (l.length + 1) * 1 ≤ _; omega, by rw [List.map_append]; rfl⟩, ?_⟩
    conv => whnf
    have hb : (k : Int) < n := by simpa using hb
    exact ⟨(k + 1, l ++ [x], i, h), ⟨⟨⟨by show ((k + 1 : Nat) : Int) ≤ n; omega, by simp [hl]⟩, hi⟩, by show n.toNat - (k + 1) < n.toNat - k; omega⟩, le_mk [(3, _)] rfl ⟨⟨rfl, rfl⟩, ⟨rfl, rfl⟩, ⟨rfl, rfl⟩, ⟨ctr (by omega), rfl⟩, trivial⟩ ⟨⟨rfl, rfl⟩, ⟨rfl, rfl⟩, ⟨⟨rfl, rfl⟩, _, rfl, ⟨rfl, rfl⟩, ⟨rfl, rfl⟩, trivial⟩, ⟨rfl, rfl⟩, trivial⟩ rfl⟩
  · conv => whnf
    refine cur_leaf rfl rfl rfl hi ?_
    exact ⟨l, rfl, by simp at hb; omega⟩
theorem u8wd {x : Int} (h : 0 ≤ x) (h2 : x < 256) : IntKind.u8.wrap x = x := by
  show Int.emod x 256 = x
  exact Int.emod_eq_of_lt h h2
theorem newI {L : List (List PV)} {k : Nat} {code : List Int} (hb : (k : Int) < L.length) (hL : L = code.map byteEl := by rfl) : L[((k : Int)).toNat]? = some (byteEl (bAt code k)) := by
  subst hL
  rw [List.length_map] at hb
  exact (idx_b code k ⟨by omega, hb⟩).1.2
/-- A question that was drawn near to a place. -/
def goodR (near : Int) (r : XReq) : Prop := specReq r = true ∧ (near ≤ r.At ∧ r.At < near + 12) ∧ (0 ≤ r.N ∧ r.N ≤ 6) ∧ (r.Words.length ≤ 6 ∧ r.Bits.length ≤ 13) ∧ (0 ≤ r.WAt ∧ r.WAt < near + 12) ∧ words r.Words
theorem fits_ok {a n : Int} (h : 0 ≤ a) (h2 : 0 ≤ n) (h3 : a + n ≤ 65536) (h4 : a ≤ 65535) : fitsB a n = true := by
  unfold fitsB wrap64
  rw [wrap_ok (by omega) (by omega)]
  simp [inB]; omega
theorem words_all {l : List Int} (h : words l) : l.all word = true := by
  rw [List.all_eq_true]
  intro x hx
  have := h x hx
  simp [word, inB]; omega
theorem goodR_mk {near k a n w : Int} {W : List Int} {B : List Bool} (hn : 0 ≤ near) (hn2 : near ≤ 1000) (ha : near ≤ a ∧ a < near + 12) (hN : 0 ≤ n ∧ n ≤ 6) (hl : W.length ≤ 6 ∧ B.length ≤ 13) (hw : 0 ≤ w ∧ w < near + 12) (hW : words W)
    (hk : ((k = 1 ∨ k = 2 ∨ k = 3 ∨ k = 4) ∧ 1 ≤ n ∧ W.length = 0 ∧ B.length = 0 ∧ w = 0) ∨ (k = 5 ∧ n = 0 ∧ W.length = 0 ∧ B.length = 1 ∧ w = 0) ∨ (k = 6 ∧ n = 0 ∧ W.length = 1 ∧ B.length = 0 ∧ w = 0) ∨ (k = 15 ∧ n = 0 ∧ W.length = 0 ∧ 1 ≤ B.length ∧ w = 0) ∨
      (k = 16 ∧ n = 0 ∧ 1 ≤ W.length ∧ B.length = 0 ∧ w = 0) ∨ (k = 22 ∧ n = 0 ∧ W.length = 2 ∧ B.length = 0 ∧ w = 0) ∨ (k = 23 ∧ 1 ≤ n ∧ 1 ≤ W.length ∧ B.length = 0)) : goodR near ⟨k, a, n, W, B, w⟩ := by
  refine ⟨?_, ha, hN, hl, hw, hW⟩
  have h1 := words_all hW
  have h2 : inB a 0 65535 = true := by simp [inB]; omega
  have h3 : ∀ m : Int, 0 ≤ m → m ≤ 1000 → fitsB a m = true := fun m h h' => fits_ok (by omega) h (by omega) (by omega)
  have h4 : ∀ m : Int, 0 ≤ m → m ≤ 1000 → fitsB w m = true := fun m h h' => fits_ok (by omega) h (by omega) (by omega)
  unfold specReq
  dsimp only
  rw [if_neg (by rw [h1, h2]; decide)]
  rcases hk with ⟨hk, c1, c2, c3, c4⟩ | ⟨rfl, c1, c2, c3, c4⟩ | ⟨rfl, c1, c2, c3, c4⟩ | ⟨rfl, c1, c2, c3, c4⟩ | ⟨rfl, c1, c2, c3, c4⟩ | ⟨rfl, c1, c2, c3, c4⟩ | ⟨rfl, c1, c2, c3⟩
  · rcases hk with rfl | rfl | rfl | rfl <;> simp [zeroB, inB, c2, c3, c4, h3 n hN.1 (by omega)] <;> omega
  · simp [zeroB, inB, c1, c2, c3, c4]
  · simp [zeroB, inB, c1, c2, c3, c4]
  · simp [zeroB, inB, c1, c2, c4, h3 (B.length : Int) (by omega) (by omega)]; omega
  · simp [zeroB, inB, c1, c3, c4, h3 (W.length : Int) (by omega) (by omega)]; omega
  · simp [zeroB, inB, c1, c2, c3, c4]
  · simp [zeroB, inB, c3, h3 n hN.1 (by omega), h4 (W.length : Int) (by omega) (by omega)]; omega
theorem words_nil : words [] := fun x hx => by cases hx
theorem d_Req (code : List Int) (hl : code.length ≤ 9223372036854775807) (near : Int) (hn : 0 ≤ near) (hn2 : near ≤ 1000) : CurC Try.prog 44 1 (code.map byteEl) [i64v near] (fun rs => ∃ r : XReq, rs = [r.v] ∧ goodR near r) := by
  refine curC_of (Γ := lookT tbl) (il := ilist) tg dr Try.func44 rfl (by kernel_rfl) rfl (Nat.le_of_ble_eq_true rfl) ?_
  intro i h hi
  have hI := d_Int code hl
  have hB := d_Below code hl
  have hL := d_List code hl
  have hT := d_Bits code hl
  generalize code.map byteEl = L at *
  conv => whnf
  refine inl_cur (Γ := lookT tbl) [25] ?_
  conv => whnf
  refine cur_i (hI [1, 2, 3, 4, 5, 6, 15, 16, 22, 23, 3, 16] (Nat.succ_pos _)) hi ?_
  rintro _ i h ⟨k, rfl, hk⟩ hi
  conv => whnf
  refine inl_cur (Γ := lookT tbl) [3] ?_
  conv => whnf
  refine cur_i (hB 12 (by decide)) hi ?_
  rintro _ i h ⟨a, rfl, ha, ha2⟩ hi
  conv => whnf
  rw [wrap_ok (x := near + a) (by omega) (by omega)]
  refine inl_cur (Γ := lookT tbl) [3] ?_
  conv => whnf
  refine cur_i (hB 6 (by decide)) hi ?_
  rintro _ i h ⟨n, rfl, hn0, hn1⟩ hi
  conv => whnf
  rw [wrap_ok (x := 1 + n) (by omega) (by omega)]
  refine br_i (fun hb => ?_) (fun hb => ?_)
  · have hb : k = 5 := by simpa using hb
    conv => whnf
    refine inl_cur (Γ := lookT tbl) [3] ?_
    conv => whnf
    refine cur_i (hT 1 (by decide) (by decide)) hi ?_
    rintro _ i h ⟨l, rfl, hl1⟩ hi
    conv => whnf
    refine cur_leaf rfl rfl rfl hi ?_
    exact ⟨⟨k, near + a, 0, [], l, 0⟩, rfl, goodR_mk hn hn2 (by omega) (by omega) (by simp; omega) (by omega) words_nil (by simp; omega)⟩
  have hb : k ≠ 5 := by simpa using hb
  conv => whnf
  refine br_i (fun hc => ?_) (fun hc => ?_)
  · have hc : k = 6 := by simpa using hc
    conv => whnf
    refine inl_cur (Γ := lookT tbl) [3] ?_
    conv => whnf
    refine cur_i (hL 1 (by decide) (by decide)) hi ?_
    rintro _ i h ⟨l, rfl, hl1, hl2⟩ hi
    conv => whnf
    refine cur_leaf rfl rfl rfl hi ?_
    exact ⟨⟨k, near + a, 0, l, [], 0⟩, rfl, goodR_mk hn hn2 (by omega) (by omega) (by simp; omega) (by omega) hl2 (by simp; omega)⟩
  have hc : k ≠ 6 := by simpa using hc
  conv => whnf
  refine br_i (fun hd => ?_) (fun hd => ?_)
  · have hd : k = 22 := by simpa using hd
    conv => whnf
    refine inl_cur (Γ := lookT tbl) [3] ?_
    conv => whnf
    refine cur_i (hL 2 (by decide) (by decide)) hi ?_
    rintro _ i h ⟨l, rfl, hl1, hl2⟩ hi
    conv => whnf
    refine cur_leaf rfl rfl rfl hi ?_
    exact ⟨⟨k, near + a, 0, l, [], 0⟩, rfl, goodR_mk hn hn2 (by omega) (by omega) (by simp; omega) (by omega) hl2 (by simp; omega)⟩
  have hd : k ≠ 22 := by simpa using hd
  conv => whnf
  refine br_i (fun he => ?_) (fun he => ?_)
  · have he : k = 15 := by simpa using he
    conv => whnf
    refine inl_cur (Γ := lookT tbl) [3] ?_
    conv => whnf
    refine cur_i (hB 8 (by decide)) hi ?_
    rintro _ i h ⟨m, rfl, hm, hm2⟩ hi
    conv => whnf
    rw [wrap_ok (x := 1 + n + m) (by omega) (by omega)]
    refine inl_cur (Γ := lookT tbl) [3] ?_
    conv => whnf
    refine cur_i (hT (1 + n + m) (by omega) (by omega)) hi ?_
    rintro _ i h ⟨l, rfl, hl1⟩ hi
    conv => whnf
    refine cur_leaf rfl rfl rfl hi ?_
    exact ⟨⟨k, near + a, 0, [], l, 0⟩, rfl, goodR_mk hn hn2 (by omega) (by omega) (by simp; omega) (by omega) words_nil (by simp; omega)⟩
  have he : k ≠ 15 := by simpa using he
  conv => whnf
  refine br_i (fun hf => ?_) (fun hf => ?_)
  · have hf : k = 16 := by simpa using hf
    conv => whnf
    refine inl_cur (Γ := lookT tbl) [3] ?_
    conv => whnf
    refine cur_i (hL (1 + n) (by omega) (by omega)) hi ?_
    rintro _ i h ⟨l, rfl, hl1, hl2⟩ hi
    conv => whnf
    refine cur_leaf rfl rfl rfl hi ?_
    exact ⟨⟨k, near + a, 0, l, [], 0⟩, rfl, goodR_mk hn hn2 (by omega) (by omega) (by simp; omega) (by omega) hl2 (by simp; omega)⟩
  have hf : k ≠ 16 := by simpa using hf
  conv => whnf
  refine br_i (fun hg => ?_) (fun hg => ?_)
  · have hg : k = 23 := by simpa using hg
    conv => whnf
    refine inl_cur (Γ := lookT tbl) [3] ?_
    conv => whnf
    refine cur_i (hB 12 (by decide)) hi ?_
    rintro _ i h ⟨m, rfl, hm, hm2⟩ hi
    conv => whnf
    rw [wrap_ok (x := near + m) (by omega) (by omega)]
    refine inl_cur (Γ := lookT tbl) [3] ?_
    conv => whnf
    refine cur_i (hB 4 (by decide)) hi ?_
    rintro _ i h ⟨p, rfl, hp, hp2⟩ hi
    conv => whnf
    rw [wrap_ok (x := 1 + p) (by omega) (by omega)]
    refine inl_cur (Γ := lookT tbl) [3] ?_
    conv => whnf
    refine cur_i (hL (1 + p) (by omega) (by omega)) hi ?_
    rintro _ i h ⟨l, rfl, hl1, hl2⟩ hi
    conv => whnf
    refine cur_leaf rfl rfl rfl hi ?_
    exact ⟨⟨k, near + a, 1 + n, l, [], near + m⟩, rfl, goodR_mk hn hn2 (by omega) (by omega) (by simp; omega) (by omega) hl2 (by simp; omega)⟩
  have hg : k ≠ 23 := by simpa using hg
  conv => whnf
  refine cur_leaf rfl rfl rfl hi ?_
  simp at hk
  exact ⟨⟨k, near + a, 1 + n, [], [], 0⟩, rfl, goodR_mk hn hn2 (by omega) (by omega) (by simp) (by omega) words_nil (by simp; omega)⟩

end Go.Proofs.Ytciiiandmpjndaa
