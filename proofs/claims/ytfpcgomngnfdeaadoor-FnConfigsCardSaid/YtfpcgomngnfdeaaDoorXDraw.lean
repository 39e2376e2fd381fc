/- What is drawn: a cursor's functions, by the properties of what they give. -/
import Derived.Test.YtfpcgomngnfdeaaDoorXRules
namespace Go.Proofs.YtfpcgomngnfdeaaDoor
open Go Go.Vi
set_option linter.unusedVariables false
set_option linter.unusedSimpArgs false
set_option maxRecDepth 100000
theorem and255 (y : Int) : 0 ≤ IntKind.i64.wrap ((BitVec.ofInt IntKind.i64.bits y &&& BitVec.ofInt IntKind.i64.bits 255).toNat : Int) ∧ IntKind.i64.wrap ((BitVec.ofInt IntKind.i64.bits y &&& BitVec.ofInt IntKind.i64.bits 255).toNat : Int) < 256 := by
  have h : (BitVec.ofInt IntKind.i64.bits y &&& BitVec.ofInt IntKind.i64.bits 255).toNat ≤ 255 := by
    rw [BitVec.toNat_and]
    exact Nat.le_trans Nat.and_le_right (by decide)
  rw [wrap_ok (by omega) (by omega)]
  omega
theorem d_Byte (code : List Int) (hl : code.length ≤ 9223372036854775807) : CurC Tryd.prog 60 1 (code.map byteEl) [] (fun rs => ∃ x : Int, rs = [i64v x] ∧ 0 ≤ x ∧ x < 256) := by
  refine curC_of (Γ := lookT tbl) (il := ilist) tg dr Tryd.func60 rfl (by kernel_rfl) rfl (Nat.le_of_ble_eq_true rfl) ?_
  intro i h0 hi
  generalize hL : code.map byteEl = L
  have hLl : L.length ≤ 9223372036854775807 := by rw [← hL, List.length_map]; exact hl
  have key : ∃ b : Int, i < L.length → ((i = (i.toNat : Int) ∧ i.toNat < L.length) ∧ 1 = 1) ∧ L[i.toNat]? = some [PV.int .u8 b] := by
    by_cases h : i < L.length
    · have hlt : i.toNat < code.length := by rw [← hL, List.length_map] at h; omega
      refine ⟨code[i.toNat], fun _ => ⟨⟨⟨by omega, by omega⟩, rfl⟩, ?_⟩⟩
      rw [← hL, List.getElem?_map, List.getElem?_eq_getElem hlt]
      rfl
    · exact ⟨0, fun h2 => absurd h2 h⟩
  obtain ⟨b, key⟩ := key
  have hw : decide (i < (L.length : Int)) = true → 0 ≤ IntKind.i64.wrap (i + 1) := fun h => by
    have h : i < (L.length : Int) := by simpa using h
    rw [wrap_ok (by omega) (by omega)]; omega
  (repeat' ((conv => whnf); first | refine br_i (fun _ => ?_) (fun _ => ?_) | (refine cur_leaf rfl rfl rfl ?_ ?_; · first | assumption | omega | exact hw ‹_›) | refine leaf_i rfl rfl ?_ | refine And.intro rfl ?_ | (refine ⟨i.toNat, (key (by simpa using ‹decide (i < (L.length : Int)) = true›)).1, ?_⟩) | (refine ⟨_, ⟨rfl, (key (by simpa using ‹decide (i < (L.length : Int)) = true›)).2⟩, ?_⟩) | (refine And.intro ?_ ?_; · decide)))
  all_goals exact ⟨_, rfl, and255 _⟩
theorem rem_b {x n : Int} (hx : 0 ≤ x) (hn : 0 < n) : 0 ≤ x.tmod n ∧ x.tmod n < n := ⟨Int.tmod_nonneg _ hx, Int.tmod_lt_of_pos _ hn⟩
/-- Below n. -/
theorem d_Below (code : List Int) (hl : code.length ≤ 9223372036854775807) (n : Int) (hn : 0 < n) : CurC Tryd.prog 45 1 (code.map byteEl) [i64v n] (fun rs => ∃ x : Int, rs = [i64v x] ∧ 0 ≤ x ∧ x < n) := by
  refine curC_of (Γ := lookT tbl) (il := ilist) tg dr Tryd.func45 rfl (by kernel_rfl) rfl (Nat.le_of_ble_eq_true rfl) ?_
  intro i h0 hi
  have hB := d_Byte code hl
  generalize code.map byteEl = L at *
  conv => whnf
  refine br_i (fun h => absurd h (by simp; omega)) (fun h => ?_)
  conv => whnf
  refine br_i (fun h => ?_) (fun h => ?_)
  · conv => whnf
    refine inl_cur (Γ := lookT tbl) [] ?_
    conv => whnf
    refine cur_i hB hi ?_
    rintro _ i h0 ⟨x, rfl, hx, hx2⟩ hi
    conv => whnf
    refine ⟨by omega, ?_⟩
    conv => whnf
    refine cur_leaf rfl rfl rfl hi ?_
    exact ⟨_, rfl, rem_b hx hn⟩
  · conv => whnf
    refine inl_cur (Γ := lookT tbl) [] ?_
    conv => whnf
    refine cur_i hB hi ?_
    rintro _ i h0 ⟨x, rfl, hx, hx2⟩ hi
    conv => whnf
    refine inl_cur (Γ := lookT tbl) [] ?_
    conv => whnf
    refine cur_i hB hi ?_
    rintro _ i h0 ⟨y, rfl, hy, hy2⟩ hi
    conv => whnf
    refine inl_cur (Γ := lookT tbl) [] ?_
    conv => whnf
    refine cur_i hB hi ?_
    rintro _ i h0 ⟨z, rfl, hz, hz2⟩ hi
    conv => whnf
    refine ⟨by omega, ?_⟩
    conv => whnf
    refine cur_leaf rfl rfl rfl hi ?_
    rw [wrap_ok (x := x * 65536) (by omega) (by omega), wrap_ok (x := y * 256) (by omega) (by omega), wrap_ok (x := x * 65536 + y * 256) (by omega) (by omega), wrap_ok (x := x * 65536 + y * 256 + z) (by omega) (by omega)]
    exact ⟨_, rfl, rem_b (by omega) hn⟩
/-- One of a list. -/
theorem d_Int (code : List Int) (hl : code.length ≤ 9223372036854775807) (l : List Int) (h0 : 0 < l.length) : CurC Tryd.prog 46 1 (code.map byteEl) [intsV l] (fun rs => ∃ x : Int, rs = [i64v x] ∧ x ∈ l) := by
  refine curC_of (Γ := lookT tbl) (il := ilist) tg dr Tryd.func46 rfl (by kernel_rfl) rfl (Nat.le_of_ble_eq_true rfl) ?_
  intro i h hi
  have hB := d_Below code hl l.length (by omega)
  generalize code.map byteEl = L at *
  conv => whnf
  refine inl_cur (Γ := lookT tbl) [3] ?_
  conv => whnf
  rw [List.length_map]
  refine cur_i hB hi ?_
  rintro _ i h0 ⟨x, rfl, hx, hx2⟩ hi
  conv => whnf
  refine ⟨_, idx_i l x ⟨hx, hx2⟩, ?_⟩
  conv => whnf
  refine cur_leaf rfl rfl rfl hi ?_
  refine ⟨_, rfl, ?_⟩
  have h2 : x.toNat < l.length := by omega
  rw [show bAt l x = l[x.toNat] by simp [bAt, h2]]
  exact List.getElem_mem h2
theorem d_Once (code : List Int) (hl : code.length ≤ 9223372036854775807) (n : Int) (hn : 0 < n) : CurC Tryd.prog 58 1 (code.map byteEl) [i64v n] (fun rs => ∃ x : Bool, rs = [boolv x]) := by
  refine curC_of (Γ := lookT tbl) (il := ilist) tg dr Tryd.func58 rfl (by kernel_rfl) rfl (Nat.le_of_ble_eq_true rfl) ?_
  intro i h hi
  have hB := d_Below code hl n hn
  generalize code.map byteEl = L at *
  conv => whnf
  refine inl_cur (Γ := lookT tbl) [3] ?_
  conv => whnf
  refine cur_i hB hi ?_
  rintro _ i h0 ⟨x, rfl, hx, hx2⟩ hi
  conv => whnf
  refine cur_leaf rfl rfl rfl hi ?_
  exact ⟨_, rfl⟩
/-- n words. -/
def words (l : List Int) : Prop := ∀ x ∈ l, 0 ≤ x ∧ x < 65536
theorem u8wd {x : Int} (h : 0 ≤ x) (h2 : x < 256) : IntKind.u8.wrap x = x := by
  show Int.emod x 256 = x
  exact Int.emod_eq_of_lt h h2
theorem newI {L : List (List PV)} {k : Nat} {code : List Int} (hb : (k : Int) < L.length) (hL : L = code.map byteEl := by rfl) : L[((k : Int)).toNat]? = some (byteEl (bAt code k)) := by
  subst hL
  rw [List.length_map] at hb
  exact (idx_b code k ⟨by omega, hb⟩).1.2
theorem fits_ok {a n : Int} (h : 0 ≤ a) (h2 : 0 ≤ n) (h3 : a + n ≤ 65536) (h4 : a ≤ 65535) : fitsB a n = true := by
  unfold fitsB wrap64
  rw [wrap_ok (by omega) (by omega)]
  simp [inB]; omega
theorem words_all {l : List Int} (h : words l) : l.all word = true := by
  rw [List.all_eq_true]
  intro x hx
  have := h x hx
  simp [word, inB]; omega
theorem words_nil : words [] := fun x hx => by cases hx
end Go.Proofs.YtfpcgomngnfdeaaDoor
