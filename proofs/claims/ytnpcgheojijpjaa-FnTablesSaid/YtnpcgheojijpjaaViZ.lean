/- Marks: what a row's elements become, number by number; told without saying what is written. -/
import Derived.Test.YtnpcgheojijpjaaViY
import Derived.Test.YtnpcgheojijpjaaViHo
set_option linter.unusedVariables false
set_option linter.unusedSimpArgs false
namespace Go.Vi
open Go.RowKit
/-- fm writes c numbers into a slice; fh finds them there. -/
def MkS (P : Program) (fm fh : FuncId) (sz : Nat) (xs : List (List PV)) (c : Nat) : Prop :=
  ∀ n : Int, 0 ≤ n → n + c ≤ 4611686018427387904 → ∃ ys : List (List PV), MarkC P fm (.one (.sl sz xs)) n (.one (.sl sz ys)) (n + c) ∧ PureC P fh [.one (.sl sz ys), i64v n] [i64v (n + c)]
theorem chain {α : Type} (f : α → List PV) (cnt : α → Nat) (E : α → Int → List PV → Prop) (l : List α) (n : Int) (h0 : 0 ≤ n) (h1 : n + sumF cnt l ≤ 4611686018427387904)
    (hc : ∀ x, 1 ≤ cnt x) (hE : ∀ x ∈ l, ∀ n : Int, 0 ≤ n → n + cnt x ≤ 4611686018427387904 → ∃ el, E x n el) :
    ∃ (N : Nat → Int) (ys : List (List PV)) (R : Nat → List (List PV)), l.length ≤ 4611686018427387904 ∧ N 0 = n ∧ N l.length = n + sumF cnt l ∧ ys.length = l.length ∧ R 0 = l.map f ∧ R l.length = ys ∧ (∀ k, k ≤ l.length → (R k).length = l.length) ∧
      ∀ k (hk : k < l.length), N (k + 1) = N k + cnt l[k] ∧ 0 ≤ N k ∧ N k + cnt l[k] ≤ 4611686018427387904 ∧ ∃ el, E l[k] (N k) el ∧ ys[k]? = some el ∧ (R k)[k]? = some (f l[k]) ∧ (R k).set k el = R (k + 1) := by
  have hb : ∀ k (hk : k < l.length), 0 ≤ n + (sumF cnt (l.take k) : Nat) ∧ n + (sumF cnt (l.take k) : Nat) + cnt l[k] ≤ 4611686018427387904 := by
    intro k hk
    have := sumF_get cnt l k hk
    omega
  have hx : ∀ k (hk : k < l.length), ∃ el, E l[k] (n + (sumF cnt (l.take k) : Nat)) el := fun k hk => hE _ (List.getElem_mem hk) _ (hb k hk).1 (hb k hk).2
  let g : Nat → List PV := fun k => if hk : k < l.length then Classical.choose (hx k hk) else []
  have hg : ∀ k (hk : k < l.length), E l[k] (n + (sumF cnt (l.take k) : Nat)) (g k) := by
    intro k hk
    show E _ _ (dite _ _ _)
    rw [dif_pos hk]
    exact Classical.choose_spec (hx k hk)
  have hl : ((List.range l.length).map g).length = l.length := by simp
  have hlen : l.length ≤ 4611686018427387904 := by
    have : l.length ≤ sumF cnt l := by
      clear hb hx g hg hl h1 hE
      induction l with
      | nil => simp
      | cons a l ih => have := hc a; simp [sumF]; omega
    omega
  have hl2 : ((List.range l.length).map g).length = (l.map f).length := by simp
  refine ⟨fun k => n + (sumF cnt (l.take k) : Nat), (List.range l.length).map g, mixK ((List.range l.length).map g) (l.map f), hlen, by simp [sumF], by simp, hl, mixK_zero _ _, mixK_all hl2 (by simp), fun k _ => by rw [mixK_len hl2]; simp, fun k hk => ?_⟩
  have hgk : ((List.range l.length).map g)[k]? = some (g k) := by simp [hk]
  refine ⟨by show n + ((sumF cnt (l.take (k + 1)) : Nat) : Int) = n + ((sumF cnt (l.take k) : Nat) : Int) + (cnt l[k] : Int); rw [sumF_succ cnt l k hk]; push_cast; omega, (hb k hk).1, (hb k hk).2, g k, hg k hk, hgk, ?_, mixK_set hl2 (by simpa using hk) _ hgk⟩
  rw [mixK_get hl2 (by simpa using hk)]
  simp
theorem st0 {xs : List (List PV)} {k j : Nat} {el el' : List PV} {p : PV} (h : xs[k]? = some el) (he : el.set j p = el') : xs.set k el' = setAt xs k j p := by rw [setAt_get h, he]
theorem st1 {xs : List (List PV)} {k j : Nat} {el el' : List PV} {p : PV} (h : k < xs.length) (he : el.set j p = el') : xs.set k el' = setAt (xs.set k el) k j p := by rw [setAt_set h, he]
theorem at0 {xs : List (List PV)} {k j : Nat} {el : List PV} {p : PV} (h : xs[k]? = some el) (he : el[j]? = some p) : at2 xs k j = some p := by simp [at2, h, he]
theorem at1 {xs : List (List PV)} {k j : Nat} {el : List PV} {p : PV} (h : k < xs.length) (he : el[j]? = some p) : at2 (xs.set k el) k j = some p := by rw [at2_set h, he]
theorem ln1 {xs : List (List PV)} {k : Nat} {el : List PV} (h : k < xs.length) : k < (xs.set k el).length := by rw [List.length_set]; exact h
theorem i64s_eq {a b : Int} (h : a = b) : [AV.c (.pv (.int .i64 a))] = [AV.c (.pv (.int .i64 b))] := by rw [h]
theorem i64l_eq {a b : Int} (h : a = b) : [VV.one (.int .i64 a)] = [i64v b] := by rw [h]; rfl
abbrev w64 (n : Int) : Int := IntKind.i64.wrap n
theorem row_eq {own : Bool} {sz : Nat} {a b : List (List PV)} (h : a = b) : some (ARes.row own sz a) = some (ARes.row own sz b) := by rw [h]
/-! ### Rows of numbers: read, cut, appended -/
theorem wf_u8 {x : Int} (h : (Lit.int .u8 x).wf = true) : 0 ≤ x ∧ x < 256 := by
  have h1 : IntKind.u8.min = 0 := by decide
  have h2 : IntKind.u8.max = 255 := by decide
  simp [Lit.wf, h1, h2] at h
  omega
theorem wf_i64 {x : Int} (h : (Lit.int .i64 x).wf = true) : -9223372036854775808 ≤ x ∧ x ≤ 9223372036854775807 := by
  have h1 : IntKind.i64.min = -9223372036854775808 := by decide
  have h2 : IntKind.i64.max = 9223372036854775807 := by decide
  simp [Lit.wf, h1, h2] at h
  omega
theorem flat_byte (l : List Int) : Flat (l.map byteEl) := by
  intro el hel p hp
  obtain ⟨x, _, rfl⟩ := List.mem_map.1 hel
  simp [byteEl] at hp
  subst hp; rfl
theorem flat_int (l : List Int) : Flat (l.map intEl) := by
  intro el hel p hp
  obtain ⟨x, _, rfl⟩ := List.mem_map.1 hel
  simp [intEl] at hp
  subst hp; rfl
theorem flat_bool (l : List Bool) : Flat (l.map boolEl) := by
  intro el hel p hp
  obtain ⟨x, _, rfl⟩ := List.mem_map.1 hel
  simp [boolEl] at hp
  subst hp; rfl
def bAt (l : List Int) (i : Int) : Int := l.getD i.toNat 0
theorem idx_b (l : List Int) (i : Int) (h : 0 ≤ i ∧ i < l.length) : (0 ≤ i ∧ (l.map byteEl)[i.toNat]? = some (byteEl (bAt l i))) ∧ 1 = 1 := by
  refine ⟨⟨h.1, ?_⟩, rfl⟩
  have h2 : i.toNat < l.length := by omega
  rw [List.getElem?_map, List.getElem?_eq_getElem h2]
  simp [bAt, h2]
theorem idx_i (l : List Int) (i : Int) (h : 0 ≤ i ∧ i < l.length) : (0 ≤ i ∧ (l.map intEl)[i.toNat]? = some (intEl (bAt l i))) ∧ 1 = 1 := by
  refine ⟨⟨h.1, ?_⟩, rfl⟩
  have h2 : i.toNat < l.length := by omega
  rw [List.getElem?_map, List.getElem?_eq_getElem h2]
  simp [bAt, h2]
/-- A piece, from one place to another. -/
def cutL {α : Type} (l : List α) (i j : Int) : List α := (l.take j.toNat).drop i.toNat
theorem cut_b {α : Type} (f : α → List PV) (sz : Nat) (l : List α) (i j : Int) (h : 0 ≤ i ∧ i ≤ j ∧ j ≤ l.length) : (((0 ≤ i ∧ i ≤ j) ∧ j ≤ (l.map f).length) ∧ (cutL l i j).map f = ((l.map f).take j.toNat).drop i.toNat ∧ sz = sz) := by
  refine ⟨⟨⟨h.1, h.2.1⟩, by simpa using h.2.2⟩, ?_, rfl⟩
  simp [cutL, List.map_take, List.map_drop]
theorem cut_e {α : Type} (f : α → List PV) (sz : Nat) (l : List α) (k : Nat) (h : k ≤ l.length) : (((0 ≤ (k : Int) ∧ (k : Int) ≤ ((l.map f).length : Int)) ∧ ((l.map f).length : Int) ≤ (l.map f).length) ∧ (l.drop k).map f = ((l.map f).take ((l.map f).length : Int).toNat).drop (k : Int).toNat ∧ sz = sz) := by
  refine ⟨⟨⟨by omega, by rw [List.length_map]; omega⟩, Int.le_refl _⟩, ?_, rfl⟩
  show _ = ((l.map f).take (l.map f).length).drop k
  rw [List.take_length, List.map_drop]
theorem cut_i {α : Type} (f : α → List PV) (sz : Nat) (l : List α) (k : Int) (h : 0 ≤ k ∧ k ≤ l.length) : (((0 ≤ k ∧ k ≤ ((l.map f).length : Int)) ∧ ((l.map f).length : Int) ≤ (l.map f).length) ∧ (l.drop k.toNat).map f = ((l.map f).take ((l.map f).length : Int).toNat).drop k.toNat ∧ sz = sz) := by
  refine ⟨⟨⟨h.1, by rw [List.length_map]; exact h.2⟩, Int.le_refl _⟩, ?_, rfl⟩
  show _ = ((l.map f).take (l.map f).length).drop k.toNat
  rw [List.take_length, List.map_drop]
theorem cut_to {α : Type} (f : α → List PV) (sz : Nat) (l : List α) (j : Int) (k : Nat) (hj : j = k) (hk : k ≤ l.length) : (((0 ≤ (0 : Int) ∧ 0 ≤ j) ∧ j ≤ ((l.map f).length : Int)) ∧ (l.take k).map f = ((l.map f).take j.toNat).drop (0 : Int).toNat ∧ sz = sz) := by
  subst hj
  refine ⟨⟨⟨by omega, by omega⟩, by rw [List.length_map]; omega⟩, ?_, rfl⟩
  simp [List.map_take]
theorem cutL_len {α : Type} (l : List α) (i j : Int) (h : 0 ≤ i ∧ i ≤ j ∧ j ≤ l.length) : ((cutL l i j).length : Int) = j - i := by
  simp [cutL]
  omega
theorem cutL_all {α : Type} (l : List α) (i : Int) (h : 0 ≤ i) : cutL l i l.length = l.drop i.toNat := by simp [cutL]
theorem app_map {α : Type} (f : α → List PV) (l m : List α) : (l ++ m).map f = l.map f ++ m.map f := List.map_append
end Go.Vi
