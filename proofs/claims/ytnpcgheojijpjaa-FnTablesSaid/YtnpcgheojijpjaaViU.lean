/- Tools for a seat's texts: lengths, encoders, steps. -/
import Derived.Test.YtnpcgheojijpjaaViR
set_option linter.unusedVariables false
set_option linter.unusedSimpArgs false
namespace Go.Vi
open Go.RowKit
/-- Lengths that memory can have. -/
inductive PV.Fits : PV → Prop
  | int (k n) : PV.Fits (.int k n)
  | bool (b) : PV.Fits (.bool b)
  | str (s) : PV.Fits (.str s)
  | fn (f) : PV.Fits (.fn f)
  | err (b) : PV.Fits (.err b)
  | any (v) : PV.Fits (.any v)
  | sl (sz xs) : xs.length ≤ 9223372036854775807 → (∀ i j p, at2 xs i j = some p → PV.Fits p) → PV.Fits (.sl sz xs)
theorem Rep.fits {w : World} {S : Nat → Prop} {p : PV} {v : Value} (h : Rep w S p v) : p.Fits := by
  induction h with
  | int k n => exact .int _ _
  | bool b => exact .bool _
  | str s => exact .str _
  | fn f => exact .fn _
  | err0 => exact .err _
  | err1 t x => exact .err _
  | any v h => exact .any _
  | sl sz xs A c us hc hm hz ha hr ih => exact .sl _ _ (by omega) ih
def VV.Fits : VV → Prop
  | .one p => p.Fits
  | .agg ps => ∀ p ∈ ps, p.Fits
  | .ptr ps => ∀ p ∈ ps, p.Fits
  | .clo _ caps => ∀ c ∈ caps, ∀ p ∈ c, p.Fits
theorem RepVV.fits {w : World} {S : Nat → Prop} {a : VV} {v : Value} (h : RepVV w S a v) : a.Fits := by
  cases a with
  | one p => exact Rep.fits h
  | agg ps =>
    obtain ⟨vs, _, hl, hr⟩ := h
    intro p hp
    obtain ⟨j, hj⟩ := List.getElem?_of_mem hp
    obtain ⟨u, _, h2⟩ := hr j p hj
    exact Rep.fits h2
  | ptr ps =>
    obtain ⟨b, o, _, _, hr⟩ := h
    intro p hp
    obtain ⟨j, hj⟩ := List.getElem?_of_mem hp
    obtain ⟨u, _, h2⟩ := hr j p hj
    exact Rep.fits h2
  | clo f caps =>
    obtain ⟨vs, _, hl, hr⟩ := h
    intro c hc p hp
    obtain ⟨i, hi⟩ := List.getElem?_of_mem hc
    obtain ⟨u, _, b, o, _, _, hr⟩ := hr i c hi
    obtain ⟨j, hj⟩ := List.getElem?_of_mem hp
    obtain ⟨u, _, h2⟩ := hr j p hj
    exact Rep.fits h2
theorem pureC_fit {P : Program} {f : FuncId} {args rs : List VV} (he : Enters P f) (h : (∀ a ∈ args, a.Fits) → PureC P f args rs) : PureC P f args rs :=
  ⟨he, fun w vals hq hr => (h fun a ha => by
    obtain ⟨j, hj⟩ := List.getElem?_of_mem ha
    obtain ⟨u, _, h2⟩ := hr.2 j a hj
    exact h2.fits).calls w vals hq hr⟩
end Go.Vi
namespace Go.Vi
def i64v (n : Int) : VV := .one (.int .i64 n)
def boolv (b : Bool) : VV := .one (.bool b)
def byteEl (b : Int) : List PV := [.int .u8 b]
def intEl (n : Int) : List PV := [.int .i64 n]
def boolEl (b : Bool) : List PV := [.bool b]
def bytesP (l : List Int) : PV := .sl 1 (l.map byteEl)
def intsP (l : List Int) : PV := .sl 1 (l.map intEl)
def boolsP (l : List Bool) : PV := .sl 1 (l.map boolEl)
def bytesV (l : List Int) : VV := .one (bytesP l)
def intsV (l : List Int) : VV := .one (intsP l)
def boolsV (l : List Bool) : VV := .one (boolsP l)
/-- What is left of a measure. -/
def sub (n : Int) (k : Nat) : Int := if n < k then -1 else n - k
def sumF {α : Type} (f : α → Nat) : List α → Nat
  | [] => 0
  | a :: l => f a + sumF f l
section
variable {α : Type}
theorem sumF_append (f : α → Nat) (l m : List α) : sumF f (l ++ m) = sumF f l + sumF f m := by
  induction l with
  | nil => simp [sumF]
  | cons a l ih => simp [sumF, ih]; omega
theorem sumF_succ (f : α → Nat) (l : List α) (k : Nat) (h : k < l.length) : sumF f (l.take (k + 1)) = sumF f (l.take k) + f l[k] := by
  rw [List.take_succ_eq_append_getElem h, sumF_append]
  simp [sumF]
theorem sumF_take (f : α → Nat) (l : List α) (k : Nat) : sumF f (l.take k) ≤ sumF f l := by
  have := sumF_append f (l.take k) (l.drop k)
  rw [List.take_append_drop] at this
  omega
theorem sumF_get (f : α → Nat) (l : List α) (k : Nat) (h : k < l.length) : sumF f (l.take k) + f l[k] ≤ sumF f l := by
  have := sumF_take f l (k + 1)
  rw [sumF_succ f l k h] at this
  exact this
theorem sumF_all (f : α → Nat) (l : List α) (k : Nat) (h : l.length ≤ k) : sumF f (l.take k) = sumF f l := by rw [List.take_of_length_le h]
theorem fill_el (z : α) (l : List α) (k : Nat) (f : α → List PV) (sz : Nat) (hf : ∀ x, (f x).length = sz) (h : k < l.length) : (fillK z l (k + 1)).map f = setEl ((fillK z l k).map f) k 0 (f l[k]) := by
  rw [setEl_all, ← fillK_set z l k h, List.map_set]
  intro el hel
  obtain ⟨x, _, rfl⟩ := List.mem_map.1 hel
  rw [hf, hf]
theorem fits_len {sz : Nat} {l : List α} {f : α → List PV} (h : (VV.one (.sl sz (l.map f))).Fits) : l.length ≤ 9223372036854775807 := by
  cases h with
  | sl _ _ h _ => simpa using h
theorem fits_agg {ps : List PV} {sz : Nat} {l : List α} {f : α → List PV} (h : (VV.agg ps).Fits) (hm : .sl sz (l.map f) ∈ ps) : l.length ≤ 9223372036854775807 := by
  have := h _ hm
  cases this with
  | sl _ _ h _ => simpa using h
/-- Lists that agree so far. -/
theorem take_eq_succ [DecidableEq α] {l m : List α} {k : Nat} (h : l.take k = m.take k) (h1 : k < l.length) (h2 : k < m.length) (he : l[k] = m[k]) : l.take (k + 1) = m.take (k + 1) := by
  rw [List.take_succ_eq_append_getElem h1, List.take_succ_eq_append_getElem h2, h, he]
theorem take_eq_all {l m : List α} {k : Nat} (h : l.take k = m.take k) (h1 : l.length ≤ k) (h2 : m.length = l.length) : l = m := by
  rw [List.take_of_length_le h1, List.take_of_length_le (by omega)] at h
  exact h
theorem ne_of_get {l m : List α} {k : Nat} (h1 : k < l.length) (h2 : k < m.length) (he : l[k] ≠ m[k]) : l ≠ m := by
  rintro rfl
  exact he rfl
end
/-- The first k are the new ones. -/
def mixK {α : Type} (a l : List α) (k : Nat) : List α := a.take k ++ l.drop k
section
variable {α : Type}
theorem mixK_len {a l : List α} {k : Nat} (h : a.length = l.length) : (mixK a l k).length = l.length := by simp [mixK]; omega
theorem mixK_zero (a l : List α) : mixK a l 0 = l := by simp [mixK]
theorem mixK_all {a l : List α} {k : Nat} (h : a.length = l.length) (hk : l.length ≤ k) : mixK a l k = a := by
  unfold mixK
  rw [List.take_of_length_le (by omega), List.drop_eq_nil_of_le hk, List.append_nil]
theorem mixK_set {a l : List α} {k : Nat} (h : a.length = l.length) (hk : k < l.length) (x : α) (hx : a[k]? = some x) : (mixK a l k).set k x = mixK a l (k + 1) := by
  have hka : k < a.length := by omega
  have hx' : a[k] = x := by rw [List.getElem?_eq_getElem hka] at hx; exact Option.some.inj hx
  unfold mixK
  have h1 : (a.take k).length = k := by rw [List.length_take]; omega
  rw [List.set_append_right _ _ (by omega), h1, Nat.sub_self, List.drop_eq_getElem_cons hk, List.set_cons_zero, List.take_succ_eq_append_getElem hka, List.append_assoc, hx']
  rfl
theorem mixK_get {a l : List α} {k : Nat} (h : a.length = l.length) (hk : k < l.length) : (mixK a l k)[k]? = some l[k] := by
  unfold mixK
  have h1 : (a.take k).length = k := by rw [List.length_take]; omega
  rw [List.getElem?_append_right (by omega), h1, Nat.sub_self, List.getElem?_drop, Nat.add_zero, List.getElem?_eq_getElem hk]
end
theorem setAt_get {xs : List (List PV)} {k j : Nat} {el : List PV} {p : PV} (h : xs[k]? = some el) : setAt xs k j p = xs.set k (el.set j p) := by
  apply List.ext_getElem?
  intro i
  unfold setAt
  rw [List.getElem?_modify, List.getElem?_set]
  have hk := (List.getElem?_eq_some_iff.1 h).1
  have he : xs[k] = el := by
    have h2 := h
    rw [List.getElem?_eq_getElem hk] at h2
    exact Option.some.inj h2
  by_cases e : k = i
  · subst e; simp [hk, he]
  · simp [e]
theorem setAt_set {xs : List (List PV)} {k j : Nat} {el : List PV} {p : PV} (h : k < xs.length) : setAt (xs.set k el) k j p = xs.set k (el.set j p) := by
  rw [setAt_get (el := el) (by simp [h]), List.set_set]
theorem at2_set {xs : List (List PV)} {k j : Nat} {el : List PV} (h : k < xs.length) : at2 (xs.set k el) k j = el[j]? := by simp [at2, h]
theorem map_get {α : Type} {f : α → List PV} {a l : List α} {k : Nat} (h : a.length = l.length) (hk : k < l.length) : ((mixK a l k).map f)[k]? = some (f l[k]) := by rw [List.getElem?_map, mixK_get h hk]; rfl
theorem map_set {α : Type} {f : α → List PV} {a l : List α} {k : Nat} (h : a.length = l.length) (hk : k < l.length) {x : α} (hx : a[k]? = some x) {el : List PV} (he : f x = el) : ((mixK a l k).map f).set k el = (mixK a l (k + 1)).map f := by
  rw [← he, ← mixK_set h hk x hx, List.map_set]
/-- The marks that a row of numbers is given. -/
def markBytes (n : Int) (len : Nat) : List Int := (List.range len).map fun i => IntKind.u8.wrap (n + (i : Nat))
def markInts (n : Int) (len : Nat) : List Int := (List.range len).map fun i => n + (i : Nat)
def markBools (n : Int) (len : Nat) : List Bool := (List.range len).map fun i => decide ((n + (i : Nat)).tmod 3 = 0)
theorem markBytes_len (n : Int) (len : Nat) : (markBytes n len).length = len := by simp [markBytes]
theorem markInts_len (n : Int) (len : Nat) : (markInts n len).length = len := by simp [markInts]
theorem markBools_len (n : Int) (len : Nat) : (markBools n len).length = len := by simp [markBools]
theorem sub_nn {n : Int} {k : Nat} (h : 0 ≤ sub n k) : sub n k = n - k ∧ (k : Int) ≤ n := by
  unfold sub at *
  split at h <;> simp at * <;> omega
theorem sub_neg {n : Int} {k : Nat} (h : sub n k < 0) (h0 : 0 ≤ n) : n < k := by
  unfold sub at *
  split at h <;> omega
theorem sub_lt {n : Int} {k : Nat} (h : n < k) : sub n k = -1 := by simp [sub, h]
theorem sub_ge {n : Int} {k : Nat} (h : (k : Int) ≤ n) : sub n k = n - k := by
  unfold sub
  rw [if_neg (by omega)]
theorem i64_eq {a b : Int} (h : a = b) : AV.c (.pv (.int .i64 a)) = .c (.pv (.int .i64 b)) := by rw [h]
theorem wrap_def (a : Int) : IntKind.i64.wrap a = (a + 9223372036854775808) % 18446744073709551616 - 9223372036854775808 := by
  simp only [IntKind.wrap, IntKind.signed, IntKind.bits]
  simp
  omega
theorem dlt {a b : Int} (h : decide (a < b) = true) : a < b := by simpa using h
theorem dge {a b : Int} (h : decide (a < b) = false) : b ≤ a := by simpa using h
theorem all_succ {α : Type} {p : α → Bool} {l : List α} {k : Nat} (h : (l.take k).all p = true) (hk : k < l.length) (hp : p l[k] = true) : (l.take (k + 1)).all p = true := by
  rw [List.take_succ_eq_append_getElem hk, List.all_append, h]
  simp [hp]
theorem all_end {α : Type} {p : α → Bool} {l : List α} {k : Nat} (h : (l.take k).all p = true) (hk : l.length ≤ k) : l.all p = true := by rwa [List.take_of_length_le hk] at h
theorem all_bad {α : Type} {p : α → Bool} {l : List α} {k : Nat} (hk : k < l.length) (hp : p l[k] = false) : l.all p = false := by
  rw [List.all_eq_false]
  exact ⟨l[k], List.getElem_mem hk, by simp [hp]⟩
/-- The place of the first that is not so. -/
def firstBad {α : Type} (p : α → Bool) (l : List α) : Int := if l.all p = true then -1 else ((l.findIdx fun x => !p x : Nat) : Int)
theorem firstBad_at {α : Type} {p : α → Bool} {l : List α} {k : Nat} (h : (l.take k).all p = true) (hk : k < l.length) (hp : p l[k] = false) : firstBad p l = k := by
  unfold firstBad
  rw [all_bad hk hp]
  have : l.findIdx (fun x => !p x) = k := by
    rw [List.findIdx_eq hk]
    refine ⟨by simp [hp], fun j hj => ?_⟩
    rw [List.all_eq_true] at h
    have := h l[j] (by rw [List.mem_take_iff_getElem]; exact ⟨j, by omega, rfl⟩)
    simp [this]
  simp [this]
theorem firstBad_none {α : Type} {p : α → Bool} {l : List α} (h : l.all p = true) : firstBad p l = -1 := by simp [firstBad, h]
theorem firstBad_ge {α : Type} (p : α → Bool) (l : List α) : decide (firstBad p l ≥ 0) = !l.all p := by
  unfold firstBad
  cases h : l.all p <;> simp
theorem bool_leaf {a b : Bool} (h : a = true ↔ b = true) : [VV.one (.bool a)] = [boolv b] := by
  have : a = b := by cases a <;> cases b <;> simp_all
  rw [this]
  rfl
end Go.Vi
