/- What can be read of an argument, as pure values. -/
import Derived.Test.YtnpcgheojijpjaaViU
import Derived.Deep.Slices
import Derived.WideShapes
set_option linter.unusedVariables false
set_option linter.unusedSimpArgs false
namespace Go.Vi
open Go.RowKit Go.ChangeShapes Go.WideShapes Go.Deep
/-- The memory that is there. -/
abbrev Here (w : World) : Nat → Prop := fun x => x < w.heap.size
section
variable {H : Type} {enc : TypeId × Value → H} {P : Program} {w : World} {base : Nat} {spare : Nat → Bool} {held : Bool}
theorem repPs_one {S : Nat → Prop} {p : PV} {v : Value} (h : Rep w S p v) : RepPs w S [p] [v] := by
  refine ⟨rfl, fun j q hq => ?_⟩
  cases j with
  | zero => simp at hq; subst hq; exact ⟨v, rfl, h⟩
  | succ j => simp at hq
theorem rd_int {t : TypeId} {k : IntKind} {fuel : Nat} {cs : List Value} {x : DataW H × List MemPlace} (ht : P.underlying t = some (.int k)) (h : DataW.trod enc P w base spare held fuel t cs = some x) :
    ∃ n : Int, RepPs w (Here w) [.int k n] cs ∧ (Lit.int k n).wf = true := by
  obtain ⟨n, rfl, _, hw⟩ := DataW.trod_int ht h
  exact ⟨n, repPs_one (.int k n), hw⟩
theorem rd_bool {t : TypeId} {fuel : Nat} {cs : List Value} {x : DataW H × List MemPlace} (ht : P.underlying t = some .bool) (h : DataW.trod enc P w base spare held fuel t cs = some x) :
    ∃ b : Bool, RepPs w (Here w) [.bool b] cs ∧ True := by
  obtain ⟨b, rfl, _⟩ := DataW.trod_bool ht h
  exact ⟨b, repPs_one (.bool b), trivial⟩
theorem rd_string {t : TypeId} {fuel : Nat} {cs : List Value} {x : DataW H × List MemPlace} (ht : P.underlying t = some .string) (h : DataW.trod enc P w base spare held fuel t cs = some x) :
    ∃ s : ByteArray, RepPs w (Here w) [.str s] cs ∧ s.size ≤ 9223372036854775807 := by
  obtain ⟨s, rfl, _, hs⟩ := DataW.trod_string ht h
  exact ⟨s, repPs_one (.str s), hs⟩
theorem choose_lt' {α : Type} {p : Nat → α → Prop} (z : α) {n : Nat} (h : ∀ i, i < n → ∃ a, p i a) : ∃ f : Nat → α, ∀ i, i < n → p i (f i) := by
  classical
  refine ⟨fun i => if hi : i < n then Classical.choose (h i hi) else z, fun i hi => ?_⟩
  show p i (if hi : i < n then Classical.choose (h i hi) else z)
  rw [dif_pos hi]
  exact Classical.choose_spec (h i hi)
theorem rd_slice {α : Type} (z : α) {f : α → List PV} {G : α → Prop} {t e : TypeId} {sz fuel : Nat} {cs : List Value} {x : DataW H × List MemPlace} (ht : P.underlying t = some (.slice e)) (hsz : P.cellsOf e = sz) (h0 : 0 < sz) (hf : ∀ a, (f a).length = sz)
    (he : ∀ (n : Nat) (cs : List Value) (y : DataW H × List MemPlace), DataW.trod enc P w base spare held n e cs = some y → ∃ a, RepPs w (Here w) (f a) cs ∧ G a)
    (h : DataW.trod enc P w base spare held fuel t cs = some x) :
    ∃ l : List α, RepPs w (Here w) [.sl sz (l.map f)] cs ∧ ∀ a, a ∈ l → G a := by
  rcases open_slice ht h with ⟨rfl, _⟩ | ⟨a, len, cap, m, n, D, Pl, rfl, hb, hl, hm, hmm, rfl, hx⟩
  · exact ⟨[], repPs_one (Own.rep (.nil (fun _ => False) sz) fun _ h => h.elim), by simp⟩
  · have hlm : len ≤ m := by rw [hmm]; split <;> omega
    have h1 : ∀ i, i < len → ∃ q : α × List Value, G q.1 ∧ w.cells? base (a.add (i * sz)) sz = some q.2 ∧ RepPs w (Here w) (f q.1) q.2 := fun i hi => by
      obtain ⟨c, hc, hr⟩ := hx i (by omega)
      obtain ⟨q, hq, hg⟩ := he _ _ _ hr
      rw [hsz] at hc
      exact ⟨(q, c), hg, hc, hq⟩
    obtain ⟨F, hF⟩ := choose_lt' (z, []) h1
    have hspot : 0 < len → ∃ b o, a = ⟨b, o, none⟩ ∧ b < w.heap.size := by
      intro hlen
      obtain ⟨_, hc, hr⟩ := hF 0 hlen
      obtain ⟨_, hl2, hcell⟩ := World.cells?_some hc
      have h2 := hcell 0 h0
      have h3 : (a.add (0 * sz)).add 0 = a := by simp [Addr.add]
      rw [h3, List.getElem?_eq_getElem (by omega)] at h2
      unfold World.cell? at h2
      obtain ⟨b, o, sp⟩ := a
      split at h2
      · rename_i c e' f' hh
        split at h2
        · cases h2
        · rename_i hs
          have : sp = none := by cases sp <;> simp at hs ⊢
          subst this
          exact ⟨b, o, rfl, blk_lt' hh⟩
      · cases h2
    refine ⟨(List.range len).map fun i => (F i).1, repPs_one ?_, fun q hq => ?_⟩
    · have hlen : (((List.range len).map fun i => (F i).1).map f).length = len := by simp
      have hat : ∀ i j p, at2 (((List.range len).map fun i => (F i).1).map f) i j = some p → i < len ∧ (f (F i).1)[j]? = some p := by
        intro i j p hp
        unfold at2 at hp
        cases hx : (((List.range len).map fun i => (F i).1).map f)[i]? with
        | none => rw [hx] at hp; cases hp
        | some el =>
          have hi : i < len := by have := (List.getElem?_eq_some_iff.1 hx).1; rwa [hlen] at this
          rw [hx] at hp
          simp [hi] at hx
          subst hx
          exact ⟨hi, by simpa using hp⟩
      have := Rep.sl (w := w) (S := Here w) sz (((List.range len).map fun i => (F i).1).map f) (some a) cap (fun i j => ((F i).2).getD j undef) (by rw [hlen]; exact hl) hm
        (fun el hel => by obtain ⟨q, _, rfl⟩ := List.mem_map.1 hel; exact hf q)
        (fun hne => by
          have hpos : 0 < len := by
            rcases Nat.eq_zero_or_pos len with h0 | h0
            · subst h0; exact absurd rfl hne
            · exact h0
          obtain ⟨b, o, rfl, hb'⟩ := hspot hpos
          refine ⟨b, o, rfl, hb', fun i j p hp => ?_⟩
          obtain ⟨hi, hp⟩ := hat i j p hp
          obtain ⟨_, hc, hr⟩ := hF i hi
          obtain ⟨_, hl2, hcell⟩ := World.cells?_some hc
          obtain ⟨u, hu, _⟩ := hr.2 j p hp
          have hj : j < sz := by rw [← hf (F i).1]; exact (List.getElem?_eq_some_iff.1 hp).1
          have h2 := hcell j hj
          rw [add_at, add_at, hu] at h2
          simp [h2, hu])
        (fun i j p hp => by
          obtain ⟨hi, hp⟩ := hat i j p hp
          obtain ⟨_, hc, hr⟩ := hF i hi
          obtain ⟨u, hu, h2⟩ := hr.2 j p hp
          simpa [hu] using h2)
      rw [hlen] at this
      exact this
    · obtain ⟨j, hj, rfl⟩ := List.mem_map.1 hq
      exact (hF j (List.mem_range.1 hj)).1
/-- A struct's cells, field by field. -/
theorem rd_last {S : Nat → Prop} {ps : List PV} {cs : List Value} {o s : Nat} (h : RepPs w S ps ((cs.drop o).take s)) (hl : cs.length = o + s) : RepPs w S ps (cs.drop o) := by
  rwa [List.take_of_length_le (by rw [List.length_drop]; omega)] at h
theorem repPs_append {S : Nat → Prop} {ps qs : List PV} {cs ds : List Value} (h : RepPs w S ps cs) (h2 : RepPs w S qs ds) : RepPs w S (ps ++ qs) (cs ++ ds) := by
  refine ⟨by simp [h.1, h2.1], fun j p hp => ?_⟩
  rw [List.getElem?_append] at hp ⊢
  rw [h.1]
  split at hp
  · rename_i hj; rw [if_pos hj]; exact h.2 j p hp
  · rename_i hj; rw [if_neg hj]; exact h2.2 _ p hp
theorem rd_more {S : Nat → Prop} {ps qs : List PV} {cs : List Value} {o s : Nat} (h : RepPs w S ps ((cs.drop o).take s)) (h2 : RepPs w S qs (cs.drop (o + s))) : RepPs w S (ps ++ qs) (cs.drop o) := by
  have := repPs_append h h2
  rwa [← List.drop_drop, List.take_append_drop] at this
theorem rep_one {S : Nat → Prop} {p : PV} {v : Value} (h : RepPs w S [p] v.cells.toList) (h1 : v.cells.toList = [v]) : RepVV w S (.one p) v := by
  rw [h1] at h
  obtain ⟨u, hu, hr⟩ := h.2 0 p rfl
  simp at hu
  subst hu
  exact hr
theorem rep_agg {S : Nat → Prop} {ps : List PV} {cs : Array Value} (h : RepPs w S ps cs.toList) : RepVV w S (.agg ps) (.agg cs) := ⟨cs.toList, rfl, h⟩
theorem repVs_nil {S : Nat → Prop} : RepVs w S [] [] := ⟨rfl, by simp⟩
theorem repVs_cons {S : Nat → Prop} {a : VV} {as : List VV} {v : Value} {vs : List Value} (h : RepVV w S a v) (h2 : RepVs w S as vs) : RepVs w S (a :: as) (v :: vs) := by
  refine ⟨by simp [h2.1], fun j b hb => ?_⟩
  cases j with
  | zero => simp at hb; subst hb; exact ⟨v, rfl, h⟩
  | succ j => simpa using h2.2 j b (by simpa using hb)
end
/-- A law's contract, in the form that a row wants. -/
theorem PureC.law {P : Program} {f : FuncId} {args : List VV} (h : PureC P f args [boolv true]) {w : World} {vals : Array Value} (hv : RepVs w (Here w) args vals.toList) (hq : Laid w := by exact laid_any _) :
    Calls P f vals w fun e w' => e = .returned (.bool true) ∧ Below w.heap.size w w' := by
  have := h.calls w vals.toList hq hv
  simp only [Array.toArray_toList] at this
  refine this.mono fun e w' hp => ?_
  obtain ⟨v, D, rfl, ⟨us, rfl, hl, Ds, _, _, hus⟩, _, hB⟩ := hp
  obtain ⟨u, hu, ho⟩ := hus 0 _ rfl
  refine ⟨?_, hB⟩
  cases us with
  | nil => simp at hl
  | cons a l => cases l with
    | nil =>
      simp at hu
      subst hu
      have ho : Own w' (Ds 0 0) (.bool true) a := ho
      cases ho
      rfl
    | cons b l => simp at hl
end Go.Vi
