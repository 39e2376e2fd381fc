/- What an argument's reading says of its cells, kind by kind: for slices of whatever element. No program in sight. -/
import Derived.Deep.Slices
import Derived.WideShapes
import Derived.Test.YtjjfjeoajhdlcaaWWords
namespace Go.Proofs.YtjjfjeoajhdlcaaW.Opens
open Go.ChangeShapes Go.WideShapes Go.Deep Go.Proofs.YtjjfjeoajhdlcaaW.PrintWords Go.RowKit
section
variable {H : Type} {enc : TypeId × Value → H} {P : Program} {w : World} {base : Nat} {spare : Nat → Bool} {held : Bool}

theorem read_int {t : TypeId} {k : IntKind} {fuel : Nat} {cs : List Value} {x : DataW H × List MemPlace} (ht : P.underlying t = some (.int k)) (h : DataW.trod enc P w base spare held fuel t cs = some x) :
    ∃ n : Int, (Kd.int k).K w n cs ∧ (Lit.int k n).wf = true := by
  obtain ⟨n, rfl, _, hw⟩ := DataW.trod_int ht h
  exact ⟨n, rfl, hw⟩
theorem read_bool {t : TypeId} {fuel : Nat} {cs : List Value} {x : DataW H × List MemPlace} (ht : P.underlying t = some .bool) (h : DataW.trod enc P w base spare held fuel t cs = some x) :
    ∃ b : Bool, Kd.bool.K w b cs ∧ True := by
  obtain ⟨b, rfl, _⟩ := DataW.trod_bool ht h
  exact ⟨b, rfl, trivial⟩
theorem read_string {t : TypeId} {fuel : Nat} {cs : List Value} {x : DataW H × List MemPlace} (ht : P.underlying t = some .string) (h : DataW.trod enc P w base spare held fuel t cs = some x) :
    ∃ s : ByteArray, Kd.string.K w s cs ∧ s.size ≤ maxLen := by
  obtain ⟨s, rfl, _, hs⟩ := DataW.trod_string ht h
  exact ⟨s, rfl, hs⟩
/-- A slice, out of its elements' readings. -/
theorem read_slice {α : Type} (z : α) {d : Kd α} {G : α → Prop} {t e : TypeId} {fuel : Nat} {cs : List Value} {x : DataW H × List MemPlace} (ht : P.underlying t = some (.slice e)) (hsz : P.cellsOf e = d.sz)
    (he : ∀ (n : Nat) (cs : List Value) (y : DataW H × List MemPlace), DataW.trod enc P w base spare held n e cs = some y → ∃ a, d.K w a cs ∧ G a)
    (h : DataW.trod enc P w base spare held fuel t cs = some x) :
    ∃ l : List α, (Kd.slice e d).K w l cs ∧ (l.length ≤ 9223372036854775807 ∧ ∀ a, a ∈ l → G a) := by
  rcases open_slice ht h with ⟨rfl, _⟩ | ⟨a, len, cap, m, n, D, Pl, rfl, hb, hl, hm, hmm, rfl, hx⟩
  · exact ⟨[], ⟨none, 0, rfl, Nat.le_refl _, rfl, by simp, fun h0 => absurd h0 (Nat.lt_irrefl 0)⟩, by simp, fun a ha => by cases ha⟩
  · haveI : Inhabited α := ⟨z⟩
    have hlm : len ≤ m := by rw [hmm]; split <;> omega
    have h1 : ∀ i, i < len → ∃ q : α, G q ∧ ∃ c, w.cells? base (a.add (i * P.cellsOf e)) (P.cellsOf e) = some c ∧ d.K w q c := fun i hi => by
      obtain ⟨c, hc, hr⟩ := hx i (by omega)
      obtain ⟨q, hq, hg⟩ := he _ _ _ hr
      exact ⟨q, hg, c, hc, hq⟩
    obtain ⟨f, hf⟩ := choose_lt h1
    have hlen : ((List.range len).map f).length = len := by simp
    have hmax : cap ≤ 9223372036854775807 := hm
    refine ⟨(List.range len).map f, ⟨some a, cap, by rw [hlen], by rw [hlen]; exact hl, rfl, by rw [hlen]; omega, fun _ => ⟨a, rfl, fun j p hj => ?_⟩⟩, ?_, fun q hq => ?_⟩
    · have hjl := (List.getElem?_eq_some_iff.1 hj).1
      rw [hlen] at hjl
      have hp : f j = p := by simpa [hjl] using hj
      subst hp
      obtain ⟨_, c, hc, hk⟩ := hf j hjl
      refine ⟨c, d.K_len hk, hk, fun i u hu => ?_⟩
      rw [hsz] at hc
      obtain ⟨_, hl2, hcell⟩ := World.cells?_some hc
      have hi : i < d.sz := by
        have := (List.getElem?_eq_some_iff.1 hu).1
        rw [d.K_len hk] at this
        exact this
      have := hcell i hi
      rw [Deep.add_add] at this
      rw [← hu]
      exact this
    · rw [hlen]
      omega
    · obtain ⟨j, hj, rfl⟩ := List.mem_map.1 hq
      exact (hf j (List.mem_range.1 hj)).1
/-- A struct's cells, field by field. -/
theorem field_ {α : Type} {d : Kd α} {a : α} {cs : List Value} {o s : Nat} (h : d.K w a ((cs.drop o).take s)) (hl : cs.length = o + s) : d.K w a (cs.drop o) := by
  rwa [List.take_of_length_le (by rw [List.length_drop]; omega)] at h
theorem pair_ {α β : Type} {d : Kd α} {d2 : Kd β} {a : α} {b : β} {cs : List Value} {o s : Nat} (h : d.K w a ((cs.drop o).take s)) (h2 : d2.K w b (cs.drop (o + s))) : (Kd.pair d d2).K w (a, b) (cs.drop o) :=
  ⟨_, _, by rw [← List.drop_drop]; exact (List.take_append_drop s (cs.drop o)).symm, h, h2⟩
end
end Go.Proofs.YtjjfjeoajhdlcaaW.Opens
