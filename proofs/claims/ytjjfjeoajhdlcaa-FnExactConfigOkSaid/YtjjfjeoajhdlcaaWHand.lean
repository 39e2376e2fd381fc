/- Small lemmas that the printed walks of this session use. No program in sight. -/
import Derived.Lib.SliceRun
import Derived.Test.YtjjfjeoajhdlcaaWWords
namespace Go.Proofs.YtjjfjeoajhdlcaaW.Hand
open Go.Proofs.YtjjfjeoajhdlcaaW.PrintWords Go.RowKit

theorem len_same {α : Type} (l : List α) (x : Bool) (h : (x == decide ((l.length : Int) > 0)) = true) : (l = []) = (x = false) := by
  cases l <;> cases x <;> simp_all
theorem len_other {α : Type} (l : List α) (x : Bool) (h : ¬ (x == decide ((l.length : Int) > 0)) = true) : (l = []) = (x = true) := by
  cases l <;> cases x <;> simp_all
theorem nblk (w : World) (o : Obj) : (w.alloc o).heap.size = w.heap.size + 1 := by simp
theorem blk_newk {w : World} {o : Obj} {k : Nat} (h : k = w.heap.size) : (w.alloc o).heap[k]? = some o := h ▸ blk_new w o
/-- The first place where a test holds; -1 where there is none. -/
def idxOf {α : Type} (p : α → Bool) (l : List α) : Int := match l.findIdx? p with | some i => (i : Int) | none => -1
theorem idxOf_at {α : Type} {p : α → Bool} {l : List α} (k : Nat) (hk : k < l.length) (h : ∀ j (hj : j < k), p (l[j]'(by omega)) = false) (hp : p l[k] = true) : idxOf p l = k := by
  unfold idxOf
  rw [List.findIdx?_eq_some_iff_getElem.2 ⟨hk, hp, fun j hj => by simpa using h j hj⟩]
theorem idxOf_none {α : Type} {p : α → Bool} {l : List α} (h : ∀ j (hj : j < l.length), p l[j] = false) : idxOf p l = -1 := by
  unfold idxOf
  rw [List.findIdx?_eq_none_iff.2 (fun x hx => by
    obtain ⟨j, hj, rfl⟩ := List.getElem_of_mem hx
    exact h j hj)]
theorem idxOf_any {α : Type} (p : α → Bool) (l : List α) : decide (0 ≤ idxOf p l) = l.any p := by
  unfold idxOf
  cases h : l.findIdx? p with
  | none =>
    have := List.findIdx?_eq_none_iff.1 h
    simp
    exact this
  | some i =>
    obtain ⟨hi, hp, _⟩ := List.findIdx?_eq_some_iff_getElem.1 h
    have : l.any p = true := List.any_eq_true.2 ⟨l[i], List.getElem_mem _, hp⟩
    simp [this]
end Go.Proofs.YtjjfjeoajhdlcaaW.Hand
