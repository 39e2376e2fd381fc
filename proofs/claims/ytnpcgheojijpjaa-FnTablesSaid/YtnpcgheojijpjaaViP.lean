/- A region that draws its order: the order of the text serves, where what is unordered is independent. -/
import Derived.Test.YtnpcgheojijpjaaViO
import Derived.Orders
set_option linter.unusedVariables false
set_option linter.unusedSimpArgs false
namespace Go.Vi
open Go.RowKit
section
variable {α : Type}
def putL (f : Nat → α) : List (Nat × α) → Nat → α
  | [] => f
  | (t, v) :: l => putL (upd f t v) l
def foldU : List (List (Nat × α)) → Nat → (Nat → Bool) → (Nat → α) → Nat → α
  | [], _, _, f => f
  | u :: us, i, L, f => foldU us (i + 1) L (if L i = true then putL f u else f)
def keys (u : List (Nat × α)) : List Nat := u.map Prod.fst
theorem putL_off {u : List (Nat × α)} {f : Nat → α} {t : Nat} (h : t ∉ keys u) : putL f u t = f t := by
  induction u generalizing f with
  | nil => rfl
  | cons a l ih =>
    simp only [keys, List.map_cons, List.mem_cons, not_or] at h
    show putL (upd f a.1 a.2) l t = f t
    rw [ih (by simpa [keys] using h.2), upd_ne _ _ h.1]
theorem putL_on {u : List (Nat × α)} {f f' : Nat → α} {t : Nat} (h : t ∈ keys u ∨ f t = f' t) : putL f u t = putL f' u t := by
  induction u generalizing f f' with
  | nil => exact h.resolve_left (by simp [keys])
  | cons a l ih =>
    show putL (upd f a.1 a.2) l t = putL (upd f' a.1 a.2) l t
    refine ih ?_
    by_cases e : t = a.1
    · subst e; exact .inr (by rw [upd_same, upd_same])
    · rcases h with h | h
      · simp only [keys, List.map_cons, List.mem_cons] at h
        exact .inl (h.resolve_left e)
      · exact .inr (by rw [upd_ne _ _ e, upd_ne _ _ e]; exact h)
theorem foldU_agree {us : List (List (Nat × α))} : ∀ {i : Nat} {L L' : Nat → Bool} {f f' : Nat → α} {t : Nat}, (∀ (k : Nat) u, us[k]? = some u → t ∈ keys u → L (i + k) = L' (i + k)) → f t = f' t → foldU us i L f t = foldU us i L' f' t := by
  induction us with
  | nil => intro i L L' f f' t _ h; exact h
  | cons u us ih =>
    intro i L L' f f' t hL h
    refine ih (fun k u' hu ht => by have := hL (k + 1) u' (by simpa using hu) ht; rwa [show i + (k + 1) = i + 1 + k by omega] at this) ?_
    by_cases ht : t ∈ keys u
    · have := hL 0 u rfl ht
      simp only [Nat.add_zero] at this
      rw [this]
      split
      · exact putL_on (.inl ht)
      · exact h
    · have h1 : ∀ (b : Bool) (f : Nat → α), (if b = true then putL f u else f) t = f t := by
        intro b f
        split
        · exact putL_off ht
        · rfl
      rw [h1, h1]
      exact h
theorem foldU_none {us : List (List (Nat × α))} {i : Nat} {L : Nat → Bool} {f : Nat → α} {t : Nat} (h : ∀ (k : Nat) u, us[k]? = some u → t ∈ keys u → L (i + k) = false) : foldU us i L f t = f t := by
  induction us generalizing i f with
  | nil => rfl
  | cons u us ih =>
    show foldU us (i + 1) L _ t = f t
    rw [ih (fun k u' hu ht => by have := h (k + 1) u' (by simpa using hu) ht; rwa [show i + (k + 1) = i + 1 + k by omega] at this)]
    split
    · rename_i hL
      refine putL_off fun ht => ?_
      have := h 0 u rfl ht
      simp only [Nat.add_zero] at this
      rw [this] at hL
      cases hL
    · rfl
/-- One more. -/
theorem foldU_add {us : List (List (Nat × α))} : ∀ {i j : Nat} {L : Nat → Bool} {f : Nat → α} {u : List (Nat × α)}, us[j]? = some u → (∀ (k : Nat) u', j < k → us[k]? = some u' → ∀ t, t ∈ keys u → t ∈ keys u' → L (i + k) = false) → L (i + j) = false →
    foldU us i (fun x => x == (i + j) || L x) f = putL (foldU us i L f) u := by
  induction us with
  | nil => intro i j L f u hj; simp at hj
  | cons v us ih =>
    intro i j L f u hj hk hLj
    cases j with
    | zero =>
      simp at hj
      subst hj
      funext t
      show foldU us (i + 1) _ (if (i == i + 0 || L i) = true then putL f v else f) t = putL (foldU us (i + 1) L (if L i = true then putL f v else f)) v t
      simp only [Nat.add_zero] at hLj ⊢
      rw [hLj]
      simp only [beq_self_eq_true, Bool.true_or, if_true, Bool.false_eq_true, if_false]
      have hsame : ∀ f', foldU us (i + 1) (fun x => x == i || L x) f' t = foldU us (i + 1) L f' t := fun f' => foldU_agree (fun k u' hu ht => by
        have : (i + 1 + k == i) = false := by simp; omega
        rw [this]; simp) rfl
      rw [hsame]
      by_cases ht : t ∈ keys v
      · have hno : ∀ (k : Nat) u', us[k]? = some u' → t ∈ keys u' → L (i + 1 + k) = false := fun k u' hu ht' => by
          have := hk (k + 1) u' (by omega) (by simpa using hu) t ht ht'
          rwa [show i + (k + 1) = i + 1 + k by omega] at this
        rw [foldU_none hno]
        exact putL_on (.inl ht)
      · rw [putL_off ht]
        exact foldU_agree (fun _ _ _ _ => rfl) (putL_off ht)
    | succ j =>
      have h1 : (i == i + (j + 1)) = false := by simp
      show foldU us (i + 1) _ (if (i == i + (j + 1) || L i) = true then putL f v else f) = _
      rw [h1, Bool.false_or]
      have := ih (i := i + 1) (j := j) (L := L) (f := if L i = true then putL f v else f) (u := u) (by simpa using hj) (fun k u' hjk hu t ht ht' => by
        have := hk (k + 1) u' (by omega) (by simpa using hu) t ht ht'
        rwa [show i + (k + 1) = i + 1 + k by omega] at this) (by rw [show i + 1 + j = i + (j + 1) by omega]; exact hLj)
      rw [show i + (j + 1) = i + 1 + j by omega]
      exact this
end
theorem updL_putL (res : Res) (u : Upd) : updL res u = putL res u := by
  induction u generalizing res with
  | nil => rfl
  | cons a l ih => exact ih _
end Go.Vi
