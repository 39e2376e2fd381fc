/- Texts and their pieces: cut, split, joined; numbers written and read. -/
import Derived.Test.YtfpcgomngnfdeaaDoorXText
import Derived.Lib.SplitLaws
import Derived.Lib.Atoi
import Derived.Lib.ItoaLen
import Derived.Lib.Strings
namespace Go.Proofs.YtfpcgomngnfdeaaDoor
open Go Go.Vi
set_option linter.unusedVariables false
set_option linter.unusedSimpArgs false
set_option maxRecDepth 100000
-- IMPORT Derived.Lib.SplitLaws
-- IMPORT Derived.Lib.Atoi
-- IMPORT Derived.Lib.ItoaLen
-- IMPORT Derived.Lib.Strings
theorem idx_none {c : UInt8} {s : List UInt8} (h : c ∉ s) : Lib.index s [c] = -1 := by
  induction s with
  | nil => rfl
  | cons b l ih =>
    have h1 : c ≠ b := fun e => h (by simp [e])
    have h2 := ih (fun e => h (by simp [e]))
    rw [Lib.index, if_neg (by simp [List.isPrefixOf, h1]), h2]
    rfl
theorem idx_at {c : UInt8} {a r : List UInt8} (h : c ∉ a) : Lib.index (a ++ c :: r) [c] = (a.length : Int) := by
  induction a with
  | nil => rw [List.nil_append, Lib.index, if_pos (by simp [List.isPrefixOf])]; rfl
  | cons b l ih =>
    have h1 : c ≠ b := fun e => h (by simp [e])
    have h2 := ih (fun e => h (by simp [e]))
    rw [List.cons_append, Lib.index, if_neg (by simp [List.isPrefixOf, h1]), h2]
    have : ((l.length : Int) == -1) = false := by rw [beq_eq_false_iff_ne]; omega
    rw [this]
    simp
theorem cut_at {c : UInt8} {a r : List UInt8} (h : c ∉ a) : Lib.cut (a ++ c :: r) [c] = (a, r, true) := by
  unfold Lib.cut
  rw [idx_at h, if_pos (by omega)]
  simp
theorem cut_none {c : UInt8} {a : List UInt8} (h : c ∉ a) : Lib.cut a [c] = (a, [], false) := by
  unfold Lib.cut
  rw [idx_none h, if_neg (by decide)]
/-- Pieces, each behind a byte but the first. -/
def joinC (c : UInt8) : List (List UInt8) → List UInt8
  | [] => []
  | a :: l => a ++ l.flatMap fun x => c :: x
theorem split_join {c : UInt8} : ∀ (l : List (List UInt8)) (a : List UInt8), (∀ x ∈ a :: l, c ∉ x) → Lib.splitK [c] 0 l.length (joinC c (a :: l)) = a :: l
  | [], a, _ => by simp [Lib.splitK, joinC]
  | b :: l, a, h => by
    have ha : c ∉ a := h a (by simp)
    have e : joinC c (a :: b :: l) = a ++ c :: joinC c (b :: l) := by simp [joinC]
    rw [e, List.length_cons, Lib.splitK, idx_at ha, if_neg (by simp)]
    simp only [Int.toNat_natCast, Nat.add_zero, List.length_cons, List.length_nil]
    rw [List.take_left, show (a ++ c :: joinC c (b :: l)).drop (a.length + 1) = joinC c (b :: l) by simp, split_join l b (fun x hx => h x (List.mem_cons_of_mem _ hx))]
theorem count_join {c : UInt8} : ∀ (l : List (List UInt8)) (a : List UInt8), (∀ x ∈ a :: l, c ∉ x) → Lib.count (joinC c (a :: l)) [c] = l.length
  | [], a, h => by rw [Lib.count_one]; simp [joinC]; exact List.count_eq_zero.2 (h a (by simp))
  | b :: l, a, h => by
    have ha : c ∉ a := h a (by simp)
    have e : joinC c (a :: b :: l) = a ++ c :: joinC c (b :: l) := by simp [joinC]
    rw [e, Lib.count_hit (by simp) (idx_at ha)]
    simp only [List.length_cons, List.length_nil]
    rw [show (a ++ c :: joinC c (b :: l)).drop (a.length + 1) = joinC c (b :: l) by simp, count_join l b (fun x hx => h x (List.mem_cons_of_mem _ hx))]
    omega
/-- The pieces of what was joined. -/
theorem split_all {c : UInt8} (l : List (List UInt8)) (a : List UInt8) (h : ∀ x ∈ a :: l, c ∉ x) :
    Lib.splitB ⟨#[c]⟩ 0 (Lib.countB ⟨(joinC c (a :: l)).toArray⟩ ⟨#[c]⟩) ⟨(joinC c (a :: l)).toArray⟩ = (a :: l).map fun x => (⟨x.toArray⟩ : ByteArray) := by
  have h1 : Lib.countB ⟨(joinC c (a :: l)).toArray⟩ ⟨#[c]⟩ = l.length := count_join l a h
  rw [h1]
  have h2 := Lib.splitB_data ⟨#[c]⟩ 0 l.length ⟨(joinC c (a :: l)).toArray⟩
  have h3 : Lib.splitK (⟨#[c]⟩ : ByteArray).data.toList 0 l.length (⟨(joinC c (a :: l)).toArray⟩ : ByteArray).data.toList = a :: l := split_join l a h
  rw [h3] at h2
  have h4 := congrArg (List.map fun x => (⟨x.toArray⟩ : ByteArray)) h2
  rw [List.map_map] at h4
  rw [← h4]
  exact (List.map_id _).symm
/-! Numbers. -/
theorem digit_val {d : Nat} (h : d < 10) : Lib.digitVal (UInt8.ofNat (48 + d)) = some d := by
  match d, h with
  | 0, _ | 1, _ | 2, _ | 3, _ | 4, _ | 5, _ | 6, _ | 7, _ | 8, _ | 9, _ => rfl
theorem decFrom_app : ∀ (a b : List UInt8) (acc : Nat), Lib.decFrom acc (a ++ b) = (Lib.decFrom acc a).bind fun n => Lib.decFrom n b
  | [], b, acc => rfl
  | x :: a, b, acc => by
    rw [List.cons_append, Lib.decFrom, Lib.decFrom]
    split
    · rw [decFrom_app a b]
    · rfl
theorem decFrom_dec : ∀ (k u : Nat), u < k → Lib.decFrom 0 (Lib.decDigits u) = some u
  | 0, u, h => by omega
  | k + 1, u, h => by
    by_cases hu : u < 10
    · rw [Lib.decDigits, dif_pos hu, Lib.decFrom, digit_val hu]
      simp [Lib.decFrom]
    · rw [Lib.decDigits, dif_neg hu, decFrom_app, decFrom_dec k (u / 10) (by omega), Option.bind_some, Lib.decFrom, digit_val (Nat.mod_lt _ (by decide))]
      simp only [Lib.decFrom]
      congr 1
      omega
theorem dec_ne : ∀ (k u : Nat), u < k → Lib.decDigits u ≠ []
  | 0, u, h => by omega
  | k + 1, u, h => by
    by_cases hu : u < 10
    · rw [Lib.decDigits, dif_pos hu]; simp
    · rw [Lib.decDigits, dif_neg hu]; simp
theorem dec_digit : ∀ (k u : Nat), u < k → ∀ x ∈ Lib.decDigits u, 48 ≤ x.toNat ∧ x.toNat ≤ 57
  | 0, u, h => by omega
  | k + 1, u, h => by
    have key : ∀ d : Nat, d < 10 → 48 ≤ (UInt8.ofNat (48 + d)).toNat ∧ (UInt8.ofNat (48 + d)).toNat ≤ 57 := by
      intro d hd
      match d, hd with
      | 0, _ | 1, _ | 2, _ | 3, _ | 4, _ | 5, _ | 6, _ | 7, _ | 8, _ | 9, _ => decide
    by_cases hu : u < 10
    · rw [Lib.decDigits, dif_pos hu]
      intro x hx
      rw [List.mem_singleton.1 hx]
      exact key u hu
    · rw [Lib.decDigits, dif_neg hu]
      intro x hx
      rcases List.mem_append.1 hx with hx | hx
      · exact dec_digit k (u / 10) (by omega) x hx
      · rw [List.mem_singleton.1 hx]
        exact key _ (Nat.mod_lt _ (by decide))
theorem decNat_dec (u : Nat) : Lib.decNat (Lib.decDigits u) = some u := by
  unfold Lib.decNat
  rw [if_neg (by simpa using dec_ne (u + 1) u (Nat.lt_succ_self _)), decFrom_dec (u + 1) u (Nat.lt_succ_self _)]
/-- A number's digits are read as it. -/
theorem atoi_dec (u : Nat) : Lib.atoi (Lib.decDigits u) = some (u : Int) := by
  have h0 := dec_ne (u + 1) u (Nat.lt_succ_self _)
  have h1 := dec_digit (u + 1) u (Nat.lt_succ_self _)
  have h2 := decNat_dec u
  generalize Lib.decDigits u = l at *
  cases l with
  | nil => exact absurd rfl h0
  | cons b r =>
    have hb := h1 b (by simp)
    have n1 : (b == 45) = false := by rw [beq_eq_false_iff_ne]; intro e; subst e; simp at hb
    have n2 : (b == 43) = false := by rw [beq_eq_false_iff_ne]; intro e; subst e; simp at hb
    simp [Lib.atoi, n1, n2, h2]
theorem itoa_mem {n : Int} {x : UInt8} (h : x ∈ Lib.itoa n) : x = 45 ∨ (48 ≤ x.toNat ∧ x.toNat ≤ 57) := by
  unfold Lib.itoa at h
  split at h
  · rcases List.mem_cons.1 h with h | h
    · exact .inl h
    · exact .inr (dec_digit _ _ (Nat.lt_succ_self _) x h)
  · exact .inr (dec_digit _ _ (Nat.lt_succ_self _) x h)
theorem itoa_no {n : Int} {c : UInt8} (hc : c = 10 ∨ c = 32) : c ∉ Lib.itoa n := by
  intro h
  rcases itoa_mem h with h | h
  · subst h; revert hc; decide
  · rcases hc with rfl | rfl <;> revert h <;> decide
/-- Of at most six digits. -/
theorem dec_lenK : ∀ (k u : Nat), u < 10 ^ (k + 1) → (Lib.decDigits u).length ≤ k + 1
  | 0, u, h => by rw [Lib.decDigits, dif_pos (by omega)]; simp
  | k + 1, u, h => by
    by_cases hu : u < 10
    · rw [Lib.decDigits, dif_pos hu]; simp
    · rw [Lib.decDigits, dif_neg hu, List.length_append]
      have := dec_lenK k (u / 10) (by rw [Nat.pow_succ] at h; omega)
      simp only [List.length_cons, List.length_nil]
      omega
theorem dec_len6 (u : Nat) (h : u < 1000000) : (Lib.decDigits u).length ≤ 6 := dec_lenK 5 u (by omega)
theorem dec_pos (u : Nat) : 1 ≤ (Lib.decDigits u).length := by
  have := dec_ne (u + 1) u (Nat.lt_succ_self _)
  cases h : Lib.decDigits u with
  | nil => exact absurd h this
  | cons a l => simp
/-- What is behind the minus, if one is there. -/
theorem trim_neg {n : Int} : Lib.trimPrefix (Lib.itoa n) [45] = Lib.decDigits n.natAbs ∧ Lib.hasPrefix (Lib.itoa n) [45] = decide (n < 0) := by
  unfold Lib.itoa
  by_cases h : n < 0
  · rw [if_pos h]
    simp [Lib.trimPrefix, Lib.hasPrefix, List.isPrefixOf, h]
  · rw [if_neg h]
    have h1 := dec_digit (n.toNat + 1) n.toNat (Nat.lt_succ_self _)
    rw [show n.natAbs = n.toNat by omega]
    have : Lib.hasPrefix (Lib.decDigits n.toNat) [45] = false := by
      generalize Lib.decDigits n.toNat = l at *
      cases l with
      | nil => rfl
      | cons b r =>
        have hb := h1 b (by simp)
        have : ¬ (45 : UInt8) = b := fun e => by subst e; simp at hb
        simp [Lib.hasPrefix, List.isPrefixOf, this]
    rw [show Lib.trimPrefix (Lib.decDigits n.toNat) [45] = Lib.decDigits n.toNat by unfold Lib.trimPrefix; rw [this]; simp, this]
    simp [h]

end Go.Proofs.YtfpcgomngnfdeaaDoor
