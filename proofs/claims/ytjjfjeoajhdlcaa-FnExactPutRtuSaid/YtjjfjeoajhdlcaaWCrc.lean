/- The sum of Modbus RTU, on numbers: a sum over its own two bytes is nothing, and over others it is not. No program in sight. -/
import Derived.Test.YtjjfjeoajhdlcaaWPure
set_option linter.unusedVariables false
namespace Go.Proofs.YtjjfjeoajhdlcaaW.Pure
open Go.Proofs.YtjjfjeoajhdlcaaW.PrintWords Go.RowKit
/-! ### the sum -/
def stepN (v : Nat) : Nat := if v % 2 = 1 then (v / 2) ^^^ 40961 else v / 2
def roundsN : Nat → Nat → Nat
  | 0, v => v
  | n + 1, v => roundsN n (stepN v)
def byteN (s b : Nat) : Nat := roundsN 8 (s ^^^ b)
def crcN (s : Nat) (l : List Int) : Nat := l.foldl (fun s b => byteN s b.toNat) s
theorem xor16 {a b : Nat} (ha : a < 65536) (hb : b < 65536) : a ^^^ b < 65536 := Nat.xor_lt_two_pow (n := 16) ha hb
theorem stepN_lt {v : Nat} (h : v < 65536) : stepN v < 65536 := by
  unfold stepN
  split
  · exact xor16 (by omega) (by omega)
  · omega
theorem roundsN_lt (n : Nat) : ∀ {v : Nat}, v < 65536 → roundsN n v < 65536 := by
  induction n with
  | zero => intro v h; exact h
  | succ n ih => intro v h; exact ih (stepN_lt h)
theorem byteN_lt {s b : Nat} (hs : s < 65536) (hb : b < 256) : byteN s b < 65536 := roundsN_lt 8 (xor16 hs (by omega))
theorem high_xor {a : Nat} (h : a < 32768) : 32768 ≤ a ^^^ 40961 := by
  have h1 : (a ^^^ 40961).testBit 15 = true := by
    rw [Nat.testBit_xor, Nat.testBit_lt_two_pow (show a < 2 ^ 15 by omega)]
    decide
  exact Nat.ge_two_pow_of_testBit h1
theorem xor_cancel {a b c : Nat} (h : a ^^^ c = b ^^^ c) : a = b := by
  have := congrArg (· ^^^ c) h
  simpa [Nat.xor_assoc] using this
theorem stepN_inj {u v : Nat} (hu : u < 65536) (hv : v < 65536) (h : stepN u = stepN v) : u = v := by
  unfold stepN at h
  split at h <;> split at h
  · have := xor_cancel h
    omega
  · have := high_xor (a := u / 2) (by omega)
    omega
  · have := high_xor (a := v / 2) (by omega)
    omega
  · omega
theorem roundsN_inj (n : Nat) : ∀ {u v : Nat}, u < 65536 → v < 65536 → roundsN n u = roundsN n v → u = v := by
  induction n with
  | zero => intro u v _ _ h; exact h
  | succ n ih => intro u v hu hv h; exact stepN_inj hu hv (ih (stepN_lt hu) (stepN_lt hv) h)
theorem rounds_high (h : Nat) (hh : h < 256) : roundsN 8 (h * 256) = h := by
  simp only [roundsN, stepN]
  have e0 : h * 256 % 2 = 0 := by omega
  have e1 : h * 256 / 2 % 2 = 0 := by omega
  have e2 : h * 256 / 2 / 2 % 2 = 0 := by omega
  have e3 : h * 256 / 2 / 2 / 2 % 2 = 0 := by omega
  have e4 : h * 256 / 2 / 2 / 2 / 2 % 2 = 0 := by omega
  have e5 : h * 256 / 2 / 2 / 2 / 2 / 2 % 2 = 0 := by omega
  have e6 : h * 256 / 2 / 2 / 2 / 2 / 2 / 2 % 2 = 0 := by omega
  have e7 : h * 256 / 2 / 2 / 2 / 2 / 2 / 2 / 2 % 2 = 0 := by omega
  simp [e0, e1, e2, e3, e4, e5, e6, e7]
  omega
theorem rounds_zero : roundsN 8 0 = 0 := by decide
/-- A sum over its own two bytes is nothing, and over others it is not. -/
theorem crc_ends {s lo hi : Nat} (hs : s < 65536) (hlo : lo < 256) (hhi : hi < 256) : byteN (byteN s lo) hi = 0 ↔ lo = s % 256 ∧ hi = s / 256 := by
  unfold byteN
  have h1 : s ^^^ lo < 65536 := xor16 hs (by omega)
  have h2 : roundsN 8 (s ^^^ lo) < 65536 := roundsN_lt 8 h1
  have key : s ^^^ (s % 256) = s / 256 * 256 := by
    have e : s = s / 256 * 256 + s % 256 := by omega
    have e2 : s / 256 * 256 + s % 256 = (s / 256 * 256) ^^^ (s % 256) := by
      have := Nat.two_pow_add_eq_or_of_lt (i := 8) (b := s % 256) (by omega) (s / 256)
      have h3 : (s / 256 * 256) &&& (s % 256) = 0 := by
        apply Nat.eq_of_testBit_eq
        intro i
        rw [Nat.testBit_and, Nat.zero_testBit]
        by_cases hi : i < 8
        · rw [show s / 256 * 256 = 2 ^ 8 * (s / 256) by omega, Nat.testBit_two_pow_mul]
          simp
          omega
        · have h8 : s % 256 < 256 := by omega
          have h9 : 2 ^ 8 ≤ 2 ^ i := Nat.pow_le_pow_right (by omega) (by omega)
          have h10 : s % 256 < 2 ^ i := by
            have h11 : (2 : Nat) ^ 8 = 256 := by decide
            omega
          rw [Nat.testBit_lt_two_pow h10, Bool.and_false]
      apply Nat.eq_of_testBit_eq
      intro i
      rw [show s / 256 * 256 = 2 ^ 8 * (s / 256) by omega] at h3 ⊢
      rw [this]
      have hb : ((2 ^ 8 * (s / 256)) &&& (s % 256)).testBit i = false := by rw [h3]; simp
      rw [Nat.testBit_and] at hb
      rw [Nat.testBit_or, Nat.testBit_xor]
      cases h4 : (2 ^ 8 * (s / 256)).testBit i <;> cases h5 : (s % 256).testBit i <;> (rw [h4, h5] at hb; first | rfl | (exact absurd hb (by decide)))
    have hx : s = (s / 256 * 256) ^^^ (s % 256) := e.trans e2
    exact (congrArg (· ^^^ (s % 256)) hx).trans (by show (s / 256 * 256 ^^^ s % 256) ^^^ s % 256 = _; rw [Nat.xor_assoc, Nat.xor_self, Nat.xor_zero])
  constructor
  · intro h
    have h3 : roundsN 8 (s ^^^ lo) ^^^ hi = 0 := roundsN_inj 8 (xor16 h2 (by omega)) (by omega) (h.trans rounds_zero.symm)
    have h4 : roundsN 8 (s ^^^ lo) = hi := by
      have := congrArg (· ^^^ hi) h3
      simpa [Nat.xor_assoc] using this
    have h5 : s ^^^ lo = hi * 256 := roundsN_inj 8 h1 (by omega) (h4.trans (rounds_high hi hhi).symm)
    have h6 : lo = s ^^^ (hi * 256) := by
      have := congrArg (s ^^^ ·) h5
      simpa [← Nat.xor_assoc] using this
    have h7 : s % 256 = lo := by
      have e : s = (hi * 256) ^^^ lo := by rw [← h5, Nat.xor_assoc, Nat.xor_self, Nat.xor_zero]
      have := congrArg (· % 2 ^ 8) e
      simp only [Nat.xor_mod_two_pow] at this
      rw [show hi * 256 % 2 ^ 8 = 0 by omega, Nat.zero_xor, Nat.mod_eq_of_lt (by omega : lo < 2 ^ 8)] at this
      simpa using this
    refine ⟨h7.symm, ?_⟩
    rw [← h7, key] at h5
    omega
  · rintro ⟨rfl, rfl⟩
    rw [key, rounds_high _ (by omega), Nat.xor_self]
    exact rounds_zero
/-- The loops of the sum, out of what one round of each does. -/
theorem crc_ev {ρ : Type} (F : Nat → Int → Int → Option ρ) (G : Nat → Int → Int → Int → Option ρ) (l : List Int) (r : ρ) (hl : l.length ≤ 4611686018427387904) (hb : ∀ x ∈ l, 0 ≤ x ∧ x < 256)
    (hF : ∀ (k : Nat) (x : Int) (i : Nat) (hi : i < l.length), F (k + 1) x i = G k (bits .xor .i64 x (wrap64 l[i])) i 0)
    (hG1 : ∀ (k : Nat) (x : Int) (i j : Nat), i < l.length → j < 8 → bits .and .i64 x 1 = 1 → G (k + 1) x i j = G k (bits .xor .i64 (x / 2) 40961) i (wrap64 ((j : Int) + 1)))
    (hG0 : ∀ (k : Nat) (x : Int) (i j : Nat), i < l.length → j < 8 → ¬ bits .and .i64 x 1 = 1 → G (k + 1) x i j = G k (x / 2) i (wrap64 ((j : Int) + 1)))
    (hG : ∀ (k : Nat) (x : Int) (i : Nat), i < l.length → G (k + 1) x i 8 = F k x (wrap64 ((i : Int) + 1)))
    (he : ∀ k, F (k + 1) (crcN 65535 l : Nat) (l.length : Int) = some r) : Ev (fun k => F k 65535 0) r := by
  have inner : ∀ (i : Nat) (hi : i < l.length) (d j : Nat) (s : Nat), j + d = 8 → s < 65536 → Ev (fun k => F k (roundsN d s : Nat) (wrap64 ((i : Int) + 1))) r → Ev (fun k => G k (s : Nat) i (j : Int)) r := by
    intro i hi d
    induction d with
    | zero =>
      intro j s hj hs h
      obtain rfl : j = 8 := by omega
      exact Ev.step (fun k => hG k _ i hi) h
    | succ d ih =>
      intro j s hj hs h
      have e1 : wrap64 ((j : Int) + 1) = ((j + 1 : Nat) : Int) := by rw [wrap_id (by omega) (by omega)]; omega
      have h2 := ih (j + 1) (stepN s) (by omega) (stepN_lt hs) h
      have hs2 : s / 2 < 2 ^ 32 := by omega
      by_cases hp : s % 2 = 1
      · refine Ev.step (fun k => ?_) h2
        rw [hG1 k _ i j hi (by omega) (by rw [bits_and1 s (by omega), hp]; rfl), e1]
        have := bits_xor64 (s / 2) 40961 hs2 (by decide)
        rw [show ((s / 2 : Nat) : Int) = (s : Int) / 2 by omega] at this
        rw [show (40961 : Int) = ((40961 : Nat) : Int) from rfl, this]
        simp [stepN, hp]
      · refine Ev.step (fun k => ?_) h2
        rw [hG0 k _ i j hi (by omega) (by rw [bits_and1 s (by omega)]; omega), e1]
        rw [show (s : Int) / 2 = ((s / 2 : Nat) : Int) by omega]
        simp [stepN, hp]
  have outer := Ev.down (r := r) l.length (fun i k => F k (crcN 65535 (l.take i) : Nat) i) (fun i hi h => by
    have hx := hb l[i] (List.getElem_mem hi)
    have hlt : ∀ (m : List Int) (s : Nat), (∀ x ∈ m, 0 ≤ x ∧ x < 256) → s < 65536 → crcN s m < 65536 := by
      intro m
      induction m with
      | nil => intro s _ hs; exact hs
      | cons a m ih => intro s hm hs; exact ih _ (fun x hx => hm x (List.mem_cons_of_mem _ hx)) (byteN_lt hs (by have := hm a (List.mem_cons_self); omega))
    have hs := hlt (l.take i) 65535 (fun x hx => hb x (List.mem_of_mem_take hx)) (by decide)
    have e : bits .xor .i64 (crcN 65535 (l.take i) : Nat) (wrap64 l[i]) = ((crcN 65535 (l.take i) ^^^ l[i].toNat : Nat) : Int) := by
      rw [wrap_id (by omega) (by omega)]
      have := bits_xor64 (crcN 65535 (l.take i)) l[i].toNat (by omega) (by omega)
      rwa [show ((l[i].toNat : Nat) : Int) = l[i] by omega] at this
    refine Ev.step (fun k => hF k _ i hi) ?_
    rw [e]
    refine inner i hi 8 0 _ (by omega) (xor16 hs (by omega)) ?_
    have e2 : roundsN 8 (crcN 65535 (l.take i) ^^^ l[i].toNat) = crcN 65535 (l.take (i + 1)) := by
      unfold crcN
      rw [List.take_succ_eq_append_getElem hi, List.foldl_append]
      rfl
    rw [e2, wrap_id (by omega) (by omega)]
    exact h) (Ev.step (f := fun _ => some r) (fun k => by rw [List.take_length]; exact he k) (Ev.now r))
  simpa [crcN] using outer
theorem crcN_lt (m : List Int) : ∀ (s : Nat), (∀ x ∈ m, 0 ≤ x ∧ x < 256) → s < 65536 → crcN s m < 65536 := by
  induction m with
  | nil => intro s _ hs; exact hs
  | cons a m ih => intro s hm hs; exact ih _ (fun x hx => hm x (List.mem_cons_of_mem _ hx)) (byteN_lt hs (by have := hm a (List.mem_cons_self); omega))
end Go.Proofs.YtjjfjeoajhdlcaaW.Pure
