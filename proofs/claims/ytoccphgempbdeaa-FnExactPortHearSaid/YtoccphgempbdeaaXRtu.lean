/- Frames by silences: the sum, what is read of bytes, ticks. -/
import Derived.Test.YtoccphgempbdeaaXStream
namespace Go.Proofs.Ytoccphgempbdeaa
open Go Go.Vi
set_option linter.unusedVariables false
set_option linter.unusedSimpArgs false
set_option maxRecDepth 100000
/-! ### the sum -/
def stepN (v : Nat) : Nat := if v % 2 = 1 then (v / 2) ^^^ 40961 else v / 2
def roundsN : Nat → Nat → Nat
  | 0, v => v
  | n + 1, v => roundsN n (stepN v)
def byteN (s b : Nat) : Nat := roundsN 8 (s ^^^ b)
def crcN (s : Nat) (l : List Int) : Nat := l.foldl (fun s b => byteN s b.toNat) s
theorem xor16 {a b : Nat} (ha : a < 65536) (hb : b < 65536) : a ^^^ b < 65536 := Nat.xor_lt_two_pow (n := 16) ha hb
theorem stepN_lt {v : Nat} (h : v < 65536) : stepN v < 65536 := by
  unfold stepN
  split
  · exact xor16 (by omega) (by omega)
  · omega
theorem roundsN_lt (n : Nat) : ∀ {v : Nat}, v < 65536 → roundsN n v < 65536 := by
  induction n with
  | zero => intro v h; exact h
  | succ n ih => intro v h; exact ih (stepN_lt h)
theorem byteN_lt {s b : Nat} (hs : s < 65536) (hb : b < 256) : byteN s b < 65536 := roundsN_lt 8 (xor16 hs (by omega))
theorem high_xor {a : Nat} (h : a < 32768) : 32768 ≤ a ^^^ 40961 := by
  have h1 : (a ^^^ 40961).testBit 15 = true := by
    rw [Nat.testBit_xor, Nat.testBit_lt_two_pow (show a < 2 ^ 15 by omega)]
    decide
  exact Nat.ge_two_pow_of_testBit h1
theorem xor_cancel {a b c : Nat} (h : a ^^^ c = b ^^^ c) : a = b := by
  have := congrArg (· ^^^ c) h
  simpa [Nat.xor_assoc] using this
theorem stepN_inj {u v : Nat} (hu : u < 65536) (hv : v < 65536) (h : stepN u = stepN v) : u = v := by
  unfold stepN at h
  split at h <;> split at h
  · have := xor_cancel h
    omega
  · have := high_xor (a := u / 2) (by omega)
    omega
  · have := high_xor (a := v / 2) (by omega)
    omega
  · omega
theorem roundsN_inj (n : Nat) : ∀ {u v : Nat}, u < 65536 → v < 65536 → roundsN n u = roundsN n v → u = v := by
  induction n with
  | zero => intro u v _ _ h; exact h
  | succ n ih => intro u v hu hv h; exact stepN_inj hu hv (ih (stepN_lt hu) (stepN_lt hv) h)
theorem rounds_high (h : Nat) (hh : h < 256) : roundsN 8 (h * 256) = h := by
  simp only [roundsN, stepN]
  have e0 : h * 256 % 2 = 0 := by omega
  have e1 : h * 256 / 2 % 2 = 0 := by omega
  have e2 : h * 256 / 2 / 2 % 2 = 0 := by omega
  have e3 : h * 256 / 2 / 2 / 2 % 2 = 0 := by omega
  have e4 : h * 256 / 2 / 2 / 2 / 2 % 2 = 0 := by omega
  have e5 : h * 256 / 2 / 2 / 2 / 2 / 2 % 2 = 0 := by omega
  have e6 : h * 256 / 2 / 2 / 2 / 2 / 2 / 2 % 2 = 0 := by omega
  have e7 : h * 256 / 2 / 2 / 2 / 2 / 2 / 2 / 2 % 2 = 0 := by omega
  simp [e0, e1, e2, e3, e4, e5, e6, e7]
  omega
theorem rounds_zero : roundsN 8 0 = 0 := by decide
/-- A sum over its own two bytes is nothing, and over others it is not. -/
theorem crc_ends {s lo hi : Nat} (hs : s < 65536) (hlo : lo < 256) (hhi : hi < 256) : byteN (byteN s lo) hi = 0 ↔ lo = s % 256 ∧ hi = s / 256 := by
  unfold byteN
  have h1 : s ^^^ lo < 65536 := xor16 hs (by omega)
  have h2 : roundsN 8 (s ^^^ lo) < 65536 := roundsN_lt 8 h1
  have key : s ^^^ (s % 256) = s / 256 * 256 := by
    have e : s = s / 256 * 256 + s % 256 := by omega
    have e2 : s / 256 * 256 + s % 256 = (s / 256 * 256) ^^^ (s % 256) := by
      have := Nat.two_pow_add_eq_or_of_lt (i := 8) (b := s % 256) (by omega) (s / 256)
      have h3 : (s / 256 * 256) &&& (s % 256) = 0 := by
        apply Nat.eq_of_testBit_eq
        intro i
        rw [Nat.testBit_and, Nat.zero_testBit]
        by_cases hi : i < 8
        · rw [show s / 256 * 256 = 2 ^ 8 * (s / 256) by omega, Nat.testBit_two_pow_mul]
          simp
          omega
        · have h8 : s % 256 < 256 := by omega
          have h9 : 2 ^ 8 ≤ 2 ^ i := Nat.pow_le_pow_right (by omega) (by omega)
          have h10 : s % 256 < 2 ^ i := by
            have h11 : (2 : Nat) ^ 8 = 256 := by decide
            omega
          rw [Nat.testBit_lt_two_pow h10, Bool.and_false]
      apply Nat.eq_of_testBit_eq
      intro i
      rw [show s / 256 * 256 = 2 ^ 8 * (s / 256) by omega] at h3 ⊢
      rw [this]
      have hb : ((2 ^ 8 * (s / 256)) &&& (s % 256)).testBit i = false := by rw [h3]; simp
      rw [Nat.testBit_and] at hb
      rw [Nat.testBit_or, Nat.testBit_xor]
      cases h4 : (2 ^ 8 * (s / 256)).testBit i <;> cases h5 : (s % 256).testBit i <;> (rw [h4, h5] at hb; first | rfl | (exact absurd hb (by decide)))
    have hx : s = (s / 256 * 256) ^^^ (s % 256) := e.trans e2
    exact (congrArg (· ^^^ (s % 256)) hx).trans (by show (s / 256 * 256 ^^^ s % 256) ^^^ s % 256 = _; rw [Nat.xor_assoc, Nat.xor_self, Nat.xor_zero])
  constructor
  · intro h
    have h3 : roundsN 8 (s ^^^ lo) ^^^ hi = 0 := roundsN_inj 8 (xor16 h2 (by omega)) (by omega) (h.trans rounds_zero.symm)
    have h4 : roundsN 8 (s ^^^ lo) = hi := by
      have := congrArg (· ^^^ hi) h3
      simpa [Nat.xor_assoc] using this
    have h5 : s ^^^ lo = hi * 256 := roundsN_inj 8 h1 (by omega) (h4.trans (rounds_high hi hhi).symm)
    have h6 : lo = s ^^^ (hi * 256) := by
      have := congrArg (s ^^^ ·) h5
      simpa [← Nat.xor_assoc] using this
    have h7 : s % 256 = lo := by
      have e : s = (hi * 256) ^^^ lo := by rw [← h5, Nat.xor_assoc, Nat.xor_self, Nat.xor_zero]
      have := congrArg (· % 2 ^ 8) e
      simp only [Nat.xor_mod_two_pow] at this
      rw [show hi * 256 % 2 ^ 8 = 0 by omega, Nat.zero_xor, Nat.mod_eq_of_lt (by omega : lo < 2 ^ 8)] at this
      simpa using this
    refine ⟨h7.symm, ?_⟩
    rw [← h7, key] at h5
    omega
  · rintro ⟨rfl, rfl⟩
    rw [key, rounds_high _ (by omega), Nat.xor_self]
    exact rounds_zero
theorem crcN_lt (m : List Int) : ∀ (s : Nat), (∀ x ∈ m, 0 ≤ x ∧ x < 256) → s < 65536 → crcN s m < 65536 := by
  induction m with
  | nil => intro s _ hs; exact hs
  | cons a m ih => intro s hm hs; exact ih _ (fun x hx => hm x (List.mem_cons_of_mem _ hx)) (byteN_lt hs (by have := hm a (List.mem_cons_self); omega))

theorem xorB (a b : Nat) (ha : a < 4294967296) (hb : b < 4294967296) : IntKind.i64.wrap ((BitVec.ofInt IntKind.i64.bits (a : Int) ^^^ BitVec.ofInt IntKind.i64.bits (b : Int)).toNat : Nat) = ((a ^^^ b : Nat) : Int) := by
  have h : (BitVec.ofInt IntKind.i64.bits (a : Int) ^^^ BitVec.ofInt IntKind.i64.bits (b : Int)).toNat = a ^^^ b := by
    rw [BitVec.toNat_xor, BitVec.toNat_ofInt, BitVec.toNat_ofInt]
    show (((a : Int) % 2 ^ 64).toNat ^^^ ((b : Int) % 2 ^ 64).toNat) = _
    congr 1 <;> omega
  have h2 : a ^^^ b < 4294967296 := Nat.xor_lt_two_pow (n := 32) ha hb
  rw [h]
  exact wrap_ok (by omega) (by omega)
theorem and1B (a : Nat) (ha : a < 4294967296) : IntKind.i64.wrap ((BitVec.ofInt IntKind.i64.bits (a : Int) &&& BitVec.ofInt IntKind.i64.bits 1).toNat : Nat) = ((a % 2 : Nat) : Int) := by
  have h : (BitVec.ofInt IntKind.i64.bits (a : Int) &&& BitVec.ofInt IntKind.i64.bits 1).toNat = a % 2 := by
    rw [BitVec.toNat_and, BitVec.toNat_ofInt, BitVec.toNat_ofInt]
    show (((a : Int) % 2 ^ 64).toNat &&& ((1 : Int) % 2 ^ 64).toNat) = _
    have h1 : ((1 : Int) % 2 ^ 64).toNat = 1 := by decide
    rw [h1, Nat.and_one_is_mod]
    omega
  rw [h]
  exact wrap_ok (by omega) (by omega)
theorem shr1B (a : Nat) : Int.fdiv (a : Int) (2 ^ min (Int.toNat 1) IntKind.i64.bits) = ((a / 2 : Nat) : Int) := by
  show Int.fdiv (a : Int) 2 = _
  rw [Int.fdiv_eq_ediv_of_nonneg _ (by decide)]
  omega
def isBytes (l : List Int) : Prop := ∀ x ∈ l, 0 ≤ x ∧ x < 256
theorem s_Crc (l : List Int) (hb : isBytes l) (hl : l.length ≤ 1048576) : PureC Try.prog 69 [bytesV l] [i64v (crcN 65535 l : Nat)] := by
  refine pureC_of (Γ := lookT tbl) (il := ilist) tg dr Try.func69 rfl (by kernel_rfl) rfl (Nat.le_of_ble_eq_true rfl) ?_
  conv => whnf
  refine loop_i (fun k : Nat => ⟨envL [(0, .c (.pv (bytesP l))), (3, .c (.pv (.int .i64 (crcN 65535 (l.take k) : Nat)))), (4, .c (.pv (.int .i64 k)))], resL [], 0, 33⟩) (fun k => k ≤ l.length) (fun k => l.length - k) 0 (Nat.zero_le _) (le_mk [] rfl ⟨⟨rfl, rfl⟩, ⟨i64_eq (by simp [crcN]), rfl⟩, ⟨rfl, rfl⟩, trivial⟩ trivial rfl) ?_
  intro k hk
  conv => whnf
  refine br_i (fun h => ?_) (fun h => ?_)
  · have hlt : k < l.length := by simpa using h
    have hx := hb l[k] (List.getElem_mem _)
    have hs := crcN_lt (l.take k) 65535 (fun x hx => hb x (List.mem_of_mem_take hx)) (by decide)
    have e0 : IntKind.i64.wrap l[k] = ((l[k].toNat : Nat) : Int) := (wrap_ok (by omega) (by omega)).trans (by omega)
    have e1 := xorB (crcN 65535 (l.take k)) l[k].toNat (by omega) (by omega)
    have e2 : roundsN 8 (crcN 65535 (l.take k) ^^^ l[k].toNat) = crcN 65535 (l.take (k + 1)) := by
      unfold crcN
      rw [List.take_succ_eq_append_getElem hlt, List.foldl_append]
      rfl
    have hs1 : crcN 65535 (l.take k) ^^^ l[k].toNat < 65536 := xor16 hs (by omega)
    generalize crcN 65535 (l.take k) ^^^ l[k].toNat = s0 at *
    conv => whnf
    refine ⟨_, idx_map l byteEl k hlt 1, ?_⟩
    conv => whnf
    refine loop_i (fun x : Nat × Nat => ⟨envL [(0, .c (.pv (bytesP l))), (3, .c (.pv (.int .i64 (x.2 : Nat)))), (4, .c (.pv (.int .i64 k))), (5, .c (.pv (.int .i64 x.1)))], resL [], 0, 33⟩) (fun x => x.1 ≤ 8 ∧ x.2 < 65536 ∧ roundsN (8 - x.1) x.2 = roundsN 8 s0) (fun x => 8 - x.1) (0, s0) ⟨Nat.zero_le 8, hs1, rfl⟩ (le_mk [] rfl ⟨⟨rfl, rfl⟩, ⟨i64_eq (by rw [e0]; exact e1), rfl⟩, ⟨rfl, rfl⟩, ⟨rfl, rfl⟩, trivial⟩ trivial rfl) ?_
    intro ⟨j, s⟩ ⟨hj, hsl, hr⟩
    dsimp only at hj hsl hr ⊢
    conv => whnf
    refine br_i (fun h => ?_) (fun h => ?_)
    · have hj8 : j < 8 := by simp at h; omega
      have hst : roundsN (8 - (j + 1)) (stepN s) = roundsN 8 s0 := by rw [← hr, show 8 - j = (8 - (j + 1)) + 1 by omega]; rfl
      have ha := and1B s (by omega)
      have hsh := shr1B s
      have hx2 := xorB (s / 2) 40961 (by omega) (by decide)
      have hsl2 := stepN_lt hsl
      conv => whnf
      refine ⟨by decide, ?_⟩
      conv => whnf
      refine br_i (fun h => ?_) (fun h => ?_)
      · have h1 : s % 2 = 1 := by rw [ha] at h; simp at h; omega
        conv => whnf
        exact ⟨(j + 1, stepN s), ⟨⟨hj8, hsl2, hst⟩, by show 8 - (j + 1) < 8 - j; omega⟩, le_mk [] rfl ⟨⟨rfl, rfl⟩, ⟨i64_eq (by rw [hsh]; exact hx2.trans (by simp [stepN, h1])), rfl⟩, ⟨rfl, rfl⟩, ⟨ctr (by omega), rfl⟩, trivial⟩ trivial rfl⟩
      · have h1 : s % 2 ≠ 1 := by rw [ha] at h; simp at h; omega
        conv => whnf
        exact ⟨(j + 1, stepN s), ⟨⟨hj8, hsl2, hst⟩, by show 8 - (j + 1) < 8 - j; omega⟩, le_mk [] rfl ⟨⟨rfl, rfl⟩, ⟨i64_eq (by rw [hsh]; simp [stepN, h1]), rfl⟩, ⟨rfl, rfl⟩, ⟨ctr (by omega), rfl⟩, trivial⟩ trivial rfl⟩
    · have hj8 : j = 8 := by simp at h; omega
      subst hj8
      have hr2 : s = crcN 65535 (l.take (k + 1)) := by rw [← e2, ← hr]; rfl
      conv => whnf
      exact ⟨k + 1, ⟨hlt, by omega⟩, le_mk [] rfl ⟨⟨rfl, rfl⟩, ⟨i64_eq (by rw [hr2]), rfl⟩, ⟨ctr (by omega), rfl⟩, trivial⟩ trivial rfl⟩
  · have hk2 : k = l.length := by simp at h; omega
    subst hk2
    conv => whnf
    refine leaf_i rfl rfl ?_
    rw [List.take_length]
    rfl
theorem m_Crc (l : List Int) (hb : isBytes l) (hl : l.length ≤ 1048576) : PureC Try.prog 82 [bytesV l] [i64v (crcN 65535 l : Nat)] := by
  refine pureC_of (Γ := lookT tbl) (il := ilist) tg dr Try.func82 rfl (by kernel_rfl) rfl (Nat.le_of_ble_eq_true rfl) ?_
  conv => whnf
  refine loop_i (fun k : Nat => ⟨envL [(3, .c (.pv (.int .i64 (crcN 65535 (l.take k) : Nat)))), (7, .c (.pv (bytesP l))), (8, .c (.pv (.int .i64 l.length))), (9, .c (.pv (.int .i64 k)))], resL [], 0, 30⟩) (fun k => k ≤ l.length) (fun k => l.length - k) 0 (Nat.zero_le _) (le_mk [] rfl ⟨⟨i64_eq (by simp [crcN]), rfl⟩, ⟨rfl, rfl⟩, ⟨i64_eq (by simp), rfl⟩, ⟨rfl, rfl⟩, trivial⟩ trivial rfl) ?_
  intro k hk
  conv => whnf
  refine br_i (fun h => ?_) (fun h => ?_)
  · have hlt : k < l.length := by simpa using h
    have hx := hb l[k] (List.getElem_mem _)
    have hs := crcN_lt (l.take k) 65535 (fun x hx => hb x (List.mem_of_mem_take hx)) (by decide)
    have e0 : IntKind.i64.wrap l[k] = ((l[k].toNat : Nat) : Int) := (wrap_ok (by omega) (by omega)).trans (by omega)
    have e1 := xorB (crcN 65535 (l.take k)) l[k].toNat (by omega) (by omega)
    have e2 : roundsN 8 (crcN 65535 (l.take k) ^^^ l[k].toNat) = crcN 65535 (l.take (k + 1)) := by
      unfold crcN
      rw [List.take_succ_eq_append_getElem hlt, List.foldl_append]
      rfl
    have hs1 : crcN 65535 (l.take k) ^^^ l[k].toNat < 65536 := xor16 hs (by omega)
    generalize crcN 65535 (l.take k) ^^^ l[k].toNat = s0 at *
    conv => whnf
    refine ⟨_, idx_map l byteEl k hlt 1, ?_⟩
    conv => whnf
    refine loop_i (fun x : Nat × Nat => ⟨envL [(3, .c (.pv (.int .i64 (x.2 : Nat)))), (7, .c (.pv (bytesP l))), (8, .c (.pv (.int .i64 l.length))), (9, .c (.pv (.int .i64 k))), (17, .c (.pv (.int .i64 x.1)))], resL [], 0, 30⟩) (fun x => x.1 ≤ 8 ∧ x.2 < 65536 ∧ roundsN (8 - x.1) x.2 = roundsN 8 s0) (fun x => 8 - x.1) (0, s0) ⟨Nat.zero_le 8, hs1, rfl⟩ (le_mk [] rfl ⟨⟨i64_eq (by rw [e0]; exact e1), rfl⟩, ⟨rfl, rfl⟩, ⟨rfl, rfl⟩, ⟨rfl, rfl⟩, ⟨rfl, rfl⟩, trivial⟩ trivial rfl) ?_
    intro ⟨j, s⟩ ⟨hj, hsl, hr⟩
    dsimp only at hj hsl hr ⊢
    conv => whnf
    refine br_i (fun h => ?_) (fun h => ?_)
    · have hj8 : j < 8 := by simp at h; omega
      have hst : roundsN (8 - (j + 1)) (stepN s) = roundsN 8 s0 := by rw [← hr, show 8 - j = (8 - (j + 1)) + 1 by omega]; rfl
      have ha := and1B s (by omega)
      have hsh := shr1B s
      have hx2 := xorB (s / 2) 40961 (by omega) (by decide)
      have hsl2 := stepN_lt hsl
      conv => whnf
      refine ⟨by decide, ?_⟩
      conv => whnf
      refine br_i (fun h => ?_) (fun h => ?_)
      · have h1 : s % 2 = 1 := by rw [ha] at h; simp at h; omega
        conv => whnf
        exact ⟨(j + 1, stepN s), ⟨⟨hj8, hsl2, hst⟩, by show 8 - (j + 1) < 8 - j; omega⟩, le_mk [] rfl ⟨⟨i64_eq (by rw [hsh]; exact hx2.trans (by simp [stepN, h1])), rfl⟩, ⟨rfl, rfl⟩, ⟨rfl, rfl⟩, ⟨rfl, rfl⟩, ⟨ctr (by omega), rfl⟩, trivial⟩ trivial rfl⟩
      · have h1 : s % 2 ≠ 1 := by rw [ha] at h; simp at h; omega
        conv => whnf
        exact ⟨(j + 1, stepN s), ⟨⟨hj8, hsl2, hst⟩, by show 8 - (j + 1) < 8 - j; omega⟩, le_mk [] rfl ⟨⟨i64_eq (by rw [hsh]; simp [stepN, h1]), rfl⟩, ⟨rfl, rfl⟩, ⟨rfl, rfl⟩, ⟨rfl, rfl⟩, ⟨ctr (by omega), rfl⟩, trivial⟩ trivial rfl⟩
    · have hj8 : j = 8 := by simp at h; omega
      subst hj8
      have hr2 : s = crcN 65535 (l.take (k + 1)) := by rw [← e2, ← hr]; rfl
      conv => whnf
      exact ⟨k + 1, ⟨hlt, by omega⟩, le_mk [] rfl ⟨⟨i64_eq (by rw [hr2]), rfl⟩, ⟨rfl, rfl⟩, ⟨rfl, rfl⟩, ⟨ctr (by omega), rfl⟩, trivial⟩ trivial rfl⟩
  · have hk2 : k = l.length := by simp at h; omega
    subst hk2
    conv => whnf
    refine leaf_i rfl rfl ?_
    rw [List.take_length]
    rfl
/-- What is read of bytes: a unit, a text, a code. -/
def getRtu (l : List Int) : Int × List Int × Int :=
  if l.length < 4 then (0, [], 1) else if 256 < l.length then (0, [], 2) else
  if ((crcN 65535 (l.take (l.length - 2)) % 256 : Nat) : Int) = bAt l (l.length - 2) ∧ ((crcN 65535 (l.take (l.length - 2)) / 256 : Nat) : Int) = bAt l (l.length - 1) then (bAt l 0, cutL l 1 (l.length - 2), 0) else (0, [], 3)
theorem shr8B (a : Nat) : Int.fdiv (a : Int) (2 ^ min (Int.toNat 8) IntKind.i64.bits) = ((a / 256 : Nat) : Int) := by
  show Int.fdiv (a : Int) 256 = _
  rw [Int.fdiv_eq_ediv_of_nonneg _ (by decide)]
  omega
theorem u8w (a : Nat) (h : a < 65536) : IntKind.u8.wrap (a : Int) = ((a % 256 : Nat) : Int) := by
  simp only [IntKind.wrap, IntKind.signed, IntKind.bits]
  simp
theorem s_GetRtu (l : List Int) (hb : isBytes l) (hl : l.length ≤ 1048576) : PureC Try.prog 102 [bytesV l] [i64v (getRtu l).1, bytesV (getRtu l).2.1, i64v (getRtu l).2.2] := by
  refine pureC_of (Γ := lookT tbl) (il := ilist) tg dr Try.func102 rfl (by kernel_rfl) rfl (Nat.le_of_ble_eq_true rfl) ?_
  (repeat' ((conv => whnf); first | refine br_i (fun _ => ?_) (fun _ => ?_) | (refine cur_leaf rfl rfl rfl ?_ ?_; · first | assumption | omega | exact hw ‹_›) | refine leaf_i rfl rfl ?_ | refine And.intro rfl ?_ | (refine And.intro ?_ ?_; · decide)))
  · rename_i h; have : l.length < 4 := by simp at h; omega
    unfold getRtu; rw [if_pos this]; rfl
  · rename_i h h2; have : ¬ l.length < 4 ∧ 256 < l.length := by simp at h h2; omega
    unfold getRtu; rw [if_neg this.1, if_pos this.2]; rfl
  rename_i h h2
  have h4 : ¬ l.length < 4 ∧ ¬ 256 < l.length := by simp at h h2; omega
  clear h h2
  obtain ⟨h4, h5⟩ := h4
  have hw : IntKind.i64.wrap (((l.map byteEl).length : Int) - 2) = (l.length : Int) - 2 := by rw [List.length_map]; exact wrap_ok (by omega) (by omega)
  have hw1 : IntKind.i64.wrap (((l.map byteEl).length : Int) - 1) = (l.length : Int) - 1 := by rw [List.length_map]; exact wrap_ok (by omega) (by omega)
  have hs := crcN_lt (l.take (l.length - 2)) 65535 (fun x hx => hb x (List.mem_of_mem_take hx)) (by decide)
  have hc := s_Crc (l.take (l.length - 2)) (fun x hx => hb x (List.mem_of_mem_take hx)) (by rw [List.length_take]; omega)
  have h0 : 0 ≤ bAt l 0 ∧ bAt l 0 < 256 := by
    have := hb (l[0]'(by omega)) (List.getElem_mem _)
    simpa [bAt, List.getD, List.getElem?_eq_getElem (show 0 < l.length by omega)] using this
  have hw0 : IntKind.i64.wrap (bAt l 0) = bAt l 0 := wrap_ok (by omega) (by omega)
  unfold getRtu
  rw [if_neg h4, if_neg h5]
  generalize crcN 65535 (l.take (l.length - 2)) = c at *
  have u1 := u8w c hs
  have u2 := u8w (c / 256) (by omega)
  have sh := shr8B c
  conv => whnf
  refine ⟨_, cut_to byteEl 1 l _ (l.length - 2) (by rw [hw]; omega) (by omega), ?_⟩
  conv => whnf
  refine call_i hc ?_
  conv => whnf
  refine ⟨_, idx_b l _ (by rw [hw]; omega), ?_⟩
  conv => whnf
  refine br_i (fun h => ?_) (fun h => ?_)
  · rw [hw, u1] at h
    have h1 : ¬ (((c % 256 : Nat) : Int) = bAt l ((l.length : Int) - 2)) := by intro e; rw [e] at h; simp at h
    (repeat' ((conv => whnf); first | refine br_i (fun _ => ?_) (fun _ => ?_) | (refine cur_leaf rfl rfl rfl ?_ ?_; · first | assumption | omega | exact hw ‹_›) | refine leaf_i rfl rfl ?_ | refine And.intro rfl ?_ | (refine And.intro ?_ ?_; · decide)))
    rw [if_neg (fun e => h1 e.1)]; rfl
  rw [hw, u1] at h
  have h1 : ((c % 256 : Nat) : Int) = bAt l ((l.length : Int) - 2) := by simp at h; omega
  conv => whnf
  refine ⟨_, idx_b l _ (by rw [hw1]; omega), ?_⟩
  conv => whnf
  refine And.intro (by decide) ?_
  conv => whnf
  refine br_i (fun h => ?_) (fun h => ?_)
  · rw [hw1, sh, u2] at h
    have h2 : ¬ (((c / 256 : Nat) : Int) = bAt l ((l.length : Int) - 1)) := by intro e; rw [← e] at h; simp at h; omega
    (repeat' ((conv => whnf); first | refine br_i (fun _ => ?_) (fun _ => ?_) | (refine cur_leaf rfl rfl rfl ?_ ?_; · first | assumption | omega | exact hw ‹_›) | refine leaf_i rfl rfl ?_ | refine And.intro rfl ?_ | (refine And.intro ?_ ?_; · decide)))
    rw [if_neg (fun e => h2 e.2)]; rfl
  rw [hw1, sh, u2] at h
  have h2 : ((c / 256 : Nat) : Int) = bAt l ((l.length : Int) - 1) := by simp at h; omega
  rw [if_pos ⟨h1, h2⟩]
  conv => whnf
  refine ⟨_, idx_b l 0 (by omega), ?_⟩
  conv => whnf
  refine ⟨_, cut_b byteEl 1 l 1 _ (by rw [hw]; omega), ?_⟩
  conv => whnf
  refine ⟨⟨rfl, flat_byte _⟩, ?_⟩
  conv => whnf
  refine ⟨_, ⟨by have := cutL_len l 1 (IntKind.i64.wrap (((l.map byteEl).length : Int) - 2)) (by rw [hw]; omega); show (0 + ((cutL l 1 (IntKind.i64.wrap (((l.map byteEl).length : Int) - 2))).map byteEl).length) * 1 ≤ 140737488355328; rw [List.length_map]; rw [hw] at this ⊢; omega, rfl⟩, ?_⟩
  conv => whnf
  refine And.intro rfl ?_
  conv => whnf
  refine leaf_i rfl rfl ?_
  rw [hw, hw0]
  rfl
theorem getRtu_impl (l : List Int) (hb : isBytes l) (h4 : ¬ l.length < 4) (h5 : ¬ 256 < l.length) : getRtu l = if crcN 65535 l = 0 then (bAt l 0, cutL l 1 (l.length - 2), 0) else (0, [], 3) := by
  unfold getRtu
  rw [if_neg h4, if_neg h5]
  have hs := crcN_lt (l.take (l.length - 2)) 65535 (fun x hx => hb x (List.mem_of_mem_take hx)) (by decide)
  have hlo := hb (l[l.length - 2]'(by omega)) (List.getElem_mem _)
  have hhi := hb (l[l.length - 1]'(by omega)) (List.getElem_mem _)
  have g2 : bAt l ((l.length : Int) - 2) = l[l.length - 2]'(by omega) := by
    unfold bAt
    rw [show ((l.length : Int) - 2).toNat = l.length - 2 by omega]
    simp [List.getD, List.getElem?_eq_getElem (show l.length - 2 < l.length by omega)]
  have g1 : bAt l ((l.length : Int) - 1) = l[l.length - 1]'(by omega) := by
    unfold bAt
    rw [show ((l.length : Int) - 1).toNat = l.length - 1 by omega]
    simp [List.getD, List.getElem?_eq_getElem (show l.length - 1 < l.length by omega)]
  have hsplit : l = l.take (l.length - 2) ++ [l[l.length - 2]'(by omega), l[l.length - 1]'(by omega)] := by
    have a := List.take_succ_eq_append_getElem (l := l) (i := l.length - 2) (by omega)
    have b := List.take_succ_eq_append_getElem (l := l) (i := l.length - 2 + 1) (by omega)
    rw [List.take_of_length_le (by omega), a] at b
    simp only [List.append_assoc, List.cons_append, List.nil_append, show l.length - 2 + 1 = l.length - 1 by omega] at b
    exact b
  have hc : crcN 65535 l = byteN (byteN (crcN 65535 (l.take (l.length - 2))) (l[l.length - 2]'(by omega)).toNat) (l[l.length - 1]'(by omega)).toNat := by
    conv => lhs; rw [hsplit]
    simp only [crcN, List.foldl_append, List.foldl_cons, List.foldl_nil]
  have hz := crc_ends (s := crcN 65535 (l.take (l.length - 2))) (lo := (l[l.length - 2]'(by omega)).toNat) (hi := (l[l.length - 1]'(by omega)).toNat) hs (by omega) (by omega)
  rw [← hc] at hz
  rw [g2, g1]
  by_cases h : crcN 65535 l = 0
  · have := hz.1 h
    rw [if_pos (by constructor <;> omega), if_pos h]
  · rw [if_neg ?_, if_neg h]
    rintro ⟨h6, h7⟩
    exact h (hz.2 ⟨by omega, by omega⟩)
theorem m_GetRtu (l : List Int) (hb : isBytes l) (hl : l.length ≤ 1048576) : PureC Try.prog 105 [bytesV l] [i64v (getRtu l).1, bytesV (getRtu l).2.1, i64v (getRtu l).2.2] := by
  refine pureC_of (Γ := lookT tbl) (il := ilist) tg dr Try.func105 rfl (by kernel_rfl) rfl (Nat.le_of_ble_eq_true rfl) ?_
  have hw : IntKind.i64.wrap (((l.map byteEl).length : Int) - 2) = (l.length : Int) - 2 := by rw [List.length_map]; exact wrap_ok (by omega) (by omega)
  conv => whnf
  refine br_i (fun h => ?_) (fun h => ?_)
  · rw [hw] at h
    have : l.length < 4 := by simp at h; omega
    (repeat' ((conv => whnf); first | refine br_i (fun _ => ?_) (fun _ => ?_) | (refine cur_leaf rfl rfl rfl ?_ ?_; · first | assumption | omega | exact hw ‹_›) | refine leaf_i rfl rfl ?_ | refine And.intro rfl ?_ | (refine And.intro ?_ ?_; · decide)))
    unfold getRtu; rw [if_pos this]; rfl
  rw [hw] at h
  have h4 : ¬ l.length < 4 := by simp at h; omega
  clear h
  conv => whnf
  refine br_i (fun h => ?_) (fun h => ?_)
  · have : 256 < l.length := by simp at h; omega
    (repeat' ((conv => whnf); first | refine br_i (fun _ => ?_) (fun _ => ?_) | (refine cur_leaf rfl rfl rfl ?_ ?_; · first | assumption | omega | exact hw ‹_›) | refine leaf_i rfl rfl ?_ | refine And.intro rfl ?_ | (refine And.intro ?_ ?_; · decide)))
    unfold getRtu; rw [if_neg h4, if_pos this]; rfl
  have h5 : ¬ 256 < l.length := by simp at h; omega
  clear h
  rw [getRtu_impl l hb h4 h5]
  have h0 : 0 ≤ bAt l 0 ∧ bAt l 0 < 256 := by
    have := hb (l[0]'(by omega)) (List.getElem_mem _)
    simpa [bAt, List.getD, List.getElem?_eq_getElem (show 0 < l.length by omega)] using this
  have hw0 : IntKind.i64.wrap (bAt l 0) = bAt l 0 := wrap_ok (by omega) (by omega)
  have hc := m_Crc l hb hl
  generalize crcN 65535 l = c at *
  conv => whnf
  refine call_i hc ?_
  conv => whnf
  refine br_i (fun h => ?_) (fun h => ?_)
  · (repeat' ((conv => whnf); first | refine br_i (fun _ => ?_) (fun _ => ?_) | (refine cur_leaf rfl rfl rfl ?_ ?_; · first | assumption | omega | exact hw ‹_›) | refine leaf_i rfl rfl ?_ | refine And.intro rfl ?_ | (refine And.intro ?_ ?_; · decide)))
    rw [if_neg (by simp at h; omega)]; rfl
  rw [if_pos (by simp at h; omega)]
  conv => whnf
  refine ⟨_, idx_b l 0 (by omega), ?_⟩
  conv => whnf
  refine ⟨_, cut_b byteEl 1 l 1 _ (by rw [hw]; omega), ?_⟩
  conv => whnf
  refine call_i (m_Clone _ (by have := cutL_len l 1 (IntKind.i64.wrap (((l.map byteEl).length : Int) - 2)) (by rw [hw]; omega); rw [hw] at this ⊢; omega)) ?_
  conv => whnf
  refine And.intro rfl ?_
  conv => whnf
  refine leaf_i rfl rfl ?_
  rw [hw, hw0]
  rfl

end Go.Proofs.Ytoccphgempbdeaa
