/- Lemmas on numbers, lists and rounds for the pure side of the laws. No program in sight. -/
import Derived.Laws.BitsLemmas
import Derived.Test.YtjjfjeoajhdlcaaWWords
import Derived.Test.YtjjfjeoajhdlcaaWLast
set_option linter.unusedVariables false
namespace Go.Proofs.YtjjfjeoajhdlcaaW.Pure
open Go.Proofs.YtjjfjeoajhdlcaaW.PrintWords Go.RowKit
section ev
variable {α β : Type}
theorem Ev.pos {c : Prop} [Decidable c] {a b : Nat → Option α} {r : α} (h : c) (k : Ev a r) : Ev (fun n => if c then a n else b n) r := Ev.congr (fun n => if_pos h) k
theorem Ev.neg {c : Prop} [Decidable c] {a b : Nat → Option α} {r : α} (h : ¬ c) (k : Ev b r) : Ev (fun n => if c then a n else b n) r := Ev.congr (fun n => if_neg h) k
theorem Ev.ite {c : Prop} [Decidable c] {a b : Nat → Option α} {r : α} (k : c → Ev a r) (k2 : ¬ c → Ev b r) : Ev (fun n => if c then a n else b n) r := by
  by_cases h : c
  · exact Ev.pos h (k h)
  · exact Ev.neg h (k2 h)
theorem Ev.call {g : Option α} {r : α} (h : g = some r) : Ev (fun _ => g) r := ⟨0, fun _ _ => h⟩
theorem Ev.then {g : Option α} {f : Nat → α → Option β} {a : α} {r : β} (h : g = some a) (k : Ev (fun n => f n a) r) : Ev (fun n => g.bind (f n)) r := Ev.bind (Ev.call h) k
theorem Ev.eq {g : Nat → Option α} {r r' : α} (h : Ev g r) (e : r = r') : Ev g r' := e ▸ h
/-- A loop's rounds, one behind the other. -/
theorem Ev.down {r : α} (n : Nat) (g : Nat → Nat → Option α) (hs : ∀ i, i < n → Ev (g (i + 1)) r → Ev (g i) r) (he : Ev (g n) r) : Ev (g 0) r := by
  have key : ∀ d i, i + d = n → Ev (g i) r := by
    intro d
    induction d with
    | zero => intro i h; obtain rfl : i = n := by omega
              exact he
    | succ d ih => intro i h; exact hs i (by omega) (ih (i + 1) (by omega))
  exact key n 0 (by omega)
theorem Ev.upto {r : α} (n : Nat) (g : Nat → Nat → Option α) (hs : ∀ i k, i < n → g i (k + 1) = g (i + 1) k) (he : ∀ k, g n (k + 1) = some r) : Ev (g 0) r :=
  Ev.down n g (fun i hi h => Ev.step (fun k => hs i k hi) h) (Ev.step (f := fun _ => some r) he (Ev.now r))
end ev

theorem wrap_id {x : Int} (h : -9223372036854775808 ≤ x) (h2 : x ≤ 9223372036854775807) : wrap64 x = x := by unfold wrap64; omega
theorem wf_i64 {x : Int} (h : (Lit.int .i64 x).wf = true) : -9223372036854775808 ≤ x ∧ x ≤ 9223372036854775807 := by
  simp [Lit.wf, IntKind.min, IntKind.max, IntKind.signed, IntKind.bits] at h
  omega
theorem wf_u8 {x : Int} (h : (Lit.int .u8 x).wf = true) : 0 ≤ x ∧ x < 256 := by
  simp [Lit.wf, IntKind.min, IntKind.max, IntKind.signed, IntKind.bits] at h
  omega
theorem rd_nat (x : List Int) (i : Nat) (h : i < x.length) : rd x (i : Int) = x[i] := by simp [rd, h]
theorem rdOf_nat {α : Type} (d : α) (x : List α) (i : Nat) (h : i < x.length) : rdOf d x (i : Int) = x[i] := by simp [rdOf, h]

/-! ### copied, marked, held: loops over a row -/
section loops
variable {α : Type}
theorem fill_step (l : List α) (z : α) (i : Nat) (h : i < l.length) : (l.take i ++ List.replicate (l.length - i) z).set i l[i] = l.take (i + 1) ++ List.replicate (l.length - (i + 1)) z := by
  rw [List.set_append_right _ _ (by simp; omega)]
  rw [List.length_take, Nat.min_eq_left (by omega), Nat.sub_self]
  rw [show l.length - i = (l.length - (i + 1)) + 1 by omega, List.replicate_succ, List.set_cons_zero, List.take_succ_eq_append_getElem h, List.append_assoc]
  rfl
theorem fill_len (l : List α) (z : α) (i : Nat) (h : i ≤ l.length) : (l.take i ++ List.replicate (l.length - i) z).length = l.length := by
  simp
  omega
/-- A row copied element by element; an element by a call, or as it is. -/
theorem copy_ev (F : Nat → List α → List α → Int → Option (List α)) (l : List α) (z : α) (hl : l.length ≤ 4611686018427387904)
    (hs : ∀ (a : List α) (i : Nat) (hi : i < l.length), a.length = l.length → Ev (fun k => F k l (a.set i l[i]) (wrap64 ((i : Int) + 1))) l → Ev (fun k => F k l a i) l)
    (he : ∀ (a : List α) (k : Nat), F (k + 1) l a (l.length : Int) = some a) : Ev (fun k => F k l (List.replicate l.length z) 0) l := by
  have h := Ev.down (r := l) l.length (fun i k => F k l (l.take i ++ List.replicate (l.length - i) z) i) (fun i hi h => by
    refine hs _ i hi (fill_len l z i (by omega)) ?_
    rw [fill_step l z i hi, wrap_id (by omega) (by omega)]
    exact h) (Ev.step (f := fun _ => some l) (fun k => by rw [he]; simp) (Ev.now l))
  simpa using h
/-- A row of things made of a row of others, element by element. -/
theorem conv_ev {β : Type} (F : Nat → List α → List β → Int → Option (List β)) (c : α → β) (l : List α) (z : β) (hl : l.length ≤ 4611686018427387904)
    (hs : ∀ (a : List β) (i : Nat) (hi : i < l.length), a.length = l.length → Ev (fun k => F k l (a.set i (c l[i])) (wrap64 ((i : Int) + 1))) (l.map c) → Ev (fun k => F k l a i) (l.map c))
    (he : ∀ (a : List β) (k : Nat), F (k + 1) l a (l.length : Int) = some a) : Ev (fun k => F k l (List.replicate l.length z) 0) (l.map c) := by
  have hm : (l.map c).length = l.length := List.length_map ..
  have h := Ev.down (r := l.map c) l.length (fun i k => F k l ((l.map c).take i ++ List.replicate ((l.map c).length - i) z) i) (fun i hi h => by
    refine hs _ i hi (by rw [fill_len (l.map c) z i (by omega), hm]) ?_
    have e := fill_step (l.map c) z i (by omega)
    rw [List.getElem_map] at e
    rw [e, wrap_id (by omega) (by omega)]
    exact h) (Ev.step (f := fun _ => some (l.map c)) (fun k => by rw [he, hm, Nat.sub_self, List.replicate_zero, List.append_nil, List.take_of_length_le (by omega)]) (Ev.now (l.map c)))
  simpa using h
/-- A row held against itself. -/
theorem same_ev (F : Nat → Int → Option Bool) (l : List α) (hl : l.length ≤ 4611686018427387904)
    (hs : ∀ i : Nat, i < l.length → Ev (fun k => F k (wrap64 ((i : Int) + 1))) true → Ev (fun k => F k i) true) (he : ∀ k, F (k + 1) (l.length : Int) = some true) : Ev (fun k => F k 0) true :=
  Ev.down (r := true) l.length (fun i k => F k i) (fun i hi h => hs i hi (by rw [wrap_id (by omega) (by omega)]; exact h)) (Ev.step (f := fun _ => some true) he (Ev.now true))
/-- What is marked: element by element a number on. -/
def marks (e : Int → α) (n : Nat) (m : Int) : List α := (List.range n).map fun (j : Nat) => e (m + (j : Int))
theorem marks_len (e : Int → α) (n : Nat) (m : Int) : (marks e n m).length = n := by simp [marks]
theorem marks_get (e : Int → α) (n : Nat) (m : Int) (i : Nat) (h : i < (marks e n m).length) : (marks e n m)[i] = e (m + i) := by simp [marks]
theorem marks_step (e : Int → α) (l : List α) (m : Int) (i : Nat) (h : i < l.length) : (marks e i m ++ l.drop i).set i (e (m + i)) = marks e (i + 1) m ++ l.drop (i + 1) := by
  rw [List.set_append_right _ _ (by simp [marks]), marks_len, Nat.sub_self, List.drop_eq_getElem_cons h, List.set_cons_zero]
  simp [marks, List.range_succ]
theorem mark_ev (F : Nat → List α → Int → Int → Option (Int × List α)) (e : Int → α)
    (hs : ∀ (k : Nat) (x : List α) (m : Int) (i : Nat), i < x.length → F (k + 1) x m i = F k (x.set i (e m)) (wrap64 (m + 1)) (wrap64 ((i : Int) + 1)))
    (he : ∀ (k : Nat) (x : List α) (m : Int), F (k + 1) x m (x.length : Int) = some (m, x)) (l : List α) (m : Int) (h0 : 0 ≤ m) (hl : m + l.length ≤ 4611686018427387904) :
    Ev (fun k => F k l m 0) (m + l.length, marks e l.length m) := by
  have h := Ev.upto (r := (m + (l.length : Int), marks e l.length m)) l.length (fun i k => F k (marks e i m ++ l.drop i) (m + i) i) (fun i k hi => by
    have hlen : (marks e i m ++ l.drop i).length = l.length := by simp [marks_len]; omega
    rw [hs k _ _ i (by rw [hlen]; exact hi), marks_step e l m i hi, wrap_id (by omega) (by omega), wrap_id (by omega) (by omega)]
    rw [show m + (i : Int) + 1 = m + ((i + 1 : Nat) : Int) by omega, show (i : Int) + 1 = ((i + 1 : Nat) : Int) by omega]) (fun k => by
    have hlen : (marks e l.length m ++ l.drop l.length).length = l.length := by simp [marks_len]
    have := he k (marks e l.length m ++ l.drop l.length) (m + l.length)
    rw [hlen] at this
    rw [this]
    simp)
  simpa [marks] using h
theorem held_ev (F : Nat → List α → Int → Int → Option Int) (e : Int → α)
    (hs : ∀ (k : Nat) (x : List α) (m : Int) (i : Nat) (h : i < x.length), x[i] = e m → F (k + 1) x m i = F k x (wrap64 (m + 1)) (wrap64 ((i : Int) + 1)))
    (he : ∀ (k : Nat) (x : List α) (m : Int), F (k + 1) x m (x.length : Int) = some m) (n : Nat) (m : Int) (h0 : 0 ≤ m) (hl : m + n ≤ 4611686018427387904) :
    Ev (fun k => F k (marks e n m) m 0) (m + n) := by
  have h := Ev.upto (r := m + (n : Int)) n (fun i k => F k (marks e n m) (m + i) i) (fun i k hi => by
    rw [hs k _ _ i (by rw [marks_len]; exact hi) (marks_get e n m i _), wrap_id (by omega) (by omega), wrap_id (by omega) (by omega)]
    rw [show m + (i : Int) + 1 = m + ((i + 1 : Nat) : Int) by omega, show (i : Int) + 1 = ((i + 1 : Nat) : Int) by omega]) (fun k => by
    have := he k (marks e n m) (m + n)
    rw [marks_len] at this
    exact this)
  simpa using h
end loops
theorem i64_in {n : Int} (h0 : 0 ≤ n) (h1 : n < 2 ^ 32) : IntKind.i64.wrap n = n := by
  rw [IntKind.wrap_i64]
  omega
theorem bits_and64 (a b : Nat) (ha : a < 2 ^ 32) (hb : b < 2 ^ 32) : bits .and .i64 a b = ((a &&& b : Nat) : Int) := (bits_nat .i64 32 (by decide) (fun _ => i64_in) a b ha hb).1
theorem bits_or64 (a b : Nat) (ha : a < 2 ^ 32) (hb : b < 2 ^ 32) : bits .or .i64 a b = ((a ||| b : Nat) : Int) := (bits_nat .i64 32 (by decide) (fun _ => i64_in) a b ha hb).2
theorem bits_xor64 (a b : Nat) (ha : a < 2 ^ 32) (hb : b < 2 ^ 32) : bits .xor .i64 a b = ((a ^^^ b : Nat) : Int) := by
  have ha' : a % 2 ^ IntKind.i64.bits = a := Nat.mod_eq_of_lt (Nat.lt_of_lt_of_le ha (by decide))
  have hb' : b % 2 ^ IntKind.i64.bits = b := Nat.mod_eq_of_lt (Nat.lt_of_lt_of_le hb (by decide))
  simp only [bits, BitVec.ofInt_natCast, BitVec.toNat_xor, BitVec.toNat_ofNat, ha', hb']
  exact i64_in (Int.natCast_nonneg _) (by exact_mod_cast Nat.xor_lt_two_pow ha hb)
theorem bits_and1 (a : Nat) (ha : a < 2 ^ 32) : bits .and .i64 a 1 = ((a % 2 : Nat) : Int) := by
  have := bits_and64 a 1 ha (by decide)
  rw [Nat.and_one_is_mod] at this
  exact this
end Go.Proofs.YtjjfjeoajhdlcaaW.Pure
