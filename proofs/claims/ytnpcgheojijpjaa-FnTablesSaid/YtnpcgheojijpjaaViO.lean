/- Loops: a state told anew: what is still of use, under new names. -/
import Derived.Test.YtnpcgheojijpjaaViT
set_option linter.unusedVariables false
set_option linter.unusedSimpArgs false
namespace Go.Vi
open Go.RowKit
def lookN (l : List (Nat × Nat)) (t : Nat) : Nat :=
  match l with
  | [] => t
  | (k, v) :: l => bif Nat.beq k t then v else lookN l t
def envL : List (Nat × AV) → Nat → AV
  | [], _ => .c .undef
  | (k, v) :: l, t => bif Nat.beq k t then v else envL l t
def resL : List (Nat × ARes) → Nat → Option ARes
  | [], _ => none
  | (k, v) :: l, t => bif Nat.beq k t then some v else resL l t
def renC (π : List (Nat × Nat)) : AC → AC
  | .row t => .row (lookN π t)
  | .ptr t off => .ptr (lookN π t) off
  | .rel t sz i j => .rel (lookN π t) sz i j
  | .fn f caps => .fn f (caps.map (lookN π))
  | a => a
def renL (π : List (Nat × Nat)) : List AC → List AC
  | [] => []
  | a :: l => renC π a :: renL π l
def renV (π : List (Nat × Nat)) : AV → AV
  | .c a => .c (renC π a)
  | .agg cs => .agg (renL π cs)
  | .tup vs => .tup vs
def renR (π : List (Nat × Nat)) : ARes → ARes
  | .box cs => .box (renL π cs)
  | .row own sz xs => .row own sz xs
  | .ro sz xs => .ro sz xs
  | .fro sz xs => .fro sz xs
  | .tl sz t => .tl sz t
  | .opn sz cs => .opn sz (renL π cs)
  | .raw sz xs => .raw sz xs
  | .hol sz i xs cs => .hol sz i xs (renL π cs)
  | .gho xs xo => .gho xs xo
  | .env l => .env l
/-- All tokens that are spoken of have names below the next. -/
def okC (nx : Nat) : AC → Bool
  | .row t | .ptr t _ | .rel t _ _ _ => Nat.blt t nx
  | .fn _ caps => caps.all fun t => Nat.blt t nx
  | _ => true
def okV (nx : Nat) : AV → Bool
  | .c a => okC nx a
  | .agg cs => cs.all (okC nx)
  | .tup _ => false
def okR (nx : Nat) : ARes → Bool
  | .box cs => cs.all (okC nx)
  | .tl .. => false
  | .opn _ cs => cs.all (okC nx)
  | .hol _ _ _ cs => cs.all (okC nx)
  | _ => true
def envLe (env : Nat → AV) (π : List (Nat × Nat)) (nx : Nat) : List (Nat × AV) → Prop
  | [] => True
  | (t, v) :: l => (env t = renV π v ∧ okV nx v = true) ∧ envLe env π nx l
def notEnv : ARes → Bool
  | .env _ => false
  | _ => true
/-- A frame that was put aside keeps its name. -/
def resLe1 (res : Res) (π : List (Nat × Nat)) (nx t : Nat) (r : ARes) : Prop :=
  match r with
  | .env l => (lookN π t = t ∧ Nat.blt t nx = true) ∧ ∃ l0, res t = some (.env l0) ∧ envLe (envL l0) π nx l
  | r => res (lookN π t) = some (renR π r) ∧ (Nat.blt t nx && okR nx r) = true
def resLe (res : Res) (π : List (Nat × Nat)) (nx : Nat) : List (Nat × ARes) → Prop
  | [] => True
  | (t, r) :: l => resLe1 res π nx t r ∧ resLe res π nx l
def injB (π : List (Nat × Nat)) (l : List (Nat × ARes)) : Bool := nodupB (l.map fun x => lookN π x.1)
theorem nblt {a b : Nat} (h : Nat.blt a b = true) : a < b := Nat.le_of_ble_eq_true h
theorem envL_mem : ∀ {l : List (Nat × AV)} {t : Nat}, envL l t = .c .undef ∨ (t, envL l t) ∈ l
  | [], t => .inl rfl
  | (k, v) :: l, t => by
    unfold envL
    cases hb : Nat.beq k t with
    | true => rw [Nat.eq_of_beq_eq_true hb]; exact .inr (by simp)
    | false =>
      rcases envL_mem (l := l) (t := t) with h | h
      · exact .inl (by simpa using h)
      · exact .inr (List.mem_cons_of_mem _ (by simpa using h))
theorem resL_mem : ∀ {l : List (Nat × ARes)} {t : Nat} {r : ARes}, resL l t = some r → (t, r) ∈ l
  | [], t, r, h => by simp [resL] at h
  | (k, v) :: l, t, r, h => by
    unfold resL at h
    cases hb : Nat.beq k t with
    | true =>
      simp [hb] at h
      subst h
      rw [Nat.eq_of_beq_eq_true hb]
      simp
    | false =>
      simp [hb] at h
      exact List.mem_cons_of_mem _ (resL_mem h)
theorem envLe_mem {env : Nat → AV} {π : List (Nat × Nat)} {nx : Nat} : ∀ {l : List (Nat × AV)}, envLe env π nx l → ∀ {t v}, (t, v) ∈ l → env t = renV π v ∧ okV nx v = true
  | [], _, t, v, h => by simp at h
  | (k, x) :: l, h, t, v, hm => by
    rcases List.mem_cons.1 hm with hm | hm
    · cases hm; exact h.1
    · exact envLe_mem h.2 hm
theorem resLe_mem {res : Res} {π : List (Nat × Nat)} {nx : Nat} : ∀ {l : List (Nat × ARes)}, resLe res π nx l → ∀ {t r}, (t, r) ∈ l → resLe1 res π nx t r
  | [], _, t, v, h => by simp at h
  | (k, x) :: l, h, t, v, hm => by
    rcases List.mem_cons.1 hm with hm | hm
    · cases hm; exact h.1
    · exact resLe_mem h.2 hm
theorem inj_mem {π : List (Nat × Nat)} : ∀ {l : List (Nat × ARes)}, (l.map fun x => lookN π x.1).Nodup → ∀ {t t' : Nat} {r r' : ARes}, (t, r) ∈ l → (t', r') ∈ l → lookN π t = lookN π t' → t = t'
  | [], _, t, t', r, r', h, _, _ => by simp at h
  | (k, x) :: l, hn, t, t', r, r', h, h', he => by
    rw [List.map_cons, List.nodup_cons] at hn
    rcases List.mem_cons.1 h with h | h <;> rcases List.mem_cons.1 h' with h' | h'
    · cases h; cases h'; rfl
    · cases h
      exact absurd (List.mem_map.2 ⟨(t', r'), h', he.symm⟩) hn.1
    · cases h'
      exact absurd (List.mem_map.2 ⟨(t, r), h, he⟩) hn.1
    · exact inj_mem hn.2 h h' he
theorem renL_eq (π : List (Nat × Nat)) (l : List AC) : renL π l = l.map (renC π) := by
  induction l with
  | nil => rfl
  | cons a l ih => simp [renL, ih]
def G.ren (g : G) (π : List (Nat × Nat)) (nx : Nat) : G := ⟨fun t => g.σ (lookN π t), fun t => g.D (lookN π t), g.S, fun t => t < nx ∧ g.U (lookN π t), g.fr⟩
section
variable {dm : Bool} {g : G} {w0 : Base} {w : World} {π : List (Nat × Nat)} {nx : Nat}
theorem RepPtr.ren {t off : Nat} {v : Value} (h : RepPtr g (lookN π t) off v) (ht : t < nx) : RepPtr (g.ren π nx) t off v := ⟨⟨ht, h.1⟩, h.2⟩
theorem RepC.ren {a : AC} {v : Value} (h : RepC g w (renC π a) v) (hok : okC nx a = true) : RepC (g.ren π nx) w a v := by
  cases a with
  | pv p => exact h
  | nil sz => exact h
  | row t => exact ⟨⟨nblt hok, h.1⟩, h.2⟩
  | ptr t off => exact RepPtr.ren h (nblt hok)
  | rel t sz i j => exact ⟨⟨nblt hok, h.1⟩, h.2⟩
  | el c => exact h
  | fn f caps =>
    obtain ⟨vs, hv, hl, hc⟩ := h
    refine ⟨vs, hv, by simpa using hl, fun j t ht => ?_⟩
    obtain ⟨u, hu, hr⟩ := hc j (lookN π t) (by simp [ht])
    exact ⟨u, hu, hr.ren (nblt (List.all_eq_true.1 hok t (List.mem_of_getElem? ht)))⟩
  | clo f caps => exact h
  | undef => trivial
  | void => exact h
theorem RepCs.ren {cs : List AC} {vs : List Value} (h : RepCs g w (renL π cs) vs) (hok : cs.all (okC nx) = true) : RepCs (g.ren π nx) w cs vs := by
  rw [renL_eq] at h
  refine ⟨by simpa using h.1, fun j a ha => ?_⟩
  obtain ⟨u, hu, h1, hr⟩ := h.2 j (renC π a) (by simp [ha])
  exact ⟨u, hu, h1, hr.ren (List.all_eq_true.1 hok a (List.mem_of_getElem? ha))⟩
theorem RepAV.ren {a : AV} {v : Value} (h : RepAV g w (renV π a) v) (hok : okV nx a = true) : RepAV (g.ren π nx) w a v := by
  cases a with
  | c a => exact RepC.ren h hok
  | agg cs =>
    obtain ⟨vs, hv, hr⟩ := h
    exact ⟨vs, hv, hr.ren hok⟩
  | tup vs => cases hok
theorem mut_ren {v : Value} {r : ARes} {x : Nat} : Mut dm v (renR π r) x ↔ Mut dm v r x := by cases r <;> exact Iff.rfl
theorem resLe1_key {res : Res} {t : Nat} {r : ARes} (h : resLe1 res π nx t r) : ∃ r', res (lookN π t) = some r' ∧ t < nx ∧ (∀ (dm : Bool) (v : Value) (x : Nat), Mut dm v r' x ↔ Mut dm v r x) ∧ ∀ (g : G) (w : World), TokOk g w (lookN π t) r' → TokOk (g.ren π nx) w t r := by
  unfold resLe1 at h
  split at h
  · rename_i l
    obtain ⟨⟨h1, h2⟩, l0, h3, h4⟩ := h
    rw [h1]
    refine ⟨_, h3, nblt h2, fun _ _ _ => Iff.rfl, fun g w htok k v hk => ?_⟩
    obtain ⟨h5, h6⟩ := envLe_mem h4 hk
    have h7 : RepAV g w (renV π v) (g.fr t k) := by
      rw [← h5]
      rcases envL_mem (l := l0) (t := k) with h | h
      · rw [h]; trivial
      · exact htok k _ h
    exact h7.ren h6
  · rw [Bool.and_eq_true] at h
    refine ⟨_, h.1, nblt h.2.1, fun _ _ _ => mut_ren, fun g w htok => ?_⟩
    cases r with
    | box cs =>
      obtain ⟨b, ty, vs, hv, hb, hh, hcs⟩ := htok
      exact ⟨b, ty, vs, hv, hb, hh, hcs.ren h.2.2⟩
    | row own sz xs => exact htok
    | ro sz xs => exact htok
    | fro sz xs => exact htok
    | tl sz t => exact absurd h.2.2 (by simp [okR])
    | opn sz cs =>
      obtain ⟨b, q, c, us, h1, h2, h3, h4, h5⟩ := htok
      exact ⟨b, q, c, us, h1, h2, by rw [renL_eq, List.length_map] at h3; exact h3, h4.ren h.2.2, h5⟩
    | raw sz xs => exact htok
    | gho xs xo => exact htok
    | hol sz i xs cs =>
      have htok : HolOk g w (g.D (lookN π t)) sz i xs (renL π cs) (g.σ (lookN π t)) := htok
      rw [renL_eq] at htok
      exact HolOk.mono htok (fun _ _ => rfl) (by simp) fun j a u hj hr => (hr (renC π a) (by rw [List.getElem?_map, hj]; rfl)).ren (List.all_eq_true.1 h.2.2 a (List.mem_of_getElem? hj))
    | env l => rename_i hne; exact absurd rfl (hne l)
/-- A state that stands for less: some slots, some tokens, under other names. -/
theorem le_mk {s : AS} {n : Nat} (π : List (Nat × Nat)) {le : List (Nat × AV)} {lr : List (Nat × ARes)} (hn : s.n = n) (he : envLe s.env π nx le) (hr : resLe s.res π nx lr) (hi : injB π lr = true) (hd : dm = false := by rfl) : Le dm s ⟨envL le, resL lr, nx, n⟩ := by
  intro w0 g w a hS
  have hinj := nodupB_ok hi
  refine ⟨g.ren π nx, ⟨?_, fun t => ?_, by rw [hS.size]; exact hn, hS.defers, fun x hx => hx.1, fun h => (by rw [hd] at h; cases h), hS.pinF⟩⟩
  · have hM := hS.mod
    have key : ∀ t r, resL lr t = some r → ∃ r', s.res (lookN π t) = some r' ∧ t < nx ∧ (∀ (dm : Bool) (v : Value) (x : Nat), Mut dm v r' x ↔ Mut dm v r x) ∧ ∀ (g : G) (w : World), TokOk g w (lookN π t) r' → TokOk (g.ren π nx) w t r := fun t r h => resLe1_key (resLe_mem hr (resL_mem h))
    refine ⟨hM.below, hM.sBase, hM.sLt, fun t r h => ?_, fun t r x h hx => ?_, fun t t' r r' x h h' hx hx' => ?_, fun t r x h hx hm => ?_, fun hdm t r x h hx hm => ?_⟩
    · obtain ⟨r', h1, h2, h3, h4⟩ := key t r h
      exact ⟨⟨h2, (hM.tok _ _ h1).1⟩, h4 _ _ (hM.tok _ _ h1).2⟩
    · obtain ⟨r', h1, h2, h3, h4⟩ := key t r h
      exact hM.dNew _ _ x h1 hx
    · obtain ⟨_, h1, _⟩ := key t r h
      obtain ⟨_, h2, _⟩ := key t' r' h'
      exact inj_mem hinj (resL_mem h) (resL_mem h') (hM.dApart _ _ _ _ x h1 h2 hx hx')
    · obtain ⟨r', h1, h2, h3, h4⟩ := key t r h
      exact hM.sMut _ _ x h1 hx ((h3 _ _ _).2 hm)
    · obtain ⟨r', h1, h2, h3, h4⟩ := key t r h
      exact hM.sFro hdm _ _ x h1 hx (fun hq => hm ((h3 _ _ _).1 hq))
  · rcases envL_mem (l := le) (t := t) with h | h
    · show RepAV _ w (envL le t) _
      rw [h]
      trivial
    · obtain ⟨h1, h2⟩ := envLe_mem he h
      have h3 := hS.env t
      rw [h1] at h3
      exact h3.ren h2
theorem loop_i {ι : Type} {body : AS → (AX → AS → Prop) → Prop} {s : AS} {K : AX → AS → Prop} (sh : ι → AS) (inv : ι → Prop) (μ : ι → Nat) (i : ι) (hi : inv i) (hle : Le dm s (sh i))
    (h : ∀ i, inv i → body (sh i) fun e s' => match e with
      | .normal => ∃ i', (inv i' ∧ μ i' < μ i) ∧ Le dm s' (sh i')
      | .exit j => K (.exit j) s'
      | .ret => K .ret s') : LoopA dm body s K := ⟨ι, sh, inv, μ, ⟨i, hi, hle⟩, h⟩
theorem and4_i {a b c : Prop} (h1 : a) (h2 : b) (h3 : c) : (a ∧ b) ∧ c := ⟨⟨h1, h2⟩, h3⟩
theorem wrap_ok {x : Int} (h : -9223372036854775808 ≤ x) (h2 : x ≤ 9223372036854775807) : IntKind.i64.wrap x = x := by
  simp only [IntKind.wrap, IntKind.signed, IntKind.bits]
  simp
  omega
end
/-! ### Steps of a proof -/
theorem idx_map {α : Type} (l : List α) (f : α → List PV) (k : Nat) (h : k < l.length) (sz : Nat) : (0 ≤ (k : Int) ∧ (l.map f)[(k : Int).toNat]? = some (f l[k])) ∧ sz = sz := by
  simp [h]
theorem ctr {n : Nat} (h : n < 9223372036854775807) : AV.c (.pv (.int .i64 (IntKind.i64.wrap ((n : Int) + 1)))) = .c (.pv (.int .i64 ((n + 1 : Nat) : Int))) := by
  rw [wrap_ok (by omega) (by omega)]
  simp
theorem set_map {α : Type} (f : α → PV) (l : List α) (k : Nat) (x : α) : (l.set k x).map (fun b => [f b]) = setAt (l.map fun b => [f b]) k 0 (f x) := by
  apply List.ext_getElem?
  intro i
  simp only [setAt, List.getElem?_map, List.getElem?_set, List.getElem?_modify]
  by_cases h : k = i
  · subst h
    by_cases h2 : k < l.length
    · simp [h2]
    · simp [h2, List.getElem?_eq_none (Nat.le_of_not_lt h2)]
  · simp [h]
/-- A row that is filled from its begin on. -/
def fillK {α : Type} (z : α) (l : List α) (k : Nat) : List α := l.take k ++ List.replicate (l.length - k) z
theorem fillK_len {α : Type} (z : α) (l : List α) (k : Nat) (h : k ≤ l.length) : (fillK z l k).length = l.length := by simp [fillK]; omega
theorem fillK_set {α : Type} (z : α) (l : List α) (k : Nat) (h : k < l.length) : (fillK z l k).set k l[k] = fillK z l (k + 1) := by
  unfold fillK
  rw [List.set_append_right _ _ (by simp; omega)]
  rw [List.length_take, Nat.min_eq_left (by omega), Nat.sub_self]
  rw [show l.length - k = (l.length - (k + 1)) + 1 by omega, List.replicate_succ, List.set_cons_zero, List.take_succ_eq_append_getElem h, List.append_assoc]
  rfl
theorem fillK_all {α : Type} (z : α) (l : List α) : fillK z l l.length = l := by simp [fillK]
theorem fillK_zero {α : Type} (z : α) (l : List α) : fillK z l 0 = List.replicate l.length z := by simp [fillK]
end Go.Vi
