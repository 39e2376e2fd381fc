/- Operation by operation: slices: made, read, cut. -/
import Derived.Test.YtnpcgheojijpjaaViG
set_option linter.unusedVariables false
set_option linter.unusedSimpArgs false
namespace Go.Vi
open Go.RowKit
section
variable {P : Program} {Γ : TG} {dm : Bool} {o : Oper} {env : Nat → AV} {res : Res} {id : Nat} {K : KT}
/-- Cells as pure values; what is the call's own is handed over: its tokens. -/
def pvsA (res : Res) : List AC → (List PV → List Nat → Bool → Prop) → Prop
  | [], K => K [] [] true
  | .pv p :: l, K => forceP p fun p => pvsA res l fun ps ts own => K (p :: ps) ts (p.flat && own)
  | .nil sz :: l, K => pvsA res l fun ps ts own => K (.sl sz [] :: ps) ts own
  | .row t :: l, K => (match res t with
    | some (.row o sz xs) => pvsA res l fun ps ts own => K (.sl sz xs :: ps) (t :: ts) (o && own)
    | some (.ro sz xs) => pvsA res l fun ps ts own => K (.sl sz xs :: ps) ts false
    | some (.fro sz xs) => pvsA res l fun ps ts own => K (.sl sz xs :: ps) (t :: ts) own
    | _ => False)
  | _ :: _, _ => False
inductive TakeOk (res : Res) : List AC → List PV → List Nat → Bool → Prop
  | nil : TakeOk res [] [] [] true
  | pv (p : PV) {l ps ts own} : TakeOk res l ps ts own → TakeOk res (.pv p :: l) (p :: ps) ts (p.flat && own)
  | nl (sz : Nat) {l ps ts own} : TakeOk res l ps ts own → TakeOk res (.nil sz :: l) (.sl sz [] :: ps) ts own
  | row (t : Nat) {o sz xs l ps ts own} : res t = some (.row o sz xs) → TakeOk res l ps ts own → TakeOk res (.row t :: l) (.sl sz xs :: ps) (t :: ts) (o && own)
  | ro (t : Nat) {sz xs l ps ts own} : res t = some (.ro sz xs) → TakeOk res l ps ts own → TakeOk res (.row t :: l) (.sl sz xs :: ps) ts false
  | fro (t : Nat) {sz xs l ps ts own} : res t = some (.fro sz xs) → TakeOk res l ps ts own → TakeOk res (.row t :: l) (.sl sz xs :: ps) (t :: ts) own
theorem pvsA_eq : ∀ {l : List AC} {K : List PV → List Nat → Bool → Prop}, pvsA res l K → ∃ ps ts own, TakeOk res l ps ts own ∧ K ps ts own
  | [], K, h => ⟨_, _, _, .nil, h⟩
  | a :: l, K, h => by
    cases a with
    | pv p =>
      obtain ⟨ps, ts, own, ht, hk⟩ := pvsA_eq (forceP_eq (K := fun p => pvsA res l fun ps ts own => K (p :: ps) ts (p.flat && own)) h)
      exact ⟨_, _, _, .pv p ht, hk⟩
    | nil sz =>
      obtain ⟨ps, ts, own, ht, hk⟩ := pvsA_eq (l := l) h
      exact ⟨_, _, _, .nl sz ht, hk⟩
    | row t =>
      unfold pvsA at h
      split at h
      · rename_i o' sz xs hr
        obtain ⟨ps, ts, own, ht, hk⟩ := pvsA_eq (l := l) h
        exact ⟨_, _, _, .row t hr ht, hk⟩
      · rename_i sz xs hr
        obtain ⟨ps, ts, own, ht, hk⟩ := pvsA_eq (l := l) h
        exact ⟨_, _, _, .ro t hr ht, hk⟩
      · rename_i sz xs hr
        obtain ⟨ps, ts, own, ht, hk⟩ := pvsA_eq (l := l) h
        exact ⟨_, _, _, .fro t hr ht, hk⟩
      · exact h.elim
    | _ => exact h.elim
theorem TakeOk.len {l : List AC} {ps : List PV} {ts : List Nat} {own : Bool} (h : TakeOk res l ps ts own) : ps.length = l.length := by
  induction h <;> simp_all
theorem TakeOk.mem {l : List AC} {ps : List PV} {ts : List Nat} {own : Bool} (h : TakeOk res l ps ts own) {t : Nat} (ht : t ∈ ts) : ∃ (_ : Bool) (_ : Nat) (r : ARes), res t = some r ∧ ∃ j : Nat, l[j]? = some (.row t) := by
  induction h with
  | nil => simp at ht
  | pv p _ ih => obtain ⟨o, sz, xs, hr, j, hj⟩ := ih ht; exact ⟨o, sz, xs, hr, j + 1, by simpa using hj⟩
  | nl sz _ ih => obtain ⟨o, sz, xs, hr, j, hj⟩ := ih ht; exact ⟨o, sz, xs, hr, j + 1, by simpa using hj⟩
  | row t' hr _ ih =>
    rcases List.mem_cons.1 ht with rfl | ht
    · exact ⟨true, 0, _, hr, 0, rfl⟩
    · obtain ⟨o, sz, xs, hr, j, hj⟩ := ih ht; exact ⟨o, sz, xs, hr, j + 1, by simpa using hj⟩
  | fro t' hr _ ih =>
    rcases List.mem_cons.1 ht with rfl | ht
    · exact ⟨true, 0, _, hr, 0, rfl⟩
    · obtain ⟨o, sz, xs, hr, j, hj⟩ := ih ht; exact ⟨o, sz, xs, hr, j + 1, by simpa using hj⟩
  | ro t' hr _ ih => obtain ⟨o, sz, xs, hr, j, hj⟩ := ih ht; exact ⟨o, sz, xs, hr, j + 1, by simpa using hj⟩
theorem TakeOk.mem' {l : List AC} {ps : List PV} {ts : List Nat} {own : Bool} (h : TakeOk res l ps ts own) {t : Nat} {j : Nat} (hj : l[j]? = some (.row t)) (hr : ∀ sz xs, res t ≠ some (.ro sz xs)) : t ∈ ts := by
  induction h generalizing j with
  | nil => simp at hj
  | pv p _ ih => cases j with
    | zero => simp at hj
    | succ j => exact ih (by simpa using hj)
  | nl s _ ih => cases j with
    | zero => simp at hj
    | succ j => exact ih (by simpa using hj)
  | row t' hr' _ ih => cases j with
    | zero => simp at hj; subst hj; simp
    | succ j => exact List.mem_cons_of_mem _ (ih (by simpa using hj))
  | ro t' hr' _ ih => cases j with
    | zero => simp at hj; subst hj; exact absurd hr' (hr _ _)
    | succ j => exact ih (by simpa using hj)
  | fro t' hr' _ ih => cases j with
    | zero => simp at hj; subst hj; simp
    | succ j => exact List.mem_cons_of_mem _ (ih (by simpa using hj))
theorem TakeOk.onceR {l : List AC} {ps : List PV} {ts : List Nat} {own : Bool} (h : TakeOk res l ps ts own) (hn : ts.Nodup) {t : Nat} (hr : ∀ sz xs, res t ≠ some (.ro sz xs)) :
    ∀ {j k : Nat}, l[j]? = some (.row t) → l[k]? = some (.row t) → j = k := by
  induction h with
  | nil => intro j k hj; simp at hj
  | pv p _ ih =>
    intro j k hj hk
    cases j <;> cases k <;> simp at hj hk
    rw [ih hn hj hk]
  | nl s _ ih =>
    intro j k hj hk
    cases j <;> cases k <;> simp at hj hk
    rw [ih hn hj hk]
  | row t' hr' h2 ih =>
    intro j k hj hk
    rw [List.nodup_cons] at hn
    cases j <;> cases k <;> simp at hj hk
    · rfl
    · subst hj; exact absurd (h2.mem' hk hr) hn.1
    · subst hk; exact absurd (h2.mem' hj hr) hn.1
    · rw [ih hn.2 hj hk]
  | ro t' hr' _ ih =>
    intro j k hj hk
    cases j <;> cases k <;> simp at hj hk
    · rfl
    · subst hj; exact absurd hr' (hr _ _)
    · subst hk; exact absurd hr' (hr _ _)
    · rw [ih hn hj hk]
  | fro t' hr' h2 ih =>
    intro j k hj hk
    rw [List.nodup_cons] at hn
    cases j <;> cases k <;> simp at hj hk
    · rfl
    · subst hj; exact absurd (h2.mem' hk hr) hn.1
    · subst hk; exact absurd (h2.mem' hj hr) hn.1
    · rw [ih hn.2 hj hk]
theorem TakeOk.mem_ne {l : List AC} {ps : List PV} {ts : List Nat} {own : Bool} (h : TakeOk res l ps ts own) {t : Nat} (ht : t ∈ ts) : ∀ sz xs, res t ≠ some (.ro sz xs) := by
  induction h with
  | nil => simp at ht
  | pv p _ ih => exact ih ht
  | nl sz _ ih => exact ih ht
  | row t' hr _ ih =>
    rcases List.mem_cons.1 ht with rfl | ht
    · intro sz xs h; rw [hr] at h; cases h
    · exact ih ht
  | fro t' hr _ ih =>
    rcases List.mem_cons.1 ht with rfl | ht
    · intro sz xs h; rw [hr] at h; cases h
    · exact ih ht
  | ro t' hr _ ih => exact ih ht
theorem TakeOk.noBox {l : List AC} {ps : List PV} {ts : List Nat} {own : Bool} (h : TakeOk res l ps ts own) {t : Nat} (ht : t ∈ ts) : ∀ cs, res t ≠ some (.box cs) := by
  induction h with
  | nil => simp at ht
  | pv p _ ih => exact ih ht
  | nl sz _ ih => exact ih ht
  | row t' hr _ ih =>
    rcases List.mem_cons.1 ht with rfl | ht
    · intro cs h; rw [hr] at h; cases h
    · exact ih ht
  | fro t' hr _ ih =>
    rcases List.mem_cons.1 ht with rfl | ht
    · intro cs h; rw [hr] at h; cases h
    · exact ih ht
  | ro t' hr _ ih => exact ih ht
theorem TakeOk.once {l : List AC} {ps : List PV} {ts : List Nat} {own : Bool} (h : TakeOk res l ps ts own) (hn : ts.Nodup) {t : Nat} (ht : t ∈ ts) :
    ∀ {j k : Nat}, l[j]? = some (.row t) → l[k]? = some (.row t) → j = k := h.onceR hn (h.mem_ne ht)
/-- The rows that cells speak of. -/
def rowToks : List AC → List Nat
  | [] => []
  | .row t :: l => t :: rowToks l
  | _ :: l => rowToks l
theorem TakeOk.rs {l : List AC} {ps : List PV} {ts : List Nat} {own : Bool} (h : TakeOk res l ps ts own) : ∃ rs : List (Nat × ARes), (∀ t r, (t, r) ∈ rs → res t = some r) ∧ rs.map Prod.fst = rowToks l := by
  induction h with
  | nil => exact ⟨[], by simp, rfl⟩
  | pv p _ ih => exact ih
  | nl sz _ ih => exact ih
  | @row t o sz xs l ps ts own hr _ ih =>
    obtain ⟨rs, h1, h2⟩ := ih
    refine ⟨(t, .row o sz xs) :: rs, fun t' r' hm => ?_, by simp [rowToks, h2]⟩
    rcases List.mem_cons.1 hm with hm | hm
    · cases hm; exact hr
    · exact h1 t' r' hm
  | @fro t sz xs l ps ts own hr _ ih =>
    obtain ⟨rs, h1, h2⟩ := ih
    refine ⟨(t, .fro sz xs) :: rs, fun t' r' hm => ?_, by simp [rowToks, h2]⟩
    rcases List.mem_cons.1 hm with hm | hm
    · cases hm; exact hr
    · exact h1 t' r' hm
  | @ro t sz xs l ps ts own hr _ ih =>
    obtain ⟨rs, h1, h2⟩ := ih
    refine ⟨(t, .ro sz xs) :: rs, fun t' r' hm => ?_, by simp [rowToks, h2]⟩
    rcases List.mem_cons.1 hm with hm | hm
    · cases hm; exact hr
    · exact h1 t' r' hm
theorem TakeOk.congr {res' : Res} {l : List AC} {ps : List PV} {ts : List Nat} {own : Bool} (h : TakeOk res l ps ts own) (hr : ∀ t ∈ rowToks l, res' t = res t) : TakeOk res' l ps ts own := by
  induction h with
  | nil => exact .nil
  | pv p _ ih => exact .pv p (ih hr)
  | nl sz _ ih => exact .nl sz (ih hr)
  | row t h1 _ ih => exact .row t ((hr t (by simp [rowToks])).trans h1) (ih fun t ht => hr t (by simp [rowToks, ht]))
  | ro t h1 _ ih => exact .ro t ((hr t (by simp [rowToks])).trans h1) (ih fun t ht => hr t (by simp [rowToks, ht]))
  | fro t h1 _ ih => exact .fro t ((hr t (by simp [rowToks])).trans h1) (ih fun t ht => hr t (by simp [rowToks, ht]))
/-- Facts on tokens, handed on to another state that agrees. -/
theorem rs_agree {res' : Res} {rs : List (Nat × ARes)} (h : ∀ t r, (t, r) ∈ rs → res t = some r) (h' : ∀ t r, (t, r) ∈ rs → res' t = some r) : ∀ t ∈ rs.map Prod.fst, res' t = res t := by
  intro t ht
  obtain ⟨⟨t', r⟩, hm, rfl⟩ := List.mem_map.1 ht
  rw [h t' r hm, h' t' r hm]
/-- What is handed over at a place. -/
def takeD (g : G) (l : List AC) (ts : List Nat) (j : Nat) : Nat → Prop := fun x => ∃ t, l[j]? = some (.row t) ∧ t ∈ ts ∧ g.D t x
theorem TakeOk.el {w0 : Base} {w : World} {g : G} (hM : Models dm w0 g res w) {l : List AC} {ps : List PV} {ts : List Nat} {own : Bool} (h : TakeOk res l ps ts own) {vs : List Value} (hv : RepCs g w l vs) (S' : Nat → Prop)
    (hS : ∀ x, g.S x → S' x) (hS' : ∀ x, g.free res ts x → S' x) :
    ∀ (j : Nat) (p : PV), ps[j]? = some p → ∃ u, vs[j]? = some u ∧ u.oneCell' = true ∧ ElOk w S' (takeD g l ts j) own p u := by
  -- place by place
  have key : ∀ (l : List AC) (ps : List PV) (ts : List Nat) (own : Bool), TakeOk res l ps ts own → ∀ (j : Nat) (p : PV), ps[j]? = some p →
      ∃ a, l[j]? = some a ∧ ((a = .pv p ∧ (own = true → p.flat = true)) ∨ (∃ sz, a = .nil sz ∧ p = .sl sz []) ∨ (∃ t o sz xs, a = .row t ∧ p = .sl sz xs ∧ res t = some (.row o sz xs) ∧ t ∈ ts ∧ (own = true → o = true)) ∨
        (∃ t sz xs, a = .row t ∧ p = .sl sz xs ∧ res t = some (.ro sz xs) ∧ own = false) ∨ (∃ t sz xs, a = .row t ∧ p = .sl sz xs ∧ res t = some (.fro sz xs) ∧ t ∈ ts)) := by
    intro l ps ts own h
    induction h with
    | nil => intro j p hp; simp at hp
    | pv q _ ih =>
      intro j p hp
      cases j with
      | zero => simp at hp; subst hp; exact ⟨_, rfl, .inl ⟨rfl, fun h => (Bool.and_eq_true _ _ ▸ h : _ ∧ _).1⟩⟩
      | succ j =>
        obtain ⟨a, ha, hc⟩ := ih j p (by simpa using hp)
        refine ⟨a, by simpa using ha, ?_⟩
        rcases hc with ⟨h1, h2⟩ | h1 | ⟨t, o, sz, xs, h1, h2, h3, h4, h5⟩ | ⟨t, sz, xs, h1, h2, h3, h4⟩ | ⟨t, sz, xs, h1, h2, h3, h4⟩
        · exact .inl ⟨h1, fun h => h2 ((Bool.and_eq_true _ _ ▸ h : _ ∧ _).2)⟩
        · exact .inr (.inl h1)
        · exact .inr (.inr (.inl ⟨t, o, sz, xs, h1, h2, h3, h4, fun h => h5 ((Bool.and_eq_true _ _ ▸ h : _ ∧ _).2)⟩))
        · exact .inr (.inr (.inr (.inl ⟨t, sz, xs, h1, h2, h3, by rw [h4]; simp⟩)))
        · exact .inr (.inr (.inr (.inr ⟨t, sz, xs, h1, h2, h3, h4⟩)))
    | nl sz _ ih =>
      intro j p hp
      cases j with
      | zero => simp at hp; subst hp; exact ⟨_, rfl, .inr (.inl ⟨sz, rfl, rfl⟩)⟩
      | succ j =>
        obtain ⟨a, ha, hc⟩ := ih j p (by simpa using hp)
        exact ⟨a, by simpa using ha, hc⟩
    | row t hr _ ih =>
      intro j p hp
      cases j with
      | zero => simp at hp; subst hp; exact ⟨_, rfl, .inr (.inr (.inl ⟨t, _, _, _, rfl, rfl, hr, by simp, fun h => (Bool.and_eq_true _ _ ▸ h : _ ∧ _).1⟩))⟩
      | succ j =>
        obtain ⟨a, ha, hc⟩ := ih j p (by simpa using hp)
        refine ⟨a, by simpa using ha, ?_⟩
        rcases hc with ⟨h1, h2⟩ | h1 | ⟨t, o, sz, xs, h1, h2, h3, h4, h5⟩ | ⟨t, sz, xs, h1, h2, h3, h4⟩ | ⟨t, sz, xs, h1, h2, h3, h4⟩
        · exact .inl ⟨h1, fun h => h2 ((Bool.and_eq_true _ _ ▸ h : _ ∧ _).2)⟩
        · exact .inr (.inl h1)
        · exact .inr (.inr (.inl ⟨t, o, sz, xs, h1, h2, h3, List.mem_cons_of_mem _ h4, fun h => h5 ((Bool.and_eq_true _ _ ▸ h : _ ∧ _).2)⟩))
        · exact .inr (.inr (.inr (.inl ⟨t, sz, xs, h1, h2, h3, by rw [h4]; simp⟩)))
        · exact .inr (.inr (.inr (.inr ⟨t, sz, xs, h1, h2, h3, List.mem_cons_of_mem _ h4⟩)))
    | ro t hr _ ih =>
      intro j p hp
      cases j with
      | zero => simp at hp; subst hp; exact ⟨_, rfl, .inr (.inr (.inr (.inl ⟨t, _, _, rfl, rfl, hr, rfl⟩)))⟩
      | succ j =>
        obtain ⟨a, ha, hc⟩ := ih j p (by simpa using hp)
        refine ⟨a, by simpa using ha, ?_⟩
        rcases hc with ⟨h1, h2⟩ | h1 | ⟨t, o, sz, xs, h1, h2, h3, h4, h5⟩ | ⟨t, sz, xs, h1, h2, h3, h4⟩ | ⟨t, sz, xs, h1, h2, h3, h4⟩
        · exact .inl ⟨h1, fun h => by cases h⟩
        · exact .inr (.inl h1)
        · exact .inr (.inr (.inl ⟨t, o, sz, xs, h1, h2, h3, h4, fun h => by cases h⟩))
        · exact .inr (.inr (.inr (.inl ⟨t, sz, xs, h1, h2, h3, rfl⟩)))
        · exact .inr (.inr (.inr (.inr ⟨t, sz, xs, h1, h2, h3, h4⟩)))
    | fro t hr _ ih =>
      intro j p hp
      cases j with
      | zero => simp at hp; subst hp; exact ⟨_, rfl, .inr (.inr (.inr (.inr ⟨t, _, _, rfl, rfl, hr, by simp⟩)))⟩
      | succ j =>
        obtain ⟨a, ha, hc⟩ := ih j p (by simpa using hp)
        refine ⟨a, by simpa using ha, ?_⟩
        rcases hc with ⟨h1, h2⟩ | h1 | ⟨t, o, sz, xs, h1, h2, h3, h4, h5⟩ | ⟨t, sz, xs, h1, h2, h3, h4⟩ | ⟨t, sz, xs, h1, h2, h3, h4⟩
        · exact .inl ⟨h1, h2⟩
        · exact .inr (.inl h1)
        · exact .inr (.inr (.inl ⟨t, o, sz, xs, h1, h2, h3, List.mem_cons_of_mem _ h4, h5⟩))
        · exact .inr (.inr (.inr (.inl ⟨t, sz, xs, h1, h2, h3, h4⟩)))
        · exact .inr (.inr (.inr (.inr ⟨t, sz, xs, h1, h2, h3, List.mem_cons_of_mem _ h4⟩)))
  intro j p hp
  obtain ⟨a, ha, hc⟩ := key l ps ts own h j p hp
  obtain ⟨u, hu, h1, hr⟩ := hv.2 j a ha
  refine ⟨u, hu, h1, ?_⟩
  unfold ElOk
  rcases hc with ⟨rfl, hf⟩ | ⟨sz, rfl, rfl⟩ | ⟨t, o, sz, xs, rfl, rfl, hrt, ht, ho⟩ | ⟨t, sz, xs, rfl, rfl, hrt, hown⟩ | ⟨t, sz, xs, rfl, rfl, hrt, ht⟩
  · have hr : Rep w g.S p u := hr
    cases own with
    | true => exact hr.flat_own (hf rfl)
    | false => exact hr.mono (fun _ _ => rfl) hS
  · have hr : u = .slice none 0 0 := hr
    subst hr
    cases own with
    | true => exact .nil _ _
    | false => exact Own.rep (.nil (fun _ => False) sz) fun _ h => h.elim
  · have hrow : RowOk w g.S (g.D t) o sz xs (g.σ t) := (hM.tok t _ hrt).2
    have hut : u = g.σ t := hr.2.1
    subst hut
    cases own with
    | true =>
      have := ho rfl
      subst this
      exact (own_of_row hrow).mono (fun _ _ => rfl) fun x hx => ⟨t, ha, ht, hx⟩
    | false => exact hrow.rep (fun x hx => hS' x ⟨t, _, ht, hrt, hx⟩) hS
  · subst hown
    have hro : Rep w g.S (.sl sz xs) (g.σ t) := (hM.tok t _ hrt).2
    have hut : u = g.σ t := hr.2.1
    subst hut
    exact hro.mono (fun _ _ => rfl) hS
  · have hrow : RowOk w g.S (g.D t) true sz xs (g.σ t) := (hM.tok t _ hrt).2
    have hut : u = g.σ t := hr.2.1
    subst hut
    cases own with
    | true => exact (own_of_row hrow).mono (fun _ _ => rfl) fun x hx => ⟨t, ha, ht, hx⟩
    | false => exact hrow.rep (fun x hx => hS' x ⟨t, _, ht, hrt, hx⟩) hS
def nodupB : List Nat → Bool
  | [] => true
  | t :: l => (l.all fun x => !(Nat.beq x t)) && nodupB l
theorem nodupB_ok : ∀ {l : List Nat}, nodupB l = true → l.Nodup
  | [], _ => List.nodup_nil
  | t :: l, h => by
    simp only [nodupB, Bool.and_eq_true, List.all_eq_true] at h
    rw [List.nodup_cons]
    refine ⟨fun hm => ?_, nodupB_ok h.2⟩
    have := h.1 t hm
    simp at this
def drops (ts : List Nat) : Upd := ts.reverse.map fun t => (t, none)
theorem updL_append (res : Res) (l m : Upd) : updL res (l ++ m) = updL (updL res l) m := by
  induction l generalizing res with
  | nil => rfl
  | cons a l ih => exact ih _
theorem updL_drops (res : Res) (ts : List Nat) : updL res (drops ts) = dropL res ts := by
  unfold drops
  induction ts generalizing res with
  | nil => rfl
  | cons t l ih =>
    rw [List.reverse_cons, List.map_append, updL_append, ih]
    rfl
/-- Elements out of cells that stand one behind the other. -/
def chunkA (sz : Nat) : Nat → List PV → (List (List PV) → Prop) → Prop
  | 0, _, K => K []
  | n + 1, l, K => takeP sz l fun el l => chunkA sz n l fun xs => K (el :: xs)
where
  takeP : Nat → List PV → (List PV → List PV → Prop) → Prop
  | 0, l, K => K [] l
  | _ + 1, [], _ => False
  | n + 1, p :: l, K => takeP n l fun el l => K (p :: el) l
theorem takeP_eq : ∀ {n : Nat} {l : List PV} {K : List PV → List PV → Prop}, chunkA.takeP n l K → n ≤ l.length ∧ K (l.take n) (l.drop n)
  | 0, l, K, h => ⟨Nat.zero_le _, by simpa [chunkA.takeP] using h⟩
  | n + 1, [], K, h => h.elim
  | n + 1, p :: l, K, h => by
    have := takeP_eq (K := fun el l => K (p :: el) l) h
    exact ⟨by simp; exact this.1, this.2⟩
theorem chunkA_eq {sz : Nat} : ∀ {n : Nat} {l : List PV} {K : List (List PV) → Prop}, chunkA sz n l K → ∃ xs : List (List PV), K xs ∧ xs.length = n ∧ (∀ el ∈ xs, el.length = sz) ∧ n * sz ≤ l.length ∧ ∀ i j p, at2 xs i j = some p → l[i * sz + j]? = some p
  | 0, l, K, h => ⟨[], h, rfl, by simp, by simp, by simp [at2]⟩
  | n + 1, l, K, h => by
    obtain ⟨hl, h⟩ := takeP_eq (K := fun el l => chunkA sz n l fun xs => K (el :: xs)) h
    obtain ⟨xs, hK, hn, hz, hln, hat⟩ := chunkA_eq h
    refine ⟨_, hK, by simp [hn], ?_, ?_, ?_⟩
    · intro el hel
      rcases List.mem_cons.1 hel with rfl | hel
      · simp; omega
      · exact hz el hel
    · rw [Nat.succ_mul]
      simp at hln
      omega
    · intro i j p hp
      cases i with
      | zero =>
        simp [at2, List.getElem?_take] at hp
        simpa using hp.2
      | succ i =>
        have := hat i j p (by simpa [at2] using hp)
        rw [List.getElem?_drop] at this
        rw [Nat.succ_mul, show i * sz + sz + j = sz + (i * sz + j) by omega]
        exact this
def repZ (z : List AC) : Nat → List AC
  | 0 => []
  | n + 1 => z ++ repZ z n
def kBuildS (Γ : TG) (dm : Bool) (env : Nat → AV) (res : Res) (id : Nat) (t : TypeId) (n : Nat) (parts : List (Nat × Operand)) (K : KT) : Prop :=
  match dm, Γ t with
  | false, some ti => (match ti.elem with
    | some e => match Γ e with
      | some te => match Nat.ble (n * te.sz) 10000 && Nat.ble 1 te.sz with
        | true => foldParts (fun i => some (i * te.sz, te.sz)) env parts (repZ te.zero n) fun cs => pvsA res cs fun ps ts own => match nodupB ts with
          | true => chunkA te.sz n ps fun xs => K (.c (.row id)) (drops ts ++ [(id, some (.row own te.sz xs))]) (rowToks cs)
          | false => False
        | false => False
      | none => False
    | none => False)
  | _, _ => False
theorem repZ_len (z : List AC) : ∀ n, (repZ z n).length = n * z.length
  | 0 => by simp [repZ]
  | n + 1 => by rw [repZ, List.length_append, repZ_len z n, Nat.succ_mul]; omega
theorem repZ_get (z : List AC) : ∀ (n : Nat) (j : Nat), j < n * z.length → (repZ z n)[j]? = z[j % z.length]?
  | 0, j, h => by simp at h
  | n + 1, j, h => by
    rw [repZ, List.getElem?_append]
    split
    · rename_i h1; rw [Nat.mod_eq_of_lt h1]
    · rename_i h1
      rw [repZ_get z n (j - z.length) (by rw [Nat.succ_mul] at h; omega)]
      rw [Nat.mod_eq_sub_mod (a := j) (by omega)]
theorem zeros_rep {g : G} {w : World} {z : List AC} (hz : ∀ a ∈ z, zeroC a = true) {zc : Array Value} (hc : zc.toList = z.map zeroVal) (n : Nat) :
    RepCs g w (repZ z n) ((Array.range (n * zc.size)).map (zc[· % zc.size]!)).toList := by
  have hs : zc.size = z.length := by have := congrArg List.length hc; simpa using this
  refine ⟨by simp [repZ_len, hs], fun j a ha => ?_⟩
  have hj : j < n * z.length := by have := (List.getElem?_eq_some_iff.1 ha).1; rwa [repZ_len] at this
  have hpos : 0 < z.length := by
    rcases Nat.eq_zero_or_pos z.length with h0 | h0
    · rw [h0] at hj; simp at hj
    · exact h0
  rw [repZ_get z n j hj] at ha
  have hm : j % z.length < z.length := Nat.mod_lt _ hpos
  have hv : zc[j % zc.size]! = zeroVal a := by
    rw [hs, getElem!_pos zc _ (by rw [hs]; exact hm)]
    have h1 : zc.toList[j % z.length]? = some (zeroVal a) := by rw [hc, List.getElem?_map, ha]; rfl
    rw [List.getElem?_eq_some_iff] at h1
    obtain ⟨h2, h3⟩ := h1
    simpa using h3
  have := zero_rep (g := g) (w := w) (hz a (List.mem_of_getElem? ha))
  refine ⟨zeroVal a, ?_, this.2, this.1⟩
  simp [hs, hj]
  rw [← hs]
  exact hv
/-- A new row, of cells that are known. -/
theorem good_newRow (hdm : dm = false) {sz n : Nat} {cs : List AC} {ps : List PV} {ts : List Nat} {own : Bool} {xs : List (List PV)} (htake : TakeOk res cs ps ts own) (hnd : ts.Nodup)
    (hn : xs.length = n) (hn63 : n ≤ 9223372036854775807) (hzs : ∀ el ∈ xs, el.length = sz) (hsz : n * sz ≤ ps.length) (hat : ∀ i j p, at2 xs i j = some p → ps[i * sz + j]? = some p)
    (hK : K (.c (.row id)) (drops ts ++ [(id, some (.row own sz xs))]) (rowToks cs))
    (hrun : ∀ (g : G) (w : World) (a : Act), OpsAt o env g w a → ∃ (vs : List Value) (ty : TypeId), (execOp a.eval o).run P w = .ok (.value (.slice (some ⟨w.heap.size, 0, none⟩) n n)) (w.alloc (.cells vs.toArray ty (0, 0))) ∧ RepCs g w cs vs) :
    Good P dm o env res id K := by
  subst hdm
  obtain ⟨rs, hrs, hrs1⟩ := htake.rs
  refine ⟨_, _, rs, fun w0 g res' w a hM hop hr hid => ?_, hrs, by rw [hrs1]; exact hK⟩
  have htake' : TakeOk res' cs ps ts own := htake.congr (fun t ht => rs_agree hrs hr t (by rw [hrs1]; exact ht))
  obtain ⟨vs, ty, hrunv, hcs⟩ := hrun g w a hop
  obtain ⟨hM1, e1, hF⟩ := hM.drop ts
  have helS := htake'.el hM hcs (g.drop res' ts).S (fun x hx => .inl hx) (fun x hx => .inr hx)
  have hidU : ¬ (g.drop res' ts).U id := hid id (Nat.le_refl _) (by omega)
  have hMut : ∀ x, Mut false (.slice (some ⟨w.heap.size, 0, none⟩) n n) (.row own sz xs) x ↔ x = w.heap.size := by
    intro x
    simp [Mut, Value.ownBlock]
    exact eq_comm
  have hlen := hcs.1
  have hpl := htake'.len
  obtain ⟨hM2, e2⟩ := hM1.alloc (t := id) hidU (.cells vs.toArray ty (0, 0)) (.slice (some ⟨w.heap.size, 0, none⟩) n n) (.row own sz xs) hF ((hMut _).2 rfl)
    (fun x hx hm => by
      have h1 := hF.new x hx
      rw [hMut] at hm
      omega)
    (fun ev => by
      have hD : ((g.drop res' ts).mk1 id (.slice (some ⟨w.heap.size, 0, none⟩) n n) (fun x => x = w.heap.size ∨ g.free res' ts x) (g.drop res' ts).S).D id = (fun x => x = w.heap.size ∨ g.free res' ts x) := upd_same _ _ _
      have hσ : ((g.drop res' ts).mk1 id (.slice (some ⟨w.heap.size, 0, none⟩) n n) (fun x => x = w.heap.size ∨ g.free res' ts x) (g.drop res' ts).S).σ id = .slice (some ⟨w.heap.size, 0, none⟩) n n := upd_same _ _ _
      show RowOk _ _ _ own sz xs _
      rw [hD, hσ]
      have hsub : ∀ k x, takeD g cs ts k x → g.free res' ts x := by
        rintro k x ⟨t, _, ht, hx⟩
        obtain ⟨o', s', x', hr', _⟩ := htake'.mem ht
        exact ⟨t, _, ht, hr', hx⟩
      refine .inr ⟨w.heap.size, 0, n, ty, vs.toArray, fun i j => vs.getD (i * sz + j) undef, fun i j x => j < sz ∧ takeD g cs ts (i * sz + j) x, by rw [hn], .inl rfl, .of (heap_alloc_new w _), by simp [hlen]; omega, by omega, hn63, hzs, ?_, ?_, ?_, ?_⟩
      · intro i j p hp
        obtain ⟨u, hu, _, _⟩ := helS _ p (hat i j p hp)
        simp [hu]
      · rintro i j x ⟨_, hx⟩
        have h1 := hsub _ x hx
        have h2 := hF.new x h1
        exact ⟨.inr h1, by omega⟩
      · rintro i j i' j' x ⟨hj, t, hc, ht, hx⟩ ⟨hj', t', hc', ht', hx'⟩
        obtain ⟨o1, s1, x1, hr1, _⟩ := htake'.mem ht
        obtain ⟨o2, s2, x2, hr2, _⟩ := htake'.mem ht'
        have := hM.dApart t t' _ _ x hr1 hr2 hx hx'
        subst this
        have hpos := htake'.once hnd ht hc hc'
        have e1 : (i * sz + j) / sz = i := by rw [Nat.mul_comm, Nat.mul_add_div (by omega), Nat.div_eq_of_lt hj]; rfl
        have e2 : (i' * sz + j') / sz = i' := by rw [Nat.mul_comm, Nat.mul_add_div (by omega), Nat.div_eq_of_lt hj']; rfl
        rw [hpos, e2] at e1
        subst e1
        exact ⟨rfl, by omega⟩
      · intro i j p hp
        obtain ⟨u, hu, _, hel⟩ := helS _ p (hat i j p hp)
        have hj : j < sz := by
          unfold at2 at hp
          cases hx : xs[i]? with
          | none => simp [hx] at hp
          | some el =>
            have := hzs el (List.mem_of_getElem? hx)
            simp [hx] at hp
            rw [← this]
            exact (List.getElem?_eq_some_iff.1 hp).1
        simp only [List.getD_eq_getElem?_getD, hu, Option.getD_some]
        exact hel.mono (fun x hx => Below.heap_alloc w _ x (by obtain ⟨t, _, ht, hx⟩ := hx; obtain ⟨o1, s1, x1, hr1, _⟩ := htake'.mem ht; exact (hM.dNew t _ x hr1 hx).2)) (fun x hx => ⟨hj, hx⟩) ev.heap ev.s)
  refine runs_value hrunv ⟨_, ?_, e1.trans e2, ⟨.inr rfl, (upd_same _ _ _).symm, rfl⟩, fun x hx => ?_⟩
  · rw [updL_append, updL_drops]
    exact hM2
  · rcases hx with hx | rfl
    · exact .inl hx
    · exact .inr ⟨Nat.le_refl _, by omega⟩
theorem good_buildS (hΓ : TGOk P Γ) {t : TypeId} {n : Nat} {parts : Array (Nat × Operand)} (ho : o.op = .buildSlice t n parts) (h : kBuildS Γ dm env res id t n parts.toList K) : Good P dm o env res id K := by
  unfold kBuildS at h
  split at h
  · rename_i ti ht
    split at h
    · rename_i e he
      split at h
      · rename_i te hte
        split at h
        · rename_i hsm
          obtain ⟨cs, hl, h, hrun⟩ := foldParts_eq h
          obtain ⟨ps, ts, own, htk, h⟩ := pvsA_eq h
          split at h
          · rename_i hnd
            obtain ⟨xs, hK, hn, hz, hln, hat⟩ := chunkA_eq h
            have htei := hΓ e te hte
            rw [Bool.and_eq_true] at hsm
            have h0 : 1 ≤ te.sz := Nat.le_of_ble_eq_true hsm.2
            have hsm : n * te.sz ≤ 10000 := Nat.le_of_ble_eq_true hsm.1
            obtain ⟨i, z, hi, hs, hb, hzz, hc⟩ := htei.info
            have hzsz : z.cells.size = te.sz := by have := congrArg List.length hc; simp at this; rw [this, htei.zl]
            obtain ⟨d, hd, _, hel, _⟩ := (hΓ t ti ht).desc
            rw [hel e he] at hd
            refine good_newRow rfl htk (nodupB_ok hnd) hn (by
              have := Nat.le_mul_of_pos_right n h0
              omega) hz hln hat hK fun g w a hop => ?_
            obtain ⟨vs', hv, hr⟩ := hrun g w a (fun p hp => hop p.2 (by
              simp only [ho, Op.operands, List.mem_toArray, List.mem_map]
              exact ⟨p, hp, rfl⟩)) ((Array.range (n * z.cells.size)).map (z.cells[· % z.cells.size]!)) (zeros_rep htei.zc hc n)
            refine ⟨vs'.toList, e, ?_, hr⟩
            have hmap : (parts.map fun (i, x) => (i, a.eval x)).toList = parts.toList.map fun p => (p.1, a.eval p.2) := by simp [Array.toList_map]
            rw [hzsz] at hv
            by_cases h0 : n * te.sz = 0
            · have e0 : Array.range 0 = #[] := rfl
              rw [h0, e0] at hv
              have hv0 : Instr.fill (fun i => some (i * te.sz, te.sz)) #[] (parts.toList.map fun p => (p.1, a.eval p.2)) = some vs' := by simpa using hv
              simp [execOp, ho, Instr.buildSlice, run_underlying hd, htei.sizeOf, h0, hmap, e0, hv0, newRow]
            · have hbig : ¬ (16777216 < n * te.sz) := by omega
              simp [execOp, ho, Instr.buildSlice, run_underlying hd, htei.sizeOf, h0, hbig, zeroValue, typeInfo, hi, hzz, hmap, hzsz, hv, newRow]
          · exact h.elim
        · exact h.elim
      · exact h.elim
    · exact h.elim
  · exact h.elim
end
end Go.Vi
