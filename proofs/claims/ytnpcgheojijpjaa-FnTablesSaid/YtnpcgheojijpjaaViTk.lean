/- An element taken out of a row of the call's own: its own memory goes with it. -/
import Derived.Test.YtnpcgheojijpjaaViXa
set_option linter.unusedVariables false
set_option linter.unusedSimpArgs false
namespace Go.Vi
open Go.RowKit
section
variable {P : Program} {Γ : TG} {dm : Bool} {o : Oper} {env : Nat → AV} {res : Res} {id : Nat} {K : KT}
def froC (k : Nat) (p : PV) (K : AC → Upd → Prop) : Prop :=
  match p with
  | .int q n => K (.pv (.int q n)) []
  | .bool b => K (.pv (.bool b)) []
  | .str s => K (.pv (.str s)) []
  | .fn f => K (.pv (.fn f)) []
  | .err b => K (.pv (.err b)) []
  | .any v => K (.pv (.any v)) []
  | .sl sz xs => K (.row k) [(k, some (.fro sz xs))]
def froL : Nat → List PV → (List AC → Upd → Prop) → Prop
  | _, [], K => K [] []
  | k, p :: l, K => froC k p fun a u => froL (k + 1) l fun as us => K (a :: as) (u ++ us)
def kTake (Γ : TG) (dm : Bool) (env : Nat → AV) (res : Res) (id : Nat) (t : TypeId) (x : Operand) (K : KT) : Prop :=
  match opv env x with
  | .c (.rel tk sz i j) => (match dm, res tk, Γ t with
    | false, some (.row true sz' xs), some ti => ∃ (el : List PV) (ys : List (List PV)), (((sz = sz' ∧ xs = el :: ys) ∧ (i = 0 ∧ j = 0)) ∧ (ti.agg = true ∧ ti.sz = sz) ∧ Nat.ble sz 60 = true) ∧
        froL id el fun as u => K (.agg as) ((tk, some (.tl sz (id + 63))) :: (id + 63, some (.row true sz ys)) :: u) [tk]
    | _, _, _ => kLoad Γ dm env res t x K)
  | _ => kLoad Γ dm env res t x K
theorem Models.addFro {w0 : Base} {w : World} {g : G} (h : Models dm w0 g res w) {t : Nat} (ht : ¬ g.U t) {D : Nat → Prop} {sz : Nat} {xs : List (List PV)} {v : Value} (hown : Own w D (.sl sz xs) v) (hF : Free dm w0 g res w D) :
    ∃ g', Models dm w0 g' (upd res t (some (.fro sz xs))) w ∧ Evo g g' w w ∧ (∀ x, g'.U x → g.U x ∨ x = t) ∧ RepC g' w (.row t) v ∧ v.oneCell' = true ∧
      ∀ D', Free dm w0 g res w D' → (∀ x, D x → ¬ D' x) → Free dm w0 g' (upd res t (some (.fro sz xs))) w D' := by
  have hone := hown.one
  have ev : Evo g (g.mk1 t v D g.S) w w := Evo.mk1 ht (fun _ h => h) fun _ _ => rfl
  have hDo : ∀ t', t' ≠ t → (g.mk1 t v D g.S).D t' = g.D t' := fun t' hn => upd_ne _ _ hn
  have hDn : (g.mk1 t v D g.S).D t = D := upd_same _ _ _
  have hσo : ∀ t', t' ≠ t → (g.mk1 t v D g.S).σ t' = g.σ t' := fun t' hn => upd_ne _ _ hn
  have hσn : (g.mk1 t v D g.S).σ t = v := upd_same _ _ _
  have key : ∀ t' r', upd res t (some (.fro sz xs)) t' = some r' → (t' = t ∧ r' = .fro sz xs) ∨ (t' ≠ t ∧ res t' = some r') := by
    intro t' r' h1
    rcases upd_cases h1 with ⟨e1, e2⟩ | h2
    · exact .inl ⟨e1, by cases e2; rfl⟩
    · exact .inr h2
  refine ⟨g.mk1 t v D g.S, ⟨h.below, h.sBase, h.sLt, ?_, ?_, ?_, ?_, ?_⟩, ev, fun x hx => hx, ⟨.inr rfl, hσn.symm, hone⟩, hone, ?_⟩
  · intro t' r' hr
    rcases key t' r' hr with ⟨rfl, rfl⟩ | ⟨hn, hr⟩
    · refine ⟨.inr rfl, ?_⟩
      show RowOk w g.S ((g.mk1 t' v D g.S).D t') true sz xs ((g.mk1 t' v D g.S).σ t')
      rw [hDn, hσn]
      exact row_of_own hown
    · exact ⟨.inl (h.tok t' r' hr).1, (h.tok t' r' hr).2.evo ev (h.tok t' r' hr).1 (hDo t' hn) fun _ _ => rfl⟩
  · intro t' r' x hr hx
    rcases key t' r' hr with ⟨rfl, rfl⟩ | ⟨hn, hr⟩
    · rw [hDn] at hx; exact hF.new x hx
    · rw [hDo t' hn] at hx; exact h.dNew t' r' x hr hx
  · intro t1 t2 r1 r2 x h1 h2 hx1 hx2
    rcases key t1 r1 h1 with ⟨rfl, rfl⟩ | ⟨hn1, k1⟩ <;> rcases key t2 r2 h2 with ⟨e2, rfl⟩ | ⟨hn2, k2⟩
    · exact e2.symm
    · rw [hDn] at hx1
      rw [hDo t2 hn2] at hx2
      exact absurd hx2 (hF.off x t2 r2 hx1 k2)
    · subst e2
      rw [hDn] at hx2
      rw [hDo t1 hn1] at hx1
      exact absurd hx1 (hF.off x t1 r1 hx2 k1)
    · rw [hDo t1 hn1] at hx1
      rw [hDo t2 hn2] at hx2
      exact h.dApart t1 t2 r1 r2 x k1 k2 hx1 hx2
  · intro t' r' x hr hx hm
    rcases key t' r' hr with ⟨rfl, rfl⟩ | ⟨hn, hr⟩
    · exact hm.elim
    · rw [hDo t' hn] at hx
      rw [hσo t' hn] at hm
      exact h.sMut t' r' x hr hx hm
  · intro hdm t' r' x hr hx hm
    rcases key t' r' hr with ⟨rfl, rfl⟩ | ⟨hn, hr⟩
    · rw [hDn] at hx
      exact hF.fro hdm x hx
    · rw [hDo t' hn] at hx
      rw [hσo t' hn] at hm
      exact h.sFro hdm t' r' x hr hx hm
  · intro D' hD' hdis
    refine ⟨hD'.new, hD'.fro, ?_⟩
    intro x t' r' hx hr
    rcases key t' r' hr with ⟨rfl, rfl⟩ | ⟨hn, hr⟩
    · rw [hDn]; exact fun h => hdis x h hx
    · rw [hDo t' hn]; exact hD'.off x t' r' hx hr
theorem froC_eq {k : Nat} {p : PV} {K : AC → Upd → Prop} (h : froC k p K) : ∃ a u, K a u ∧ ∀ (dm : Bool) (w0 : Base) (w : World) (g : G) (res : Res) (v : Value) (D : Nat → Prop), Models dm w0 g res w → ¬ g.U k → Own w D p v → Free dm w0 g res w D →
    ∃ g', Models dm w0 g' (updL res u) w ∧ Evo g g' w w ∧ (∀ x, g'.U x → g.U x ∨ x = k) ∧ RepC g' w a v ∧ v.oneCell' = true ∧ ∀ D', Free dm w0 g res w D' → (∀ x, D x → ¬ D' x) → Free dm w0 g' (updL res u) w D' := by
  have flat : ∀ (p : PV), p.flat = true → K (.pv p) [] → ∃ a u, K a u ∧ ∀ (dm : Bool) (w0 : Base) (w : World) (g : G) (res : Res) (v : Value) (D : Nat → Prop), Models dm w0 g res w → ¬ g.U k → Own w D p v → Free dm w0 g res w D →
      ∃ g', Models dm w0 g' (updL res u) w ∧ Evo g g' w w ∧ (∀ x, g'.U x → g.U x ∨ x = k) ∧ RepC g' w a v ∧ v.oneCell' = true ∧ ∀ D', Free dm w0 g res w D' → (∀ x, D x → ¬ D' x) → Free dm w0 g' (updL res u) w D' := by
    intro p hf hK
    refine ⟨_, _, hK, fun dm w0 w g res v D hM _ hown _ => ⟨g, hM, Evo.refl _ _, fun _ h => .inl h, ?_, hown.one, fun D' h _ => h⟩⟩
    exact Own.rep (D := fun _ => False) (hown.flat_D hf) fun _ h => h.elim
  unfold froC at h
  split at h
  · exact flat _ rfl h
  · exact flat _ rfl h
  · exact flat _ rfl h
  · exact flat _ rfl h
  · exact flat _ rfl h
  · exact flat _ rfl h
  · exact ⟨_, _, h, fun dm w0 w g res v D hM hk hown hF => hM.addFro hk hown hF⟩
theorem froL_eq : ∀ {ps : List PV} {k : Nat} {K : List AC → Upd → Prop}, froL k ps K → ∃ as u, K as u ∧ as.length = ps.length ∧ ∀ (dm : Bool) (w0 : Base) (w : World) (g : G) (res : Res) (vs : List Value) (D : Nat → Nat → Prop), Models dm w0 g res w →
    (∀ x, k ≤ x → x < k + ps.length → ¬ g.U x) → OwnPs w D ps vs → (∀ j, Free dm w0 g res w (D j)) → (∀ i j x, D i x → D j x → i = j) →
    ∃ g', Models dm w0 g' (updL res u) w ∧ Evo g g' w w ∧ (∀ x, g'.U x → g.U x ∨ (k ≤ x ∧ x < k + ps.length)) ∧ RepCs g' w as vs
  | [], k, K, h => by
    simp only [froL] at h
    refine ⟨_, _, h, rfl, fun dm w0 w g res vs D hM _ hv _ _ => ⟨g, hM, Evo.refl _ _, fun _ h => .inl h, ⟨hv.1, by simp⟩⟩⟩
  | p :: ps, k, K, h => by
    simp only [froL] at h
    obtain ⟨a, u, h, h1⟩ := froC_eq h
    obtain ⟨as, us, hK, hl, h2⟩ := froL_eq h
    refine ⟨_, _, hK, by simp [hl], fun dm w0 w g res vs D hM hU hv hF hdis => ?_⟩
    cases vs with
    | nil => have := hv.1; simp at this
    | cons v vs =>
      obtain ⟨v0, hv0, hown⟩ := hv.2 0 p rfl
      simp at hv0
      subst hv0
      obtain ⟨g1, hM1, e1, hU1, hr1, ho1, hfr1⟩ := h1 dm w0 w g res v (D 0) hM (hU k (Nat.le_refl _) (by simp)) hown (hF 0)
      obtain ⟨g2, hM2, e2, hU2, hr2⟩ := h2 dm w0 w g1 (updL res u) vs (fun j => D (j + 1)) hM1 (fun x h3 h4 h5 => by
        rcases hU1 x h5 with h6 | h6
        · exact hU x (by omega) (by simp; omega) h6
        · omega) ⟨by have := hv.1; simpa using this, fun j p' hp => by simpa using hv.2 (j + 1) p' (by simpa using hp)⟩
        (fun j => hfr1 _ (hF (j + 1)) fun x hx hx' => by have := hdis 0 (j + 1) x hx hx'; omega) (fun i j x hx hx' => by have := hdis _ _ x hx hx'; omega)
      refine ⟨g2, by rw [updL_append]; exact hM2, e1.trans e2, fun x hx => ?_, ⟨by simp [hr2.1], fun j b hb => ?_⟩⟩
      · rcases hU2 x hx with h3 | h3
        · rcases hU1 x h3 with h4 | h4
          · exact .inl h4
          · exact .inr (by simp; omega)
        · exact .inr (by simp; omega)
      · cases j with
        | zero => simp at hb; subst hb; exact ⟨v, rfl, ho1, hr1.evo e2⟩
        | succ j => simpa using hr2.2 j b (by simpa using hb)
/-- The rest of a row gets a name of its own; what belonged to the first element is free. -/
theorem Models.cutRow {w0 : Base} {w : World} {g : G} (h : Models false w0 g res w) {tk t2 : Nat} (ht2 : ¬ g.U t2) {sz : Nat} {el : List PV} {ys : List (List PV)} (hr : res tk = some (.row true sz (el :: ys))) :
    ∃ (g1 : G) (b q : Nat) (us : Nat → Value) (D : Nat → Nat → Prop) (n c : Nat), Models false w0 g1 (upd (upd res tk (some (.tl sz t2))) t2 (some (.row true sz ys))) w ∧ Evo g g1 w w ∧ (∀ x, g1.U x → g.U x ∨ x = t2) ∧
      g.σ tk = .slice (some ⟨b, q, none⟩) n c ∧ el.length = sz ∧ (∀ j p, el[j]? = some p → w.cell? ⟨b, q + j, none⟩ = some (us j) ∧ Own w (D j) p (us j)) ∧
      (∀ j, Free false w0 g1 (upd (upd res tk (some (.tl sz t2))) t2 (some (.row true sz ys))) w (D j)) ∧ (∀ i j x, D i x → D j x → i = j) := by
  have hU := (h.tok tk _ hr).1
  have hrow : RowOk w g.S (g.D tk) true sz (el :: ys) (g.σ tk) := (h.tok tk _ hr).2
  have hne : tk ≠ t2 := fun e => ht2 (e ▸ hU)
  rcases hrow with ⟨h0, _⟩ | ⟨b, q, c, e, cs, us, Ds, hv, hg, hh, hsz, hc, hm, hz, ha, hDs, hdis, hel⟩
  · cases h0
  have hc1 : ys.length + 1 ≤ c := by simpa using hc
  let vt : Value := .slice (if c = 1 then some ⟨b, q, none⟩ else (some (⟨b, q, none⟩ : Addr)).map (·.add (1 * sz))) ys.length (c - 1)
  let Dr : Nat → Prop := fun x => g.D tk x ∧ ¬ ∃ j, Ds 0 j x
  let g1 : G := ⟨upd g.σ t2 vt, upd (upd g.D tk fun _ => False) t2 Dr, g.S, fun x => g.U x ∨ x = t2, g.fr⟩
  have hvb : vt.ownBlock = some b := by
    show (Value.slice (if c = 1 then some ⟨b, q, none⟩ else (some (⟨b, q, none⟩ : Addr)).map (·.add (1 * sz))) ys.length (c - 1)).ownBlock = some b
    split
    · rfl
    · rw [Option.map_some, add_at]; rfl
  have hkb : (g.σ tk).ownBlock = some b := by rw [hv]; rfl
  have hrow2 : RowOk w g.S Dr true sz ys vt := by
    have hat : ∀ i j p, at2 ys i j = some p → at2 (el :: ys) (i + 1) j = some p := fun i j p hp => by simpa [at2] using hp
    refine .inr ⟨b, if c = 1 then q else q + 1 * sz, c - 1, e, cs, fun i j => us (i + 1) j, fun i j => Ds (i + 1) j, ?_, ⟨hg, fun ⟨j, hx⟩ => (hDs 0 j b hx).2 rfl⟩, hh, ?_, by omega, by omega, fun y hy => hz y (List.mem_cons_of_mem _ hy), fun i j p hp => ?_, fun i j x hx => ⟨⟨(hDs _ j x hx).1, fun ⟨j', hx'⟩ => by have := (hdis _ _ _ _ x hx hx').1; omega⟩, (hDs _ j x hx).2⟩, fun i j i' j' x hx hx' => ?_, fun i j p hp => hel _ j p (hat i j p hp)⟩
    · show Value.slice _ _ _ = Value.slice _ _ _
      split
      · rfl
      · rw [Option.map_some, add_at]
    · split
      · rename_i hc0; subst hc0; omega
      · have : 1 * sz + (c - 1) * sz = c * sz := by rw [← Nat.add_mul]; congr 1; omega
        omega
    · have h4 := ha _ j p (hat i j p hp)
      have hi : i < ys.length := by
        unfold at2 at hp
        cases hq : ys[i]? with
        | none => rw [hq] at hp; cases hp
        | some y => exact (List.getElem?_eq_some_iff.1 hq).1
      rw [if_neg (by omega)]
      rw [← h4]
      congr 1
      rw [Nat.add_mul]
      omega
    · have := hdis _ _ _ _ x hx hx'
      exact ⟨by omega, this.2⟩
  have ev : Evo g g1 w w := ⟨fun _ h => .inl h, fun x hx => upd_ne _ _ (fun e => ht2 (e ▸ hx)), fun _ h => h, fun _ _ => rfl, rfl⟩
  have hσ2 : g1.σ t2 = vt := upd_same _ _ _
  have hσo : ∀ t, t ≠ t2 → g1.σ t = g.σ t := fun t hn => upd_ne _ _ hn
  have hD2 : g1.D t2 = Dr := upd_same _ _ _
  have hDk : g1.D tk = fun _ => False := (upd_ne _ _ hne).trans (upd_same _ _ _)
  have hDo : ∀ t, t ≠ t2 → t ≠ tk → g1.D t = g.D t := fun t h1 h2 => (upd_ne _ _ h1).trans (upd_ne _ _ h2)
  have key : ∀ t r, upd (upd res tk (some (.tl sz t2))) t2 (some (.row true sz ys)) t = some r → (t = t2 ∧ r = .row true sz ys) ∨ (t ≠ t2 ∧ t = tk ∧ r = .tl sz t2) ∨ (t ≠ t2 ∧ t ≠ tk ∧ res t = some r) := by
    intro t r h1
    rcases upd_cases h1 with ⟨e1, e2⟩ | ⟨hn, h2⟩
    · exact .inl ⟨e1, by cases e2; rfl⟩
    · rcases upd_cases h2 with ⟨e1, e2⟩ | ⟨hn2, h3⟩
      · exact .inr (.inl ⟨hn, e1, by cases e2; rfl⟩)
      · exact .inr (.inr ⟨hn, hn2, h3⟩)
  refine ⟨g1, b, q, us 0, Ds 0, _, c, ⟨h.below, h.sBase, h.sLt, ?_, ?_, ?_, ?_, ?_⟩, ev, fun x hx => hx, hv, hz el (List.mem_cons_self ..), ?_, ?_, fun i j x hx hx' => (hdis _ _ _ _ x hx hx').2⟩
  · intro t r hrt
    rcases key t r hrt with ⟨rfl, rfl⟩ | ⟨hn, rfl, rfl⟩ | ⟨hn, hn2, hrt⟩
    · refine ⟨.inr rfl, ?_⟩
      show RowOk w g.S (g1.D t) true sz ys (g1.σ t)
      rw [hD2, hσ2]
      exact hrow2
    · refine ⟨.inl hU, .inr rfl, some ⟨b, q, none⟩, ys.length, c, (hσo _ hn).trans ?_, hc1, hσ2⟩
      rw [hv]
      rfl
    · exact ⟨.inl (h.tok t r hrt).1, (h.tok t r hrt).2.evo ev (h.tok t r hrt).1 (hDo t hn hn2) fun _ _ => rfl⟩
  · intro t r x hrt hx
    rcases key t r hrt with ⟨rfl, rfl⟩ | ⟨hn, rfl, rfl⟩ | ⟨hn, hn2, hrt⟩
    · rw [hD2] at hx; exact h.dNew tk _ x hr hx.1
    · rw [hDk] at hx; exact hx.elim
    · rw [hDo t hn hn2] at hx; exact h.dNew t r x hrt hx
  · intro t t' r r' x hrt hrt' hx hx'
    rcases key t r hrt with ⟨rfl, rfl⟩ | ⟨hn, rfl, rfl⟩ | ⟨hn, hn2, k1⟩
    · rcases key t' r' hrt' with ⟨rfl, rfl⟩ | ⟨hn', rfl, rfl⟩ | ⟨hn', hn2', k2⟩
      · rfl
      · rw [hDk] at hx'; exact hx'.elim
      · rw [hD2] at hx
        rw [hDo t' hn' hn2'] at hx'
        exact absurd (h.dApart t' tk r' _ x k2 hr hx' hx.1) hn2'
    · rw [hDk] at hx; exact hx.elim
    · rw [hDo t hn hn2] at hx
      rcases key t' r' hrt' with ⟨rfl, rfl⟩ | ⟨hn', rfl, rfl⟩ | ⟨hn', hn2', k2⟩
      · rw [hD2] at hx'
        exact absurd (h.dApart t tk r _ x k1 hr hx hx'.1) hn2
      · rw [hDk] at hx'; exact hx'.elim
      · rw [hDo t' hn' hn2'] at hx'
        exact h.dApart t t' r r' x k1 k2 hx hx'
  · intro t r x hrt hx hm
    rcases key t r hrt with ⟨rfl, rfl⟩ | ⟨hn, rfl, rfl⟩ | ⟨hn, hn2, hrt⟩
    · rw [hD2] at hx
      rw [hσ2] at hm
      refine h.sMut tk _ x hr hx.1 ?_
      rcases hm with hm | hm
      · exact .inl hm
      · exact .inr (by rw [hkb, ← hvb]; exact hm)
    · exact hm.elim
    · rw [hDo t hn hn2] at hx
      rw [hσo t hn] at hm
      exact h.sMut t r x hrt hx hm
  · intro hdm t r x hrt hx hm
    rcases key t r hrt with ⟨rfl, rfl⟩ | ⟨hn, rfl, rfl⟩ | ⟨hn, hn2, hrt⟩
    · rw [hD2] at hx
      rw [hσ2] at hm
      refine h.sFro hdm tk _ x hr hx.1 fun hq => hm ?_
      rcases hq with hq | hq
      · exact .inl hq
      · exact .inr (by rw [hvb, ← hkb]; exact hq)
    · rw [hDk] at hx; exact hx.elim
    · rw [hDo t hn hn2] at hx
      rw [hσo t hn] at hm
      exact h.sFro hdm t r x hrt hx hm
  · intro j p hp
    have h2 : at2 (el :: ys) 0 j = some p := by simpa [at2] using hp
    have h3 := ha 0 j p h2
    rw [Nat.zero_mul, Nat.add_zero] at h3
    exact ⟨(CellsAt.cell hh).trans h3, hel 0 j p h2⟩
  · intro j
    refine ⟨fun x hx => h.dNew tk _ x hr (hDs 0 j x hx).1, fun hdm x hx => ?_, fun x t r hx hrt hx' => ?_⟩
    · refine h.sFro hdm tk _ x hr (hDs 0 j x hx).1 fun hm => ?_
      rcases hm with hm | hm
      · cases hm
      · rw [hkb] at hm
        cases hm
        exact (hDs 0 j b hx).2 rfl
    · rcases key t r hrt with ⟨rfl, rfl⟩ | ⟨hn, rfl, rfl⟩ | ⟨hn, hn2, hrt⟩
      · rw [hD2] at hx'
        exact hx'.2 ⟨j, hx⟩
      · rw [hDk] at hx'; exact hx'
      · rw [hDo t hn hn2] at hx'
        exact hn2 (h.dApart t tk r _ x hrt hr hx' (hDs 0 j x hx).1)
theorem good_take (hΓ : TGOk P Γ) {t : TypeId} {x : Operand} (ho : o.op = .load t x) (h : kTake Γ dm env res id t x K) : Good P dm o env res id K := by
  have hox : x ∈ o.op.operands := by simp [ho, Op.operands]
  unfold kTake at h
  split at h
  · rename_i tk sz i j hx
    split at h
    · rename_i sz' xs ti hres ht
      obtain ⟨el, ys, ⟨⟨⟨rfl, rfl⟩, rfl, rfl⟩, ⟨hagg, hsz⟩, hle⟩, h⟩ := h
      have hle := Nat.le_of_ble_eq_true hle
      obtain ⟨as, u, hK, hal, hfro⟩ := froL_eq h
      refine ⟨_, _, [(tk, .row true sz (el :: ys))], fun w0 g res w a hM hop hr hid => ?_, by simpa using hres, hK⟩
      have hr1 : res tk = some (.row true sz (el :: ys)) := hr tk _ (by simp)
      obtain ⟨g1, b, q, us, D, n, c, hM1, e1, hU1, hs, hlen, hcell, hfree, hdis⟩ := hM.cutRow (t2 := id + 63) (hid _ (by omega) (by omega)) hr1
      have h1 := hop x hox
      rw [hx] at h1
      obtain ⟨_, b2, q2, n2, c2, hs2, hv⟩ := h1
      rw [hs] at hs2
      simp at hs2
      obtain ⟨⟨rfl, rfl⟩, _, _⟩ := hs2
      have hti := hΓ t ti ht
      let vs : List Value := (List.range sz).map us
      have hvl : vs.length = el.length := by simp [vs, hlen]
      have hvg : ∀ j p, el[j]? = some p → vs[j]? = some (us j) := fun j p hp => by
        have : j < el.length := (List.getElem?_eq_some_iff.1 hp).1
        simp [vs, hlen ▸ this]
      have hrun : (Instr.loadAt t (.pointer (some ⟨b, q, none⟩))).run P w = .ok (.agg vs.toArray) w := run_load_agg hti hagg b q vs (by rw [hvl, hlen, hsz]) fun j v hv => by
        have hj : j < el.length := by rw [← hvl]; exact (List.getElem?_eq_some_iff.1 hv).1
        have h2 := hvg j _ (List.getElem?_eq_getElem hj)
        rw [hv] at h2
        cases h2
        exact (hcell j _ (List.getElem?_eq_getElem hj)).1
      obtain ⟨g2, hM2, e2, hU2, hr2⟩ := hfro false w0 w g1 _ vs D hM1 (fun x h3 h4 h5 => by
        rcases hU1 x h5 with h6 | h6
        · exact hid x h3 (by omega) h6
        · omega) ⟨hvl, fun j p hp => ⟨us j, hvg j p hp, (hcell j p hp).2⟩⟩ hfree hdis
      refine runs_value (v := .agg vs.toArray) (w' := w) ?_ ⟨g2, hM2, e1.trans e2, ⟨vs, rfl, hr2⟩, fun x hx => ?_⟩
      · simp only [execOp, ho, hv]
        simp only [Nat.zero_mul, Nat.add_zero]
        rw [Sem.run_bind, hrun]
        rfl
      · rcases hU2 x hx with h3 | h3
        · rcases hU1 x h3 with h4 | h4
          · exact .inl h4
          · exact .inr (by omega)
        · exact .inr (by omega)
    · exact good_load hΓ ho h
  · exact good_load hΓ ho h
/-- An element, or a slice in it, is taken out with its memory; what is left of the row is frozen. -/
def kLoose (Γ : TG) (dm : Bool) (env : Nat → AV) (res : Res) (id : Nat) (t : TypeId) (x : Operand) (K : KT) : Prop :=
  match opv env x with
  | .c (.rel tk sz i j) => (match dm, res tk, Γ t with
    | false, some (.row true sz' xs), some ti => (match ti.agg with
      | true => kLoad Γ dm env res t x K ∨ ∃ (el : List PV), (((sz = sz' ∧ xs[i]? = some el) ∧ j = 0) ∧ ti.sz = sz ∧ Nat.ble sz 60 = true) ∧ froL id el fun as u => K (.agg as) ((tk, some (.row false sz xs)) :: u) [tk]
      | false => kLoad Γ dm env res t x K ∨ ∃ (el : List PV) (s : Nat) (ys : List (List PV)), ((sz = sz' ∧ xs[i]? = some el) ∧ el[j]? = some (.sl s ys)) ∧ K (.c (.row id)) [(tk, some (.row false sz xs)), (id, some (.fro s ys))] [tk])
    | _, _, _ => kLoad Γ dm env res t x K)
  | _ => kLoad Γ dm env res t x K
theorem Models.loose {w0 : Base} {w : World} {g : G} (h : Models false w0 g res w) {tk sz : Nat} {xs : List (List PV)} (hr : res tk = some (.row true sz xs)) {i : Nat} {el : List PV} (hi : xs[i]? = some el) :
    ∃ (g1 : G) (b q : Nat) (us : Nat → Value) (D : Nat → Nat → Prop) (n c : Nat), Models false w0 g1 (upd res tk (some (.row false sz xs))) w ∧ Evo g g1 w w ∧ (∀ x, g1.U x → g.U x) ∧
      g.σ tk = .slice (some ⟨b, q, none⟩) n c ∧ el.length = sz ∧ (∀ j p, el[j]? = some p → w.cell? ⟨b, q + i * sz + j, none⟩ = some (us j) ∧ Own w (D j) p (us j)) ∧
      (∀ j, Free false w0 g1 (upd res tk (some (.row false sz xs))) w (D j)) ∧ (∀ i j x, D i x → D j x → i = j) := by
  have hU := (h.tok tk _ hr).1
  have hrow : RowOk w g.S (g.D tk) true sz xs (g.σ tk) := (h.tok tk _ hr).2
  rcases hrow with ⟨h0, _⟩ | ⟨b, q, c, e, cs, us, Ds, hv, hg, hh, hsz, hc, hm, hz, ha, hDs, hdis, hel⟩
  · rw [h0] at hi; cases hi
  let g1 : G := ⟨g.σ, upd g.D tk (fun x => x = b), g.S, g.U, g.fr⟩
  have hkb : (g.σ tk).ownBlock = some b := by rw [hv]; rfl
  have hfz : ∀ i j x, Ds i j x → g.S x := fun i j x hx => h.sFro rfl tk _ x hr (hDs i j x hx).1 fun hm => by
    rcases hm with hm | hm
    · cases hm
    · rw [hkb] at hm
      cases hm
      exact (hDs i j b hx).2 rfl
  have hrow2 : RowOk w g.S (fun x => x = b) false sz xs (g.σ tk) :=
    .inr ⟨b, q, c, e, cs, us, fun _ _ _ => False, hv, rfl, hh, hsz, hc, hm, hz, ha, fun _ _ _ h => h.elim, fun _ _ _ _ _ h => h.elim, fun i j p hp => Own.rep (hel i j p hp) fun x hx => hfz i j x hx⟩
  have ev : Evo g g1 w w := ⟨fun _ h => h, fun _ _ => rfl, fun _ h => h, fun _ _ => rfl, rfl⟩
  have hDk : g1.D tk = fun x => x = b := upd_same _ _ _
  have hDo : ∀ t, t ≠ tk → g1.D t = g.D t := fun t hn => upd_ne _ _ hn
  have key : ∀ t r, upd res tk (some (.row false sz xs)) t = some r → (t = tk ∧ r = .row false sz xs) ∨ (t ≠ tk ∧ res t = some r) := by
    intro t r h1
    rcases upd_cases h1 with ⟨e1, e2⟩ | h2
    · exact .inl ⟨e1, by cases e2; rfl⟩
    · exact .inr h2
  have hat : ∀ j p, el[j]? = some p → at2 xs i j = some p := fun j p hp => by simp [at2, hi, hp]
  refine ⟨g1, b, q, us i, Ds i, _, c, ⟨h.below, h.sBase, h.sLt, ?_, ?_, ?_, ?_, ?_⟩, ev, fun x hx => hx, hv, hz el (List.mem_of_getElem? hi), fun j p hp => ⟨(CellsAt.cell hh).trans (ha i j p (hat j p hp)), hel i j p (hat j p hp)⟩, fun j => ⟨fun x hx => h.dNew tk _ x hr (hDs i j x hx).1, fun _ x hx => hfz i j x hx, fun x t r hx hrt hx' => ?_⟩, fun j j' x hx hx' => (hdis _ _ _ _ x hx hx').2⟩
  · intro t r hrt
    rcases key t r hrt with ⟨rfl, rfl⟩ | ⟨hn, hrt⟩
    · refine ⟨hU, ?_⟩
      show RowOk w g.S (g1.D t) false sz xs (g.σ t)
      rw [hDk]
      exact hrow2
    · exact ⟨(h.tok t r hrt).1, (h.tok t r hrt).2.evo ev (h.tok t r hrt).1 (hDo t hn) fun _ _ => rfl⟩
  · intro t r x hrt hx
    rcases key t r hrt with ⟨rfl, rfl⟩ | ⟨hn, hrt⟩
    · rw [hDk] at hx
      subst hx
      exact h.dNew t _ x hr hg
    · rw [hDo t hn] at hx; exact h.dNew t r x hrt hx
  · intro t t' r r' x hrt hrt' hx hx'
    rcases key t r hrt with ⟨rfl, rfl⟩ | ⟨hn, k1⟩ <;> rcases key t' r' hrt' with ⟨e2, rfl⟩ | ⟨hn', k2⟩
    · exact e2.symm
    · rw [hDk] at hx
      rw [hDo t' hn'] at hx'
      subst hx
      exact absurd (h.dApart t' t r' _ x k2 hr hx' hg) hn'
    · subst e2
      rw [hDk] at hx'
      rw [hDo t hn] at hx
      subst hx'
      exact absurd (h.dApart t t' r _ x k1 hr hx hg) hn
    · rw [hDo t hn] at hx
      rw [hDo t' hn'] at hx'
      exact h.dApart t t' r r' x k1 k2 hx hx'
  · intro t r x hrt hx hm
    rcases key t r hrt with ⟨rfl, rfl⟩ | ⟨hn, hrt⟩
    · rw [hDk] at hx
      subst hx
      exact h.sMut t _ x hr hg (.inr hkb)
    · rw [hDo t hn] at hx; exact h.sMut t r x hrt hx hm
  · intro hd t r x hrt hx hm
    rcases key t r hrt with ⟨rfl, rfl⟩ | ⟨hn, hrt⟩
    · rw [hDk] at hx
      subst hx
      exact absurd (.inr hkb) hm
    · rw [hDo t hn] at hx; exact h.sFro hd t r x hrt hx hm
  · rcases key t r hrt with ⟨rfl, rfl⟩ | ⟨hn, hrt⟩
    · rw [hDk] at hx'
      subst hx'
      exact (hDs i j x hx).2 rfl
    · rw [hDo t hn] at hx'
      exact hn (h.dApart t tk r _ x hrt hr hx' (hDs i j x hx).1)
theorem good_loose (hΓ : TGOk P Γ) {t : TypeId} {x : Operand} (ho : o.op = .load t x) (h : kLoose Γ dm env res id t x K) : Good P dm o env res id K := by
  have hox : x ∈ o.op.operands := by simp [ho, Op.operands]
  unfold kLoose at h
  split at h
  · rename_i tk sz i j hx
    split at h
    · rename_i sz' xs ti hres ht
      have hti := hΓ t ti ht
      split at h
      · rename_i hagg
        rcases h with h | h
        · exact good_load hΓ ho h
        obtain ⟨el, ⟨⟨⟨rfl, hi⟩, rfl⟩, hsz, hle⟩, h⟩ := h
        have hle := Nat.le_of_ble_eq_true hle
        obtain ⟨as, u, hK, hal, hfro⟩ := froL_eq h
        refine ⟨_, _, [(tk, .row true sz xs)], fun w0 g res w a hM hop hr hid => ?_, by simpa using hres, hK⟩
        have hr1 : res tk = some (.row true sz xs) := hr tk _ (by simp)
        obtain ⟨g1, b, q, us, D, n, c, hM1, e1, hU1, hs, hlen, hcell, hfree, hdis⟩ := hM.loose hr1 hi
        have h1 := hop x hox
        rw [hx] at h1
        obtain ⟨_, b2, q2, n2, c2, hs2, hv⟩ := h1
        rw [hs] at hs2
        simp at hs2
        obtain ⟨⟨rfl, rfl⟩, _, _⟩ := hs2
        let vs : List Value := (List.range sz).map us
        have hvl : vs.length = el.length := by simp [vs, hlen]
        have hvg : ∀ j p, el[j]? = some p → vs[j]? = some (us j) := fun j p hp => by
          have : j < el.length := (List.getElem?_eq_some_iff.1 hp).1
          simp [vs, hlen ▸ this]
        have hrun : (Instr.loadAt t (.pointer (some ⟨b, q + i * sz, none⟩))).run P w = .ok (.agg vs.toArray) w := run_load_agg hti hagg b (q + i * sz) vs (by rw [hvl, hlen, hsz]) fun j v hv => by
          have hj : j < el.length := by rw [← hvl]; exact (List.getElem?_eq_some_iff.1 hv).1
          have h2 := hvg j _ (List.getElem?_eq_getElem hj)
          rw [hv] at h2
          cases h2
          exact (hcell j _ (List.getElem?_eq_getElem hj)).1
        obtain ⟨g2, hM2, e2, hU2, hr2⟩ := hfro false w0 w g1 _ vs D hM1 (fun x h3 h4 h5 => hid x h3 (by omega) (hU1 x h5)) ⟨hvl, fun j p hp => ⟨us j, hvg j p hp, (hcell j p hp).2⟩⟩ hfree hdis
        refine runs_value (v := .agg vs.toArray) (w' := w) ?_ ⟨g2, hM2, e1.trans e2, ⟨vs, rfl, hr2⟩, fun x hx => ?_⟩
        · simp only [execOp, ho, hv]
          simp only [Nat.add_zero]
          rw [Sem.run_bind, hrun]
          rfl
        · rcases hU2 x hx with h3 | h3
          · exact .inl (hU1 x h3)
          · exact .inr (by omega)
      · rename_i hagg
        rcases h with h | h
        · exact good_load hΓ ho h
        obtain ⟨el, s, ys, ⟨⟨rfl, hi⟩, hj⟩, hK⟩ := h
        refine ⟨_, _, [(tk, .row true sz xs)], fun w0 g res w a hM hop hr hid => ?_, by simpa using hres, hK⟩
        have hr1 : res tk = some (.row true sz xs) := hr tk _ (by simp)
        obtain ⟨g1, b, q, us, D, n, c, hM1, e1, hU1, hs, hlen, hcell, hfree, hdis⟩ := hM.loose hr1 hi
        have h1 := hop x hox
        rw [hx] at h1
        obtain ⟨_, b2, q2, n2, c2, hs2, hv⟩ := h1
        rw [hs] at hs2
        simp at hs2
        obtain ⟨⟨rfl, rfl⟩, _, _⟩ := hs2
        obtain ⟨hc1, hown⟩ := hcell j _ hj
        have hrun : (Instr.loadAt t (.pointer (some ⟨b, q + i * sz + j, none⟩))).run P w = .ok (us j) w := run_load_one hti hagg b (q + i * sz + j) (us j) hc1
        obtain ⟨g2, hM2, e2, hU2, hr2, ho2, _⟩ := hM1.addFro (t := id) (fun hu => hid id (Nat.le_refl _) (by omega) (hU1 id hu)) hown (hfree j)
        refine runs_value (v := us j) (w' := w) ?_ ⟨g2, hM2, e1.trans e2, hr2, fun x hx => ?_⟩
        · simp only [execOp, ho, hv]
          rw [Sem.run_bind, hrun]
          rfl
        · rcases hU2 x hx with h3 | h3
          · exact .inl (hU1 x h3)
          · exact .inr (by omega)
    · exact good_load hΓ ho h
  · exact good_load hΓ ho h
end
end Go.Vi
