/- Rows whose elements are written: an element told cell by cell, and closed again. -/
import Derived.Test.YtnpcgheojijpjaaViOb
set_option linter.unusedVariables false
set_option linter.unusedSimpArgs false
namespace Go.Vi
open Go.RowKit
section
variable {P : Program} {Γ : TG} {dm : Bool} {o : Oper} {env : Nat → AV} {res : Res} {id : Nat} {K : KT}
/-- A token told anew, in an unchanged world. -/
theorem Models.putT {w0 : Base} {w : World} {g : G} (h : Models dm w0 g res w) (t : Nat) (v : Value) (r : ARes) (D S' : Nat → Prop) (hσ : g.U t → g.σ t = v) (hS : ∀ x, g.S x → S' x) (hSn : ∀ x, S' x → g.S x ∨ (D x ∧ ¬ Mut dm v r x))
    (hnew : ∀ x, D x → (w0.E x ∨ w0.heap.size ≤ x) ∧ x < w.heap.size) (hoff : ∀ x t' r', t' ≠ t → D x → res t' = some r' → ¬ g.D t' x) (hmut : ∀ x, D x → Mut dm v r x → ¬ g.S x) (hfro : dm = false → ∀ x, D x → ¬ Mut false v r x → S' x)
    (hok : Evo g (g.mk1 t v D S') w w → TokOk (g.mk1 t v D S') w t r) : Models dm w0 (g.mk1 t v D S') (upd res t (some r)) w ∧ Evo g (g.mk1 t v D S') w w := by
  have ev : Evo g (g.mk1 t v D S') w w := ⟨fun _ h => .inl h, fun x hx => by
    by_cases e : x = t
    · subst e
      show upd g.σ x v x = g.σ x
      rw [upd_same]; exact (hσ hx).symm
    · exact upd_ne _ _ e, hS, fun _ _ => rfl, rfl⟩
  have hDo : ∀ t', t' ≠ t → (g.mk1 t v D S').D t' = g.D t' := fun t' hn => upd_ne _ _ hn
  have hDn : (g.mk1 t v D S').D t = D := upd_same _ _ _
  have hσo : ∀ t', t' ≠ t → (g.mk1 t v D S').σ t' = g.σ t' := fun t' hn => upd_ne _ _ hn
  have hσn : (g.mk1 t v D S').σ t = v := upd_same _ _ _
  have key : ∀ t' r', upd res t (some r) t' = some r' → (t' = t ∧ r' = r) ∨ (t' ≠ t ∧ res t' = some r') := by
    intro t' r' h1
    rcases upd_cases h1 with ⟨e1, e2⟩ | h2
    · exact .inl ⟨e1, by cases e2; rfl⟩
    · exact .inr h2
  refine ⟨⟨h.below, fun x hx hE => hS x (h.sBase x hx hE), ?_, ?_, ?_, ?_, ?_, ?_⟩, ev⟩
  · intro x hx
    rcases hSn x hx with hx | hx
    · exact h.sLt x hx
    · exact (hnew x hx.1).2
  · intro t' r' hr
    rcases key t' r' hr with ⟨rfl, rfl⟩ | ⟨hn, hr⟩
    · exact ⟨.inr rfl, hok ev⟩
    · exact ⟨.inl (h.tok t' r' hr).1, (h.tok t' r' hr).2.evo ev (h.tok t' r' hr).1 (hDo t' hn) fun _ _ => rfl⟩
  · intro t' r' x hr hx
    rcases key t' r' hr with ⟨rfl, rfl⟩ | ⟨hn, hr⟩
    · rw [hDn] at hx; exact hnew x hx
    · rw [hDo t' hn] at hx; exact h.dNew t' r' x hr hx
  · intro t1 t2 r1 r2 x h1 h2 hx1 hx2
    rcases key t1 r1 h1 with ⟨rfl, rfl⟩ | ⟨hn1, k1⟩ <;> rcases key t2 r2 h2 with ⟨e2, rfl⟩ | ⟨hn2, k2⟩
    · exact e2.symm
    · rw [hDn] at hx1
      rw [hDo t2 hn2] at hx2
      exact absurd hx2 (hoff x t2 r2 hn2 hx1 k2)
    · subst e2
      rw [hDn] at hx2
      rw [hDo t1 hn1] at hx1
      exact absurd hx1 (hoff x t1 r1 hn1 hx2 k1)
    · rw [hDo t1 hn1] at hx1
      rw [hDo t2 hn2] at hx2
      exact h.dApart t1 t2 r1 r2 x k1 k2 hx1 hx2
  · intro t' r' x hr hx hm hs
    rcases key t' r' hr with ⟨rfl, rfl⟩ | ⟨hn, hr⟩
    · rw [hDn] at hx
      rw [hσn] at hm
      rcases hSn x hs with hs | hs
      · exact hmut x hx hm hs
      · exact hs.2 hm
    · rw [hDo t' hn] at hx
      rw [hσo t' hn] at hm
      rcases hSn x hs with hs | hs
      · exact h.sMut t' r' x hr hx hm hs
      · exact hoff x t' r' hn hs.1 hr hx
  · intro hdm t' r' x hr hx hm
    rcases key t' r' hr with ⟨rfl, rfl⟩ | ⟨hn, hr⟩
    · rw [hDn] at hx
      rw [hσn] at hm
      exact hfro hdm x hx hm
    · rw [hDo t' hn] at hx
      rw [hσo t' hn] at hm
      exact hS x (h.sFro hdm t' r' x hr hx hm)
/-- A row of a call's result that is not frozen. -/
theorem Models.addRaw {w0 : Base} {w : World} {g : G} (h : Models dm w0 g res w) {t : Nat} (ht : ¬ g.U t) {D : Nat → Prop} {sz : Nat} {xs : List (List PV)} {v : Value} (hown : Own w D (.sl sz xs) v) (hF : Fr w0 g res w D) :
    ∃ g', Models dm w0 g' (upd res t (some (.raw sz xs))) w ∧ Evo g g' w w ∧ (∀ x, g'.U x → g.U x ∨ x = t) ∧ RepC g' w (.row t) v ∧ v.oneCell' = true ∧
      ∀ D', Fr w0 g res w D' → (∀ x, D x → ¬ D' x) → Fr w0 g' (upd res t (some (.raw sz xs))) w D' := by
  have hσn : (g.mk1 t v D g.S).σ t = v := upd_same _ _ _
  have hDn : (g.mk1 t v D g.S).D t = D := upd_same _ _ _
  obtain ⟨hM, ev⟩ := h.putT t v (.raw sz xs) D g.S (fun hu => absurd hu ht) (fun _ h => h) (fun _ h => .inl h) hF.new (fun x t' r' _ hx hr => hF.off x t' r' hx hr) (fun x hx _ => hF.offS x hx) (fun _ x _ hm => absurd trivial hm) (fun _ => by
    show RowOk w g.S ((g.mk1 t v D g.S).D t) true sz xs ((g.mk1 t v D g.S).σ t)
    rw [hDn, hσn]
    exact row_of_own hown)
  refine ⟨_, hM, ev, fun x hx => hx, ⟨.inr rfl, hσn.symm, hown.one⟩, hown.one, fun D' hD' hdis => ⟨hD'.new, hD'.offS, fun x t' r' hx hr hx' => ?_⟩⟩
  rcases upd_cases hr with ⟨rfl, _⟩ | ⟨hn, hr⟩
  · rw [hDn] at hx'
    exact hdis x hx' hx
  · have : (g.mk1 t v D g.S).D t' = g.D t' := upd_ne _ _ hn
    rw [this] at hx'
    exact hD'.off x t' r' hx hr hx'
def rawC (k : Nat) (p : PV) (K : AC → Upd → Prop) : Prop :=
  match p with
  | .int q n => K (.pv (.int q n)) []
  | .bool b => K (.pv (.bool b)) []
  | .str s => K (.pv (.str s)) []
  | .fn f => K (.pv (.fn f)) []
  | .err b => K (.pv (.err b)) []
  | .any v => K (.pv (.any v)) []
  | .sl sz xs => K (.row k) [(k, some (.raw sz xs))]
def rawL : Nat → List PV → (List AC → Upd → Prop) → Prop
  | _, [], K => K [] []
  | k, p :: l, K => rawC k p fun a u => rawL (k + 1) l fun as us => K (a :: as) (u ++ us)
def rawV (k : Nat) (r : VV) (K : AV → Upd → Prop) : Prop :=
  match r with
  | .one p => rawC k p fun a u => K (.c a) u
  | .agg ps => rawL k ps fun as u => match Nat.ble ps.length 64 with
    | true => K (.agg as) u
    | false => False
  | _ => False
def rawR (k : Nat) (rs : List VV) (K : AV → Upd → Prop) : Prop :=
  match rs with
  | [.agg ps] => rawL k ps fun as u => match Nat.ble ps.length 64 with
    | true => K (.agg as) u
    | false => False
  | _ => False
theorem rawC_eq {k : Nat} {p : PV} {K : AC → Upd → Prop} (h : rawC k p K) : ∃ a u, K a u ∧ ∀ (dm : Bool) (w0 : Base) (w : World) (g : G) (res : Res) (v : Value) (D : Nat → Prop), Models dm w0 g res w → ¬ g.U k → Own w D p v → Fr w0 g res w D →
    ∃ g', Models dm w0 g' (updL res u) w ∧ Evo g g' w w ∧ (∀ x, g'.U x → g.U x ∨ x = k) ∧ RepC g' w a v ∧ v.oneCell' = true ∧ ∀ D', Fr w0 g res w D' → (∀ x, D x → ¬ D' x) → Fr w0 g' (updL res u) w D' := by
  have flat : ∀ (p : PV), p.flat = true → K (.pv p) [] → ∃ a u, K a u ∧ ∀ (dm : Bool) (w0 : Base) (w : World) (g : G) (res : Res) (v : Value) (D : Nat → Prop), Models dm w0 g res w → ¬ g.U k → Own w D p v → Fr w0 g res w D →
      ∃ g', Models dm w0 g' (updL res u) w ∧ Evo g g' w w ∧ (∀ x, g'.U x → g.U x ∨ x = k) ∧ RepC g' w a v ∧ v.oneCell' = true ∧ ∀ D', Fr w0 g res w D' → (∀ x, D x → ¬ D' x) → Fr w0 g' (updL res u) w D' := by
    intro p hf hK
    refine ⟨_, _, hK, fun dm w0 w g res v D hM _ hown _ => ⟨g, hM, Evo.refl _ _, fun _ h => .inl h, ?_, hown.one, fun D' h _ => h⟩⟩
    exact Own.rep (D := fun _ => False) (hown.flat_D hf) fun _ h => h.elim
  unfold rawC at h
  split at h
  · exact flat _ rfl h
  · exact flat _ rfl h
  · exact flat _ rfl h
  · exact flat _ rfl h
  · exact flat _ rfl h
  · exact flat _ rfl h
  · exact ⟨_, _, h, fun dm w0 w g res v D hM hk hown hF => hM.addRaw hk hown hF⟩
theorem rawL_eq : ∀ {ps : List PV} {k : Nat} {K : List AC → Upd → Prop}, rawL k ps K → ∃ as u, K as u ∧ as.length = ps.length ∧ ∀ (dm : Bool) (w0 : Base) (w : World) (g : G) (res : Res) (vs : List Value) (D : Nat → Nat → Prop), Models dm w0 g res w →
    (∀ x, k ≤ x → x < k + ps.length → ¬ g.U x) → OwnPs w D ps vs → (∀ j, Fr w0 g res w (D j)) → (∀ i j x, D i x → D j x → i = j) →
    ∃ g', Models dm w0 g' (updL res u) w ∧ Evo g g' w w ∧ (∀ x, g'.U x → g.U x ∨ (k ≤ x ∧ x < k + ps.length)) ∧ RepCs g' w as vs ∧ ∀ D', Fr w0 g res w D' → (∀ j x, D j x → ¬ D' x) → Fr w0 g' (updL res u) w D'
  | [], k, K, h => by
    simp only [rawL] at h
    refine ⟨_, _, h, rfl, fun dm w0 w g res vs D hM _ hv _ _ => ⟨g, hM, Evo.refl _ _, fun _ h => .inl h, ⟨hv.1, by simp⟩, fun D' h _ => h⟩⟩
  | p :: ps, k, K, h => by
    simp only [rawL] at h
    obtain ⟨a, u, h, h1⟩ := rawC_eq h
    obtain ⟨as, us, hK, hl, h2⟩ := rawL_eq h
    refine ⟨_, _, hK, by simp [hl], fun dm w0 w g res vs D hM hU hv hF hdis => ?_⟩
    cases vs with
    | nil => have := hv.1; simp at this
    | cons v vs =>
      obtain ⟨v0, hv0, hown⟩ := hv.2 0 p rfl
      simp at hv0
      subst hv0
      obtain ⟨g1, hM1, e1, hU1, hr1, ho1, hfr1⟩ := h1 dm w0 w g res v (D 0) hM (hU k (Nat.le_refl _) (by simp)) hown (hF 0)
      obtain ⟨g2, hM2, e2, hU2, hr2, hfr2⟩ := h2 dm w0 w g1 (updL res u) vs (fun j => D (j + 1)) hM1 (fun x h3 h4 h5 => by
        rcases hU1 x h5 with h6 | h6
        · exact hU x (by omega) (by simp; omega) h6
        · omega) ⟨by have := hv.1; simpa using this, fun j p' hp => by simpa using hv.2 (j + 1) p' (by simpa using hp)⟩
        (fun j => hfr1 _ (hF (j + 1)) fun x hx hx' => by have := hdis 0 (j + 1) x hx hx'; omega) (fun i j x hx hx' => by have := hdis _ _ x hx hx'; omega)
      refine ⟨g2, by rw [updL_append]; exact hM2, e1.trans e2, fun x hx => ?_, ⟨by simp [hr2.1], fun j b hb => ?_⟩, fun D' hD' hd => ?_⟩
      · rcases hU2 x hx with h3 | h3
        · rcases hU1 x h3 with h4 | h4
          · exact .inl h4
          · exact .inr (by simp; omega)
        · exact .inr (by simp; omega)
      · cases j with
        | zero => simp at hb; subst hb; exact ⟨v, rfl, ho1, hr1.evo e2⟩
        | succ j => simpa using hr2.2 j b (by simpa using hb)
      · rw [updL_append]
        exact hfr2 D' (hfr1 D' hD' fun x hx => hd 0 x hx) fun j x hx => hd (j + 1) x hx
theorem rawR_eq {k : Nat} {rs : List VV} {K : AV → Upd → Prop} (h : rawR k rs K) : ∃ a u, K a u ∧ ∀ (dm : Bool) (w0 : Base) (w : World) (g : G) (res : Res) (v : Value) (D : Nat → Prop), Models dm w0 g res w →
    (∀ x, k ≤ x → x < k + 1024 → ¬ g.U x) → RetOk w D rs v → (∀ D', (∀ x, D' x → D x) → Fr w0 g res w D') →
    ∃ g', Models dm w0 g' (updL res u) w ∧ Evo g g' w w ∧ (∀ x, g'.U x → g.U x ∨ (k ≤ x ∧ x < k + 1024)) ∧ RepAV g' w a v := by
  unfold rawR at h
  split at h
  · rename_i ps
    obtain ⟨as, u, h, hal, h1⟩ := rawL_eq h
    split at h
    · rename_i hle
      have hle := Nat.le_of_ble_eq_true hle
      refine ⟨_, _, h, fun dm w0 w g res v D hM hU hv hF => ?_⟩
      obtain ⟨us, rfl, hl, Ds, hD, hdis, hus⟩ := hv
      obtain ⟨u0, hu0, vs, rfl, hown⟩ := hus 0 (.agg ps) rfl
      have hus1 : us = [.agg vs.toArray] := by
        cases us with
        | nil => simp at hl
        | cons x l => cases l with
          | nil => simp at hu0; rw [hu0]
          | cons y l => simp at hl
      subst hus1
      obtain ⟨g1, hM1, e1, hU1, hr1, _⟩ := h1 dm w0 w g res vs (Ds 0) hM (fun x h3 h4 => hU x h3 (by omega)) hown (fun j => hF _ (hD 0 j)) (fun i j x hx hx' => (hdis 0 i 0 j x hx hx').2)
      exact ⟨g1, hM1, e1, fun x hx => (hU1 x hx).imp id fun h => by omega, ⟨vs, rfl, hr1⟩⟩
    · exact h.elim
  · exact h.elim
def kCurR (P : Program) (Γ : TG) (env : Nat → AV) (res : Res) (nx n : Nat) (f : FuncId) (args : List Operand) (ts : List TypeId) (dst : Option Tmp) (K : AS → Prop) : Prop :=
  match args with
  | x0 :: rest => (match opv env x0 with
    | .c (.ptr t 0) => (match res t with
      | some (.box [a0, .pv (.int .i64 i), .pv (.int .i64 h)]) => pvA res a0 fun p r0 => (match p with
        | .sl sz code => argsA Γ env res rest ts fun as rd => (match memT t (r0 ++ rd) with
          | false => 0 ≤ i ∧ ∃ Q, CurC P f sz code as Q ∧ ∀ (rs : List VV) (i' h' : Int), Q rs → 0 ≤ i' → rawR nx rs fun v u => putA ⟨env, res, nx, n⟩ dst v ((t, some (.box [a0, .pv (.int .i64 i'), .pv (.int .i64 h')])) :: u) (nx + 1024) K
          | true => False)
        | _ => False)
      | _ => False)
    | _ => False)
  | [] => False
theorem inl_curR {env : Nat → AV} {res : Res} {nx n : Nat} {f : FuncId} {args : List Operand} {dst : Option Tmp} {K : AS → Prop} (ts : List TypeId)
    (h : kCurR P Γ env res nx n f args ts dst K) : InlA P false env res nx n f args dst K := by
  unfold kCurR at h
  split at h
  · rename_i x0 rest
    split at h
    · rename_i t hx0
      split at h
      · rename_i a0 i h0 hrt
        obtain ⟨p, r0, h, rs0, hrs0, hm0, hrep0⟩ := pvA_eqS h
        split at h
        · rename_i sz code
          obtain ⟨as, rd, h, rs1, hrs1, hm1, hrep1⟩ := argsA_eqS h
          split at h
          · rename_i hmem
            obtain ⟨hi, Q, hC, h⟩ := h
            have hnot := memT_no hmem
            refine ⟨hC.enter, fun w0 g w a hS => ?_⟩
            have hM := hS.mod
            -- the cursor's box
            have hbox := (hM.tok t _ hrt)
            obtain ⟨hU, b, ty, vs, hσ, hDb, hh, hcs⟩ := hbox
            have hp0 : RepAV g w (.c (.ptr t 0)) (a.eval x0) := by rw [← hx0]; exact hS.eval x0
            obtain ⟨_, b', hσ', hv0⟩ : RepPtr g t 0 (a.eval x0) := hp0
            rw [hσ] at hσ'; cases hσ'
            have hl3 : vs.length = 3 := hcs.1
            obtain ⟨u0, u1, u2, rfl⟩ : ∃ u0 u1 u2, vs = [u0, u1, u2] := by
              match vs, hl3 with
              | [u0, u1, u2], _ => exact ⟨_, _, _, rfl⟩
            obtain ⟨c0, e0, o0, r00⟩ := hcs.2 0 a0 rfl
            obtain ⟨c1, e1, o1, r1⟩ := hcs.2 1 _ rfl
            obtain ⟨c2, e2, o2, r2⟩ := hcs.2 2 _ rfl
            simp at e0 e1 e2
            subst e0 e1 e2
            have r1 := rep_int (g := g) (w := w) r1
            have r2 := rep_int (g := g) (w := w) r2
            subst r1 r2
            have hbS : ¬ g.S b := hM.sMut t _ b hrt hDb trivial
            have hblt : b < w.heap.size := blk_lt' hh
            have hSS : ∀ x, g.S x → x < w.heap.size ∧ x ≠ b := fun x hx => ⟨hM.sLt x hx, fun he => hbS (he ▸ hx)⟩
            have hDD : ∀ t' r x, res t' = some r → t' ≠ t → g.D t' x → x < w.heap.size ∧ x ≠ b := fun t' r x hr hn hx => ⟨(hM.dNew t' r x hr hx).2, fun he => hn (hM.dApart t' t r _ x hr hrt hx (he ▸ hDb))⟩
            have q0 := hrep0 false w0 g res w hM hrs0 (fun x => x < w.heap.size ∧ x ≠ b) hSS (fun t' r x hq hx => hDD t' r x (hrs0 t' r hq) (fun he => hnot (by
              rw [List.mem_append]; left; rw [← hm0]; subst he; exact List.mem_map.2 ⟨_, hq, rfl⟩)) hx) u0 r00
            have q1 := hrep1 false w0 g res w a hM hrs1 (fun x => x < w.heap.size ∧ x ≠ b) hSS (fun t' r x hq hx => hDD t' r x (hrs1 t' r hq) (fun he => hnot (by
              rw [List.mem_append]; right; rw [← hm1]; subst he; exact List.mem_map.2 ⟨_, hq, rfl⟩)) hx) (fun x _ => hS.eval x)
            have hc := hC.calls w b ty u0 i h0 (rest.map a.eval) hM.below.laid (hM.low hrt hDb) hh q0 hi q1
            have hargs : ((x0 :: rest).map a.eval).toArray = (Value.pointer (some ⟨b, 0, none⟩) :: rest.map a.eval).toArray := by rw [List.map_cons, hv0]
            rw [hargs]
            refine hc.mono fun e w' hpost => ?_
            obtain ⟨v, D, rs, i', h', ty', rfl, hQ, hi', hret, hDnew, hK, hh'⟩ := hpost
            have h := h rs i' h' hQ hi'
            obtain ⟨av, u, hput, htok⟩ := rawR_eq h
            -- the world with the cursor moved alone
            let cs' : Array Value := #[u0, .int .i64 i', .int .i64 h']
            let w1 : World := { w with heap := w.heap.set b (.cells cs' ty' (0, 0)) hblt }
            have hw1 : ∀ x, x ≠ b → w1.heap[x]? = w.heap[x]? := fun x hx => Array.getElem?_set_ne hblt (fun e => hx e.symm)
            have hw1b : w1.heap[b]? = some (.cells cs' ty' (0, 0)) := by
              show (w.heap.set b _ hblt)[b]? = _
              simp
            have hs1 : w1.heap.size = w.heap.size := by simp [w1]
            obtain ⟨hM1, ev1⟩ := hM.set (w' := w1) (r' := .box [a0, .pv (.int .i64 i'), .pv (.int .i64 h')]) hrt hDb trivial hw1 hs1 rfl rfl rfl (fun _ => Iff.rfl) (fun _ => Iff.rfl) fun ev => by
              refine ⟨b, ty', [u0, .int .i64 i', .int .i64 h'], hσ, hDb, hw1b, rfl, fun j ac hac => ?_⟩
              match j with
              | 0 => cases hac; exact ⟨u0, rfl, o0, r00.evo ev⟩
              | 1 => cases hac; exact ⟨_, rfl, rfl, .int _ _⟩
              | 2 => cases hac; exact ⟨_, rfl, rfl, .int _ _⟩
            have hsame : ∀ x, x < w.heap.size → w'.heap[x]? = w1.heap[x]? := by
              intro x hx
              by_cases hxb : x = b
              · subst hxb; rw [hh', hw1b]
              · rw [hw1 x hxb]; exact hK.block x hx hxb
            have hsz' : w1.heap.size ≤ w'.heap.size := by rw [hs1]; exact hK.size
            have ev0 : Evo g g w1 w' := ⟨fun _ h => h, fun _ _ => rfl, fun _ h => h, fun x hx => hsame x (hM.sLt x hx), rfl⟩
            have hM0 : Models false w0 g (upd res t (some (.box [a0, .pv (.int .i64 i'), .pv (.int .i64 h')]))) w' := by
              have hs0 := hM1.below.size
              refine ⟨hM1.below.to hK.os hK.tape hK.output hsz' (fun k hk _ => hsame k (by omega)), hM1.sBase, fun x hx => by have := hM1.sLt x hx; omega,
                fun t r hr' => ⟨(hM1.tok t r hr').1, (hM1.tok t r hr').2.evo ev0 (hM1.tok t r hr').1 rfl fun x hx => hsame x (by have := (hM1.dNew t r x hr' hx).2; omega)⟩,
                fun t r x hr' hx => by have := hM1.dNew t r x hr' hx; exact ⟨this.1, by omega⟩, hM1.dApart, hM1.sMut, hM1.sFro⟩
            have hUn : ∀ x, nx ≤ x → x < nx + 1024 → ¬ g.U x := fun x h1 h2 h3 => by have h9 : x < nx := hS.next x h3; omega
            obtain ⟨g1, hM2, ev2, hU2, hr2⟩ := htok false w0 w' g (upd res t (some (.box [a0, .pv (.int .i64 i'), .pv (.int .i64 h')]))) v D hM0 hUn hret fun D' hD' => ⟨fun x hx => by have := hDnew x (hD' x hx); have := hM1.below.size; exact ⟨.inr (by omega), by omega⟩, fun x hx hS => by have := hDnew x (hD' x hx); have := hM1.sLt x hS; omega,
              fun x t r hx hr' hx' => by have := hDnew x (hD' x hx); have := hM1.dNew t r x hr' hx'; omega⟩
            obtain ⟨s2, hK2, hS2⟩ := hS.put hput (w' := w') (g' := g1) hM2 ((ev1.trans ev0).trans ev2) hr2 (fun t ht => by
              rcases hU2 t ht with h1 | h1
              · have h9 : t < nx := hS.next t h1; omega
              · omega)
            exact ⟨v, s2, g1, rfl, hS2, hK2⟩
          · exact h.elim
        · exact h.elim
      · exact h.elim
    · exact h.elim
  · exact h.elim

def kNdR (P : Program) (Γ : TG) (env : Nat → AV) (res : Res) (nx n : Nat) (f : FuncId) (args : List Operand) (ts : List TypeId) (dst : Option Tmp) (K : AS → Prop) : Prop :=
  argsA Γ env res args ts fun as rd => ∃ Q, NdC P f as Q ∧ ∀ rs : List VV, Q rs → rawR nx rs fun v u => putA ⟨env, res, nx, n⟩ dst v u (nx + 1024) K
theorem inl_ndR {dm : Bool} {env : Nat → AV} {res : Res} {nx n : Nat} {f : FuncId} {args : List Operand} {dst : Option Tmp} {K : AS → Prop} (ts : List TypeId) (h : kNdR P Γ env res nx n f args ts dst K) : InlA P dm env res nx n f args dst K := by
  obtain ⟨as, rd, ⟨Q, hC, h⟩, rs1, hrs1, hm1, hrep1⟩ := argsA_eq h
  refine ⟨hC.enter, fun w0 g w a hS => ?_⟩
  have hM := hS.mod
  have q1 := hrep1 dm w0 g res w a hM hrs1 (fun x _ => hS.eval x)
  refine (hC.calls w _ hM.below.laid q1).mono fun e w' hpost => ?_
  obtain ⟨v, D, rs, rfl, hQ, hret, hDnew, hB⟩ := hpost
  obtain ⟨av, u, hput, htok⟩ := rawR_eq (h rs hQ)
  have hSz := hB.size
  have hsame : ∀ x, x < w.heap.size → w'.heap[x]? = w.heap[x]? := fun x hx => hB.block x hx
  have ev0 : Evo g g w w' := ⟨fun _ h => h, fun _ _ => rfl, fun _ h => h, fun x hx => hsame x (hM.sLt x hx), rfl⟩
  have hM0 : Models dm w0 g res w' := by
    have hs0 := hM.below.size
    refine ⟨hM.below.to hB.os hB.tape hB.output hB.size (fun k hk _ => hB.block k (by omega)), hM.sBase, fun x hx => by have := hM.sLt x hx; omega, fun t r hr' => ⟨(hM.tok t r hr').1, (hM.tok t r hr').2.evo ev0 (hM.tok t r hr').1 rfl fun x hx => hsame x (hM.dNew t r x hr' hx).2⟩, fun t r x hr' hx => by have := hM.dNew t r x hr' hx; exact ⟨this.1, by omega⟩, hM.dApart, hM.sMut, hM.sFro⟩
  have hUn : ∀ x, nx ≤ x → x < nx + 1024 → ¬ g.U x := fun x h1 h2 h3 => by have h9 : x < nx := hS.next x h3; omega
  obtain ⟨g1, hM2, ev2, hU2, hr2⟩ := htok dm w0 w' g res v D hM0 hUn hret fun D' hD' => ⟨fun x hx => by have := hDnew x (hD' x hx); have := hM.below.size; exact ⟨.inr (by omega), by omega⟩, fun x hx hS => by have := hDnew x (hD' x hx); have := hM.sLt x hS; omega,
    fun x t r hx hr' hx' => by have := hDnew x (hD' x hx); have := hM.dNew t r x hr' hx'; omega⟩
  obtain ⟨s2, hK2, hS2⟩ := hS.put hput (w' := w') (g' := g1) hM2 (ev0.trans ev2) hr2 (fun t ht => by
    rcases hU2 t ht with h1 | h1
    · have h9 : t < nx := hS.next t h1; omega
    · omega)
  exact ⟨v, s2, g1, rfl, hS2, hK2⟩
theorem curC_ofL (hΓ : TGOk P Γ) {il : List Nat} {draw : Nat → Array Oper → AS → (AS → Prop) → Prop} (hdraw : DrawOk P Γ false draw) {f : FuncId} {fn : Func} {c : Code} {sz : Nat} {code : List (List PV)} {args : List VV} {Q : List VV → Prop} (hf : P.funcs[f]? = some fn) (hb : fn.body = some c) (hname : (fn.name == "runtime.NumGoroutine") = false)
    {n : Nat} (hnt : fn.ntmps = n) (hn : args.length + 1 ≤ n)
    (h : ∀ i h0 : Int, 0 ≤ i → codeA P Γ false il draw c (curS sz code i h0 args n) fun e s => match e with
      | .exit _ => False
      | _ => ∃ s', Le false s s' ∧ retC Γ s' fn.results.toList fn.resultTypes.toList Q) : CurC P f sz code args Q := by
  refine ⟨⟨fn, hf, hname, by rw [hb]; rfl⟩, fun w b ty u i h0 vals hq hlow hh hu hi hvals => ?_⟩
  have h := h i h0 hi
  refine calls_of_wp hf hb ?_
  have hblt : b < w.heap.size := blk_lt' hh
  let F : Nat → Value := fun k => match k with
    | 0 => .pointer (some ⟨b, 0, none⟩)
    | 1 => u
    | _ => undef
  let w0 : Base := ⟨w, fun x => x = b, fun _ => none, fun _ _ h => (by cases h), fun t => match t with
    | 2 => some F
    | _ => none, hq, fun x hx => hx ▸ hlow⟩
  let g0 : G := ⟨fun t => match t with
    | 0 => .pointer (some ⟨b, 0, none⟩)
    | 1 => u
    | _ => undef, fun t x => t = 0 ∧ x = b, fun x => x < w.heap.size ∧ x ≠ b, fun t => t < 64, fun t => match t with
    | 2 => F
    | _ => fun _ => undef⟩
  have huo : u.oneCell' = true := hu.one
  have hM : Models false w0 g0 (curR sz code i h0) w := by
    refine ⟨⟨rfl, rfl, rfl, Nat.le_refl _, fun _ _ _ => rfl⟩, fun x hx hE => ⟨hx, hE⟩, fun _ h => h.1, ?_, ?_, ?_, ?_, ?_⟩
    · intro t r hr
      match t with
      | 0 =>
        cases hr
        refine ⟨(by decide : 0 < 64), b, ty, [u, .int .i64 i, .int .i64 h0], rfl, ⟨rfl, rfl⟩, hh, rfl, fun j ac hac => ?_⟩
        match j with
        | 0 => cases hac; exact ⟨u, rfl, huo, (by decide : 1 < 64), rfl, huo⟩
        | 1 => cases hac; exact ⟨_, rfl, rfl, .int _ _⟩
        | 2 => cases hac; exact ⟨_, rfl, rfl, .int _ _⟩
      | 1 => cases hr; exact ⟨(by decide : 1 < 64), hu⟩
      | 2 =>
        cases hr
        refine ⟨(by decide : 2 < 64), fun k v hk => ?_⟩
        rcases List.mem_cons.1 hk with hk | hk
        · cases hk
          exact ⟨(by decide : 0 < 64), b, rfl, rfl⟩
        · rcases List.mem_cons.1 hk with hk | hk
          · cases hk
            exact ⟨(by decide : 1 < 64), rfl, huo⟩
          · cases hk
      | t + 3 => cases hr
    · rintro t r x hr ⟨rfl, rfl⟩
      exact ⟨.inl rfl, hblt⟩
    · rintro t t' r r' x _ _ ⟨rfl, _⟩ ⟨rfl, _⟩
      rfl
    · rintro t r x hr ⟨rfl, rfl⟩ _ hS
      exact hS.2 rfl
    · rintro _ t r x hr ⟨rfl, rfl⟩ hm
      cases hr
      exact absurd trivial hm
  subst hnt
  have hS : Sim false w0 (curS sz code i h0 args fn.ntmps) g0 w { tmps := (Value.pointer (some ⟨b, 0, none⟩) :: vals).toArray ++ Array.replicate (fn.ntmps - (Value.pointer (some ⟨b, 0, none⟩) :: vals).toArray.size) undef, defers := [] } := by
    refine ⟨hM, fun t => ?_, ?_, rfl, fun x h => h, fun h => (by cases h), fun t F' h => ?_⟩
    · rw [argTmps]
      match t with
      | 0 => exact ⟨(by decide : 0 < 64), b, rfl, rfl⟩
      | t + 1 =>
        show RepAV g0 w (initEnv args t) _
        unfold initEnv
        rw [nth_eq]
        cases ha : args[t]? with
        | none =>
          have ht : args.length ≤ t := by
            rcases Nat.lt_or_ge t args.length with h1 | h1
            · rw [List.getElem?_eq_getElem h1] at ha; cases ha
            · exact h1
          rw [List.getD_eq_getElem?_getD, List.getElem?_eq_none (by simp; rw [hvals.1]; omega)]
          rfl
        | some q =>
          obtain ⟨x, hx, hr⟩ := hvals.2 t q ha
          have he : (Value.pointer (some ⟨b, 0, none⟩) :: vals).getD (t + 1) undef = x := by rw [List.getD_eq_getElem?_getD, List.getElem?_cons_succ, hx]; rfl
          rw [he]
          cases q with
          | one p => exact rav hr
          | agg ps =>
            obtain ⟨vs, rfl, hl, hp⟩ := hr
            exact ⟨vs, rfl, repCs_pvs hl hp⟩
          | ptr c => exact hr
          | clo f caps => exact hr
    · have := hvals.1
      simp [curS]; omega
    · match t with
      | 2 => cases h; rfl
      | 0 => cases h
      | 1 => cases h
      | t + 3 => cases h
  refine codeA_sound hΓ hdraw c h hS fun e s0 g1 w' a hS0 hK0 => ?_
  have hK1 : ∃ s', Le false s0 s' ∧ retC Γ s' fn.results.toList fn.resultTypes.toList Q := by
    cases e with
    | normal => exact hK0
    | ret => exact hK0
    | exit i => exact hK0.elim
  obtain ⟨s, hle, hK⟩ := hK1
  obtain ⟨g, hS'⟩ := hle _ _ _ _ hS0
  have key : retC Γ s fn.results.toList fn.resultTypes.toList Q → a.defers = [] ∧ ∃ v, (results fn a.tmps).run P w' = .ok v w' ∧ ∃ v' D rs i' h' ty', Ending.returned v = Ending.returned v' ∧ Q rs ∧ 0 ≤ i' ∧ RetOk w' D rs v' ∧
      (∀ x, D x → w.heap.size ≤ x ∧ x < w'.heap.size) ∧ Kept (fun x => x = b) w w' ∧ w'.heap[b]? = some (.cells #[u, .int .i64 i', .int .i64 h'] ty' (0, 0)) := by
    intro hret
    obtain ⟨vs, h1, hvl, hrun⟩ := resA_eq hΓ hret
    obtain ⟨as, ts, own, ⟨⟨ho, hnd⟩, hend⟩, hal, hmem, hown⟩ := vvsR_eq h1
    obtain ⟨hQ, l, t, t1, i', h', hl, hl0, hl1, hrt, hi'⟩ := endC_eq hend
    obtain ⟨us, hul, hr, hrep⟩ := hrun w0 g w' a hS'
    have hM' := hS'.mod
    obtain ⟨Ds, hD1, hD2, hD3⟩ := hown ho (nodupB_ok hnd) w0 g w' hM' us (by rw [hul, hvl]) hrep
    have hfr : g.fr 2 = F := hS'.pinF 2 F rfl
    have htk := (hM'.tok 2 _ hl).2
    have hmemL : ∀ k v, envL l k = v → v ≠ .c .undef → RepAV g w' v (F k) := by
      intro k v hv hne
      rcases envL_mem (l := l) (t := k) with h | h
      · exact absurd (hv.symm.trans h) hne
      · rw [hv] at h
        have := htk k v h
        rwa [hfr] at this
    have hp : RepPtr g t 0 (F 0) := hmemL 0 _ hl0 (by simp)
    have hrow : g.U t1 ∧ F 1 = g.σ t1 ∧ (F 1).oneCell' = true := hmemL 1 _ hl1 (by simp)
    obtain ⟨_, b2, hσ, hF0⟩ := hp
    have hF0 : (Value.pointer (some ⟨b, 0, none⟩)) = .pointer (some ⟨b2, 0, none⟩) := hF0
    cases hF0
    obtain ⟨hUt, b3, ty', vs3, hσ3, hDb, hh3, hcs⟩ := hM'.tok t _ hrt
    rw [hσ] at hσ3; cases hσ3
    have hl3 : vs3.length = 3 := hcs.1
    obtain ⟨u0, u1, u2, rfl⟩ : ∃ u0 u1 u2, vs3 = [u0, u1, u2] := by
      match vs3, hl3 with
      | [u0, u1, u2], _ => exact ⟨_, _, _, rfl⟩
    obtain ⟨c0, e0, o0, r0⟩ := hcs.2 0 _ rfl
    obtain ⟨c1, e1, o1, r1⟩ := hcs.2 1 _ rfl
    obtain ⟨c2, e2, o2, r2⟩ := hcs.2 2 _ rfl
    simp at e0 e1 e2
    subst e0 e1 e2
    have r1 := rep_int (g := g) (w := w') r1
    have r2 := rep_int (g := g) (w := w') r2
    have r0 : g.U t1 ∧ u0 = g.σ t1 ∧ u0.oneCell' = true := r0
    have hu0 : u0 = u := r0.2.1.trans hrow.2.1.symm
    subst r1 r2 hu0
    refine ⟨hS'.defers, retVal us, results_run hr, retVal us, g.free s.res ts, as, i', h', ty', rfl, hQ, hi', ⟨us, rfl, by rw [hul, hal, hvl], Ds, hD1, hD2, hD3⟩, ?_, ⟨hM'.below.os, hM'.below.tape, hM'.below.output, hM'.below.size, fun k hk hE => hM'.below.block k hk hE⟩, hh3⟩
    rintro x ⟨t', r, ht', hr', hx⟩
    have h9 := hM'.dNew t' r x hr' hx
    refine ⟨h9.1.resolve_left fun hE => ?_, h9.2⟩
    have hE : x = b := hE
    subst hE
    have := hM'.dApart t' t r _ x hr' hrt hx hDb
    subst this
    exact absurd hrt (hmem t' ht' _)
  cases e with
  | normal => exact key hK
  | ret => exact key hK
  | exit i => exact hK0.elim
theorem pureC_ofL (hΓ : TGOk P Γ) {il : List Nat} {draw : Nat → Array Oper → AS → (AS → Prop) → Prop} (hdraw : DrawOk P Γ false draw) {f : FuncId} {fn : Func} {c : Code} {args rs : List VV} (hf : P.funcs[f]? = some fn) (hb : fn.body = some c) (hname : (fn.name == "runtime.NumGoroutine") = false)
    {n : Nat} (hnt : fn.ntmps = n) (hn : args.length ≤ n) 
    (h : codeA P Γ false il draw c (initS args n) fun e s => match e with
      | .exit _ => False
      | _ => ∃ s', Le false s s' ∧ retA Γ false s' fn.results.toList fn.resultTypes.toList rs) : PureC P f args rs := by
  refine ⟨⟨fn, hf, hname, by rw [hb]; rfl⟩, fun w vals hq hvals => ?_⟩
  refine calls_of_wp hf hb ?_
  let g0 : G := ⟨fun _ => undef, fun _ _ => False, fun x => x < w.heap.size, fun _ => False, fun _ _ => undef⟩
  have hM : Models false (Base.of w hq) g0 (fun _ => none) w := by
    refine ⟨⟨rfl, rfl, rfl, Nat.le_refl _, fun _ _ _ => rfl⟩, fun _ h _ => h, fun _ h => h, ?_, ?_, ?_, ?_, ?_⟩
    · intro t r h; simp at h
    · intro t r x h; simp at h
    · intro t t' r r' x h; simp at h
    · intro t r x h; simp at h
    · intro _ t r x h; simp at h
  subst hnt
  have hS : Sim false (Base.of w hq) (initS args fn.ntmps) g0 w { tmps := vals.toArray ++ Array.replicate (fn.ntmps - vals.toArray.size) undef, defers := [] } := by
    refine ⟨hM, fun t => ?_, by simp [initS, hvals.1]; omega, rfl, fun x h => h.elim, fun h => (by cases h), fun t F h => by cases h⟩
    show RepAV g0 w (initEnv args t) _
    unfold initEnv
    rw [nth_eq]
    cases ha : args[t]? with
    | none =>
      show _ = undef
      have hl := hvals.1
      have ht : args.length ≤ t := by
        rcases Nat.lt_or_ge t args.length with h1 | h1
        · rw [List.getElem?_eq_getElem h1] at ha; cases ha
        · exact h1
      rw [Array.getD_eq_getD_getElem?, Array.getElem?_append, if_neg (by simp; omega), Array.getElem?_replicate]
      split <;> rfl
    | some a =>
      obtain ⟨u, hu, hr⟩ := hvals.2 t a ha
      have hv : (vals.toArray ++ Array.replicate (fn.ntmps - vals.toArray.size) undef).getD t undef = u := by
        rw [Array.getD_eq_getD_getElem?, Array.getElem?_append, if_pos (by simpa using (List.getElem?_eq_some_iff.1 hu).1)]
        simp [hu]
      rw [hv]
      cases a with
      | one p => exact rav hr
      | agg ps =>
        obtain ⟨vs, rfl, hl, hp⟩ := hr
        exact ⟨vs, rfl, repCs_pvs hl hp⟩
      | ptr c => exact hr
      | clo f caps => exact hr
  refine codeA_sound hΓ hdraw c h hS fun e s0 g1 w' a hS0 hK0 => ?_
  have hK1 : ∃ s', Le false s0 s' ∧ retA Γ false s' fn.results.toList fn.resultTypes.toList rs := by
    cases e with
    | normal => exact hK0
    | ret => exact hK0
    | exit i => exact hK0.elim
  obtain ⟨s, hle, hK⟩ := hK1
  obtain ⟨g, hS'⟩ := hle _ _ _ _ hS0
  have key : retA Γ false s fn.results.toList fn.resultTypes.toList rs → a.defers = [] ∧ ∃ v, (results fn a.tmps).run P w' = .ok v w' ∧ ∃ v' D, Ending.returned v = Ending.returned v' ∧ RetOk w' D rs v' ∧ (∀ x, D x → w.heap.size ≤ x ∧ x < w'.heap.size) ∧ Below w.heap.size w w' := by
    intro hret
    obtain ⟨vs, h1, hvl, hrun⟩ := resA_eq hΓ hret
    obtain ⟨as, ts, own, ⟨⟨ho, hnd⟩, rfl⟩, hal, hmem, hown⟩ := vvsR_eq h1
    obtain ⟨us, hul, hr, hrep⟩ := hrun (Base.of w hq) g w' a hS'
    obtain ⟨Ds, hD1, hD2, hD3⟩ := hown ho (nodupB_ok hnd) (Base.of w hq) g w' hS'.mod us (by rw [hul, hvl]) hrep
    refine ⟨hS'.defers, retVal us, results_run hr, retVal us, g.free s.res ts, rfl, ⟨us, rfl, by rw [hul, hal, hvl], Ds, hD1, hD2, hD3⟩, ?_, ⟨hS'.mod.below.os, hS'.mod.below.tape, hS'.mod.below.output, hS'.mod.below.size, fun k hk => hS'.mod.below.block k hk fun h => h⟩⟩
    rintro x ⟨t, r, _, hr, hx⟩
    have := hS'.mod.dNew t r x hr hx
    exact ⟨this.1.resolve_left fun h => h, this.2⟩
  cases e with
  | normal => exact key hK
  | ret => exact key hK
  | exit i => exact hK0.elim
/-- A contract, as one on a property. -/
theorem ndC_pure {f : FuncId} {as rs : List VV} (h : PureC P f as rs) : NdC P f as (fun rs' => rs' = rs) :=
  ⟨h.enter, fun w vals hq hv => (h.calls w vals hq hv).mono fun e w' ⟨v, D, he, hr, hD, hB⟩ => ⟨v, D, rs, he, rfl, hr, hD, hB⟩⟩
/-- The state told anew behind such a call. -/
theorem inl_post {env : Nat → AV} {res : Res} {nx n : Nat} {f : FuncId} {args : List Operand} {dst : Option Tmp} {K : AS → Prop} (h : InlA P dm env res nx n f args dst fun s => ∃ s', Le dm s s' ∧ K s') : InlA P dm env res nx n f args dst K :=
  ⟨h.enter, fun w0 g w a hS => (h.run w0 g w a hS).mono fun e w' ⟨v, s, g1, he, hS1, s', hle, hK⟩ => by
    obtain ⟨g2, hS2⟩ := hle w0 g1 w' _ hS1
    exact ⟨v, s', g2, he, hS2, hK⟩⟩
/-- A row that is not frozen yet is. -/
theorem le_raw {s : AS} (t : Nat) {sz : Nat} {xs : List (List PV)} (h : s.res t = some (.raw sz xs)) : Le false s ⟨s.env, upd s.res t (some (.row true sz xs)), s.next, s.n⟩ := fun w0 g w a hS => by
  have hM := hS.mod
  have hU := (hM.tok t _ h).1
  have hrow : RowOk w g.S (g.D t) true sz xs (g.σ t) := (hM.tok t _ h).2
  have hσn : ∀ D S, (g.mk1 t (g.σ t) D S).σ t = g.σ t := fun _ _ => upd_same _ _ _
  have hDn : ∀ D S, (g.mk1 t (g.σ t) D S).D t = D := fun _ _ => upd_same _ _ _
  obtain ⟨hM1, ev⟩ := hM.putT t (g.σ t) (.row true sz xs) (g.D t) (fun x => g.S x ∨ (g.D t x ∧ (g.σ t).ownBlock ≠ some x)) (fun _ => rfl) (fun _ h => .inl h)
    (fun x hx => hx.imp id fun h => ⟨h.1, fun hm => by
      rcases hm with hm | hm
      · cases hm
      · exact h.2 hm⟩)
    (fun x hx => hM.dNew t _ x h hx) (fun x t' r' hn hx hr hx' => hn (hM.dApart t' t r' _ x hr h hx' hx)) (fun x hx _ => hM.sMut t _ x h hx trivial)
    (fun _ x hx hm => .inr ⟨hx, fun hb => hm (.inr hb)⟩) (fun ev => by
      show RowOk w _ ((g.mk1 t (g.σ t) (g.D t) _).D t) true sz xs ((g.mk1 t (g.σ t) (g.D t) _).σ t)
      rw [hDn, hσn]
      exact hrow.mono (fun _ _ => rfl) (fun _ h => h) (fun _ _ => rfl) fun _ h => .inl h)
  exact ⟨_, hM1, fun t => (hS.env t).evo ev, hS.size, hS.defers, fun x hx => by
    rcases hx with hx | rfl
    · exact hS.next x hx
    · exact hS.next x hU, fun hd => (by cases hd), fun t F hF => by rw [ev.fr]; exact hS.pinF t F hF⟩
/-- An element of such a row is told cell by cell; the others are frozen. -/
theorem le_rawHol {s : AS} (t i : Nat) {sz : Nat} {xs : List (List PV)} {el : List PV} {ac : List AC} {u : Upd} (h : s.res t = some (.raw sz xs)) (hi : xs[i]? = some el) (hf : tokL s.next el fun a v => a = ac ∧ v = u) (hle : Nat.ble el.length 60 = true) :
    Le false s ⟨s.env, upd (updL (upd s.res t none) u) t (some (.hol sz i xs ac)), s.next + 64, s.n⟩ := fun w0 g w a hS => by
  have hle := Nat.le_of_ble_eq_true hle
  have hM := hS.mod
  have hU := (hM.tok t _ h).1
  have hrow : RowOk w g.S (g.D t) true sz xs (g.σ t) := (hM.tok t _ h).2
  rcases hrow with ⟨h0, _⟩ | ⟨b, q, c, e, ca, us, Ds, hv, hg, hh, hsz, hc, hm, hz, ha, hDs, hdis, hel⟩
  · rw [h0] at hi; cases hi
  have hil : i < xs.length := (List.getElem?_eq_some_iff.1 hi).1
  have hM1 : Models false w0 g (upd s.res t none) w := hM.forget fun t' r' hr => by
    rcases upd_cases hr with ⟨_, h2⟩ | ⟨_, h2⟩
    · cases h2
    · exact h2
  obtain ⟨as', u', ⟨rfl, rfl⟩, hal, htok⟩ := tokL_eq hf
  have hlen : el.length = sz := hz el (List.mem_of_getElem? hi)
  have hat : ∀ j p, el[j]? = some p → at2 xs i j = some p := fun j p hp => by simp [at2, hi, hp]
  have hfr : ∀ F : Nat → Prop, (∀ x, F x → g.D t x) → Fr w0 g (upd s.res t none) w F := fun F hF => ⟨fun x hx => hM.dNew t _ x h (hF x hx), fun x hx => hM.sMut t _ x h (hF x hx) trivial, fun x t' r' hx hr hx' => by
    rcases upd_cases hr with ⟨_, h2⟩ | ⟨hn, h2⟩
    · cases h2
    · exact hn (hM.dApart t' t r' _ x h2 h hx' (hF x hx))⟩
  let vs : List Value := (List.range sz).map (us i)
  have hvl : vs.length = el.length := by simp [vs, hlen]
  have hvg : ∀ j, j < sz → vs[j]? = some (us i j) := fun j hj => by simp [vs, hj]
  obtain ⟨g2, hM2, e2, hU2, hr2, hfr2⟩ := htok false w0 w g (upd s.res t none) vs (Ds i) hM1 (fun x h3 h4 h5 => by have := hS.next x h5; omega)
    ⟨hvl, fun j p hp => ⟨us i j, hvg j (by rw [← hlen]; exact (List.getElem?_eq_some_iff.1 hp).1), hel i j p (hat j p hp)⟩⟩ (fun j => hfr _ fun x hx => (hDs i j x hx).1) (fun j j' x hx hx' => (hdis _ _ _ _ x hx hx').2)
  have hrest := hfr2 (fun x => x = b ∨ ∃ k j, k ≠ i ∧ Ds k j x) (hfr _ fun x hx => by
    rcases hx with rfl | ⟨k, j, _, hx⟩
    · exact hg
    · exact (hDs k j x hx).1) (fun j x hx hx' => by
    rcases hx' with rfl | ⟨k, j', hk, hx'⟩
    · exact (hDs i j _ hx).2 rfl
    · exact hk (hdis _ _ _ _ x hx hx').1.symm)
  have hob : (g.σ t).ownBlock = some b := by rw [hv]; rfl
  have hσn : ∀ D S, (g2.mk1 t (g.σ t) D S).σ t = g.σ t := fun _ _ => upd_same _ _ _
  have hDn : ∀ D S, (g2.mk1 t (g.σ t) D S).D t = D := fun _ _ => upd_same _ _ _
  obtain ⟨hM3, e3⟩ := hM2.putT t (g.σ t) (.hol sz i xs as') (fun x => x = b ∨ ∃ k j, k ≠ i ∧ Ds k j x) (fun x => g2.S x ∨ ((x = b ∨ ∃ k j, k ≠ i ∧ Ds k j x) ∧ x ≠ b)) (fun _ => e2.σ t hU) (fun _ h => .inl h)
    (fun x hx => hx.imp id fun h => ⟨h.1, fun hm => by
      rcases hm with hm | hm
      · cases hm
      · rw [hob] at hm; cases hm; exact h.2 rfl⟩)
    hrest.new (fun x t' r' _ hx hr => hrest.off x t' r' hx hr) (fun x hx _ => hrest.offS x hx)
    (fun _ x hx hm => .inr ⟨hx, fun hb => hm (.inr (by rw [hb]; exact hob))⟩) (fun ev => by
      show HolOk _ w ((g2.mk1 t (g.σ t) _ _).D t) sz i xs as' ((g2.mk1 t (g.σ t) _ _).σ t)
      rw [hDn, hσn]
      refine ⟨b, q, c, e, ca, us, fun k j x => k ≠ i ∧ Ds k j x, hv, .inl rfl, hh, hsz, hc, hm, hz, ⟨hil, hal.trans hlen⟩, ha, fun k j x hx => ⟨.inr ⟨k, j, hx⟩, (hDs k j x hx.2).2⟩, fun k j k' j' x hx hx' => hdis _ _ _ _ x hx.2 hx'.2,
        fun k j p hk hp => Own.mono (show Own w (Ds k j) p (us k j) from hel k j p hp) (fun _ _ => rfl) fun x hx => ⟨hk, hx⟩, fun j a' hj => ?_, fun j v hv => by
          have h5 : Own w (Ds i j) (.any v) (us i j) := hel i j _ hv
          cases h5; rfl⟩
      obtain ⟨u0, hu0, h1, hr0⟩ := hr2.2 j a' hj
      have hjl : j < sz := by rw [← hlen, ← hal]; exact (List.getElem?_eq_some_iff.1 hj).1
      rw [hvg j hjl] at hu0
      cases hu0
      exact ⟨h1, hr0.evo ev⟩)
  have ev := e2.trans e3
  exact ⟨_, hM3, fun t => (hS.env t).evo ev, hS.size, hS.defers, fun x hx => by
    show x < s.next + 64
    rcases hx with hx | rfl
    · rcases hU2 x hx with h3 | h3
      · have := hS.next x h3; omega
      · omega
    · have := hS.next x hU; omega, fun hd => (by cases hd), fun t F hF => by rw [ev.fr]; exact hS.pinF t F hF⟩
/-- Rows that may be read from now on. -/
def roL (res : Res) : List (Nat × Nat × List (List PV)) → Res
  | [] => res
  | x :: l => upd (roL res l) x.1 (some (.ro x.2.1 x.2.2))
theorem Models.ros {w0 : Base} {w : World} {g : G} {res2 : Res} (h : Models false w0 g res2 w) : ∀ (rs : List (Nat × Nat × List (List PV))), (∀ x ∈ rs, g.U x.1 ∧ Rep w g.S (.sl x.2.1 x.2.2) (g.σ x.1)) →
    ∃ g', Models false w0 g' (roL res2 rs) w ∧ Evo g g' w w ∧ (∀ x, g'.U x → g.U x) ∧ ∀ x, g'.S x → g.S x
  | [], _ => ⟨g, h, Evo.refl _ _, fun _ h => h, fun _ h => h⟩
  | x :: l, hr => by
    obtain ⟨g1, hM1, e1, hU1, hS1⟩ := h.ros l fun y hy => hr y (List.mem_cons_of_mem _ hy)
    obtain ⟨hu, hrep⟩ := hr x (List.mem_cons_self ..)
    have hσn : ∀ D S, (g1.mk1 x.1 (g1.σ x.1) D S).σ x.1 = g1.σ x.1 := fun _ _ => upd_same _ _ _
    obtain ⟨hM2, e2⟩ := hM1.putT x.1 (g1.σ x.1) (.ro x.2.1 x.2.2) (fun _ => False) g1.S (fun _ => rfl) (fun _ h => h) (fun _ h => .inl h) (fun _ h => h.elim) (fun _ _ _ _ h => h.elim) (fun _ h => h.elim) (fun _ _ h => h.elim) (fun _ => by
      show Rep w g1.S (.sl x.2.1 x.2.2) ((g1.mk1 x.1 (g1.σ x.1) _ g1.S).σ x.1)
      rw [hσn, e1.σ x.1 hu]
      exact hrep.mono (fun _ _ => rfl) e1.s)
    exact ⟨_, hM2, e1.trans e2, fun y hy => by
      rcases hy with hy | rfl
      · exact hU1 y hy
      · exact hu, hS1⟩
theorem TakeOk.kind {l : List AC} {ps : List PV} {ts : List Nat} {own : Bool} (h : TakeOk res l ps ts own) {t : Nat} (ht : t ∈ ts) : (∃ o sz xs, res t = some (.row o sz xs)) ∨ ∃ sz xs, res t = some (.fro sz xs) := by
  induction h with
  | nil => simp at ht
  | pv p _ ih => exact ih ht
  | nl sz _ ih => exact ih ht
  | row t' hr _ ih =>
    rcases List.mem_cons.1 ht with rfl | ht
    · exact .inl ⟨_, _, _, hr⟩
    · exact ih ht
  | fro t' hr _ ih =>
    rcases List.mem_cons.1 ht with rfl | ht
    · exact .inr ⟨_, _, hr⟩
    · exact ih ht
  | ro t' hr _ ih => exact ih ht
def rowsIs (res : Res) : List (Nat × Nat × List (List PV)) → Prop
  | [] => True
  | x :: l => res x.1 = some (.row true x.2.1 x.2.2) ∧ rowsIs res l
theorem rowsIs_mem : ∀ {l : List (Nat × Nat × List (List PV))}, rowsIs res l → ∀ x ∈ l, res x.1 = some (.row true x.2.1 x.2.2)
  | [], _, x, hx => by cases hx
  | y :: l, h, x, hx => by
    rcases List.mem_cons.1 hx with rfl | hx
    · exact h.1
    · exact rowsIs_mem h.2 x hx
/-- The element is closed again: the row is one of the call's own, its elements may be read. -/
theorem le_hol {s : AS} (t : Nat) (rs : List (Nat × Nat × List (List PV))) {sz i : Nat} {xs : List (List PV)} {cs : List AC} {el : List PV} (h : s.res t = some (.hol sz i xs cs)) (hc : pvsA s.res cs fun ps ts own => (ps = el ∧ ts = rs.map Prod.fst) ∧ own = true)
    (hr : rowsIs s.res rs) (hn : nodupB (rs.map Prod.fst) = true) : Le false s ⟨s.env, roL (upd (dropL s.res (rs.map Prod.fst)) t (some (.row true sz (xs.set i el)))) rs, s.next, s.n⟩ := fun w0 g w a hS => by
  have hM := hS.mod
  have hU := (hM.tok t _ h).1
  obtain ⟨ps, ts, own, htk, ⟨rfl, rfl⟩, rfl⟩ := pvsA_eq hc
  have hnd := nodupB_ok hn
  obtain ⟨b, q, c, e, ca, us, Ds, hv, hg, hh, hsz, hcc, hm, hz, ⟨hil, hcl⟩, ha, hDs, hdis, ho, hcs, _⟩ : HolOk g w (g.D t) sz i xs cs (g.σ t) := (hM.tok t _ h).2
  generalize hL : rs.map Prod.fst = L at *
  obtain ⟨hM1, e1, hF⟩ := hM.drop L
  have hob : (g.σ t).ownBlock = some b := by rw [hv]; rfl
  have hpl : ps.length = sz := htk.len.trans hcl
  have htL : t ∉ L := fun hm => by
    rcases htk.kind hm with ⟨_, _, _, h2⟩ | ⟨_, _, h2⟩ <;> rw [h] at h2 <;> cases h2
  have hFt : ∀ x, g.free s.res L x → ¬ g.D t x := fun x ⟨t', r', ht', hr', hx'⟩ hx => htL (by rw [hM.dApart t t' _ r' x h hr' hx hx']; exact ht')
  let vs : List Value := (List.range sz).map (us i)
  have hvg : ∀ j, j < sz → vs[j]? = some (us i j) := fun j hj => by simp [vs, hj]
  have hreps : RepCs g w cs vs := ⟨by simp [vs, hcl], fun j a' hj => ⟨us i j, hvg j (by rw [← hcl]; exact (List.getElem?_eq_some_iff.1 hj).1), (hcs j a' hj).1, (hcs j a' hj).2⟩⟩
  have hel := htk.el hM hreps (fun _ => True) (fun _ _ => trivial) (fun _ _ => trivial)
  have htake : ∀ j x, takeD g cs L j x → g.free s.res L x := fun j x ⟨t', _, ht', hx⟩ => by
    rcases htk.kind ht' with ⟨o, z, ys, h2⟩ | ⟨z, ys, h2⟩ <;> exact ⟨t', _, ht', h2, hx⟩
  have hσn : ∀ D S, ((g.drop s.res L).mk1 t (g.σ t) D S).σ t = g.σ t := fun _ _ => upd_same _ _ _
  have hDn : ∀ D S, ((g.drop s.res L).mk1 t (g.σ t) D S).D t = D := fun _ _ => upd_same _ _ _
  have hse : ∀ k, (xs.set i ps)[k]? = if k = i then some ps else xs[k]? := fun k => by
    rw [List.getElem?_set]
    by_cases hk : i = k
    · subst hk; simp [hil]
    · rw [if_neg hk, if_neg (Ne.symm hk)]
  have hat : ∀ k j p, at2 (xs.set i ps) k j = some p → (k = i ∧ ps[j]? = some p) ∨ (k ≠ i ∧ at2 xs k j = some p) := fun k j p hp => by
    unfold at2 at hp
    rw [hse] at hp
    by_cases hk : k = i
    · rw [if_pos hk] at hp; exact .inl ⟨hk, hp⟩
    · rw [if_neg hk] at hp; exact .inr ⟨hk, hp⟩
  obtain ⟨hM2, e2⟩ := hM1.putT t (g.σ t) (.row true sz (xs.set i ps)) (fun x => g.D t x ∨ g.free s.res L x) (g.drop s.res L).S (fun _ => rfl) (fun _ h => h) (fun _ h => .inl h)
    (fun x hx => by
      rcases hx with hx | hx
      · exact hM.dNew t _ x h hx
      · exact hF.new x hx)
    (fun x t' r' hn hx hr' hx' => by
      rcases hx with hx | hx
      · exact hn (hM.dApart t' t r' _ x (dropL_some hr').2 h hx' hx)
      · exact hF.off x t' r' hx hr' hx')
    (fun x hx hmx hSx => by
      rcases hmx with hmx | hmx
      · cases hmx
      · rw [hob] at hmx
        cases hmx
        rcases hSx with hSx | hSx
        · exact hM.sMut t _ b h hg (.inr hob) hSx
        · exact hFt b hSx hg)
    (fun _ x hx hmx => by
      rcases hx with hx | hx
      · exact .inl (hM.sFro rfl t _ x h hx fun hq => hmx (by
          rcases hq with hq | hq
          · cases hq
          · exact .inr hq))
      · exact .inr hx)
    (fun ev => by
      show RowOk w _ (((g.drop s.res L).mk1 t (g.σ t) _ _).D t) true sz (xs.set i ps) (((g.drop s.res L).mk1 t (g.σ t) _ _).σ t)
      rw [hDn, hσn]
      refine .inr ⟨b, q, c, e, ca, us, fun k j x => (k = i ∧ takeD g cs L j x) ∨ (k ≠ i ∧ Ds k j x), by rw [List.length_set]; exact hv, .inl hg, hh, hsz, by rw [List.length_set]; exact hcc, hm, fun y hy => ?_, fun k j p hp => ?_, fun k j x hx => ?_, fun k j k' j' x hx hx' => ?_, fun k j p hp => ?_⟩
      · obtain ⟨k, hk⟩ := List.getElem?_of_mem hy
        rw [hse] at hk
        split at hk
        · cases hk; exact hpl
        · exact hz y (List.mem_of_getElem? hk)
      · rcases hat k j p hp with ⟨rfl, hp2⟩ | ⟨hk, hp2⟩
        · have hjl : j < sz := by rw [← hpl]; exact (List.getElem?_eq_some_iff.1 hp2).1
          have hel2 : (xs[k]).length = sz := hz _ (List.getElem_mem hil)
          exact ha k j (xs[k][j]'(by rw [hel2]; exact hjl)) (by simp [at2, hil, hel2, hjl])
        · exact ha k j p hp2
      · rcases hx with ⟨_, hx⟩ | ⟨_, hx⟩
        · exact ⟨.inr (htake j x hx), fun e => hFt x (htake j x hx) (e ▸ hg)⟩
        · exact ⟨.inl (hDs k j x hx).1, (hDs k j x hx).2⟩
      · rcases hx with ⟨rfl, hx⟩ | ⟨hk, hx⟩ <;> rcases hx' with ⟨rfl, hx'⟩ | ⟨hk', hx'⟩
        · obtain ⟨t1, hj1, ht1, hx1⟩ := hx
          obtain ⟨t2, hj2, ht2, hx2⟩ := hx'
          obtain ⟨_, _, r1, hr1, _⟩ := htk.mem ht1
          obtain ⟨_, _, r2, hr2, _⟩ := htk.mem ht2
          obtain rfl := hM.dApart t1 t2 r1 r2 x hr1 hr2 hx1 hx2
          exact ⟨rfl, htk.once hnd ht1 hj1 hj2⟩
        · exact absurd (hDs k' j' x hx').1 (hFt x (htake j x hx))
        · exact absurd (hDs k j x hx).1 (hFt x (htake j' x hx'))
        · exact hdis _ _ _ _ x hx hx'
      · show Own w _ p (us k j)
        rcases hat k j p hp with ⟨rfl, hp2⟩ | ⟨hk, hp2⟩
        · obtain ⟨u0, hu0, _, he⟩ := hel j p hp2
          have hjl : j < sz := by rw [← hpl]; exact (List.getElem?_eq_some_iff.1 hp2).1
          rw [hvg j hjl] at hu0
          cases hu0
          exact Own.mono he (fun _ _ => rfl) fun x hx => .inl ⟨rfl, hx⟩
        · exact (ho k j p hk hp2).mono (fun _ _ => rfl) fun x hx => .inr ⟨hk, hx⟩)
  have e12 := e1.trans e2
  obtain ⟨g3, hM3, e3, hU3, _⟩ := hM2.ros rs fun x hx => by
    have hrx := rowsIs_mem hr x hx
    have hux := (hM.tok x.1 _ hrx).1
    refine ⟨e12.u x.1 hux, ?_⟩
    rw [e12.σ x.1 hux]
    have hrow : RowOk w g.S (g.D x.1) true x.2.1 x.2.2 (g.σ x.1) := (hM.tok x.1 _ hrx).2
    exact hrow.rep (fun y hy => e2.s y (.inr ⟨x.1, _, by rw [← hL]; exact List.mem_map_of_mem hx, hrx, hy⟩)) fun y hy => e12.s y hy
  have ev := e12.trans e3
  exact ⟨g3, hM3, fun t => (hS.env t).evo ev, hS.size, hS.defers, fun x hx => by
    rcases hU3 x hx with hx | rfl
    · exact hS.next x hx
    · exact hS.next x hU, fun hd => (by cases hd), fun t F hF => by rw [ev.fr]; exact hS.pinF t F hF⟩
/-- States that depend on the run. -/
def LeX (dm : Bool) (s : AS) {ι : Type} (inv : ι → Prop) (sh : ι → AS) : Prop := ∀ (w0 : Base) (g : G) (w : World) (a : Act), Sim dm w0 s g w a → ∃ i g', inv i ∧ Sim dm w0 (sh i) g' w a
theorem LeX.le {s : AS} {ι : Type} {inv : ι → Prop} {sh sh' : ι → AS} (h : LeX dm s inv sh) (k : ∀ i, inv i → Le dm (sh i) (sh' i)) : LeX dm s inv sh' := fun w0 g w a hS => by
  obtain ⟨i, g1, hi, hS1⟩ := h w0 g w a hS
  obtain ⟨g2, hS2⟩ := k i hi w0 g1 w a hS1
  exact ⟨i, g2, hi, hS2⟩
theorem inl_postX {env : Nat → AV} {res : Res} {nx n : Nat} {f : FuncId} {args : List Operand} {dst : Option Tmp} {K : AS → Prop} (ι : Type) (h : InlA P dm env res nx n f args dst fun s => ∃ (inv : ι → Prop) (sh : ι → AS), LeX dm s inv sh ∧ ∀ i, inv i → K (sh i)) : InlA P dm env res nx n f args dst K :=
  ⟨h.enter, fun w0 g w a hS => (h.run w0 g w a hS).mono fun e w' ⟨v, s, g1, he, hS1, inv, sh, hle, hK⟩ => by
    obtain ⟨i, g2, hi, hS2⟩ := hle w0 g1 w' _ hS1
    exact ⟨v, sh i, g2, he, hS2, hK i hi⟩⟩
/-- Rows of cells that are not looked into. -/
def AnyRow (sz n : Nat) (xo : List (List PV)) : Prop := xo.length = n ∧ (∀ el ∈ xo, el.length = sz) ∧ ∀ i j p, at2 xo i j = some p → ∃ v, p = .any v
theorem at2_in {xs : List (List PV)} {sz i j : Nat} {p : PV} (h : at2 xs i j = some p) (hz : ∀ el ∈ xs, el.length = sz) : i < xs.length ∧ j < sz := by
  unfold at2 at h
  cases hx : xs[i]? with
  | none => rw [hx] at h; cases h
  | some y =>
    rw [hx] at h
    have h4 : j < y.length := (List.getElem?_eq_some_iff.1 h).1
    rw [hz y (List.mem_of_getElem? hx)] at h4
    exact ⟨(List.getElem?_eq_some_iff.1 hx).1, h4⟩
theorem at2_ex2 {xs : List (List PV)} {sz i j : Nat} (hi : i < xs.length) (hj : j < sz) (hz : ∀ el ∈ xs, el.length = sz) : ∃ p, at2 xs i j = some p := by
  have hl : (xs[i]).length = sz := hz _ (List.getElem_mem hi)
  exact ⟨xs[i][j]'(by rw [hl]; exact hj), by simp [at2, hi, hl, hj]⟩
/-- An element of a row is told cell by cell; the others' cells are not looked into, but whose their memory is stays known. -/
theorem lex_rawHol {s : AS} (t i : Nat) {sz : Nat} {xs : List (List PV)} {el : List PV} {ac : List AC} {u : Upd} (h : s.res t = some (.raw sz xs)) (hi : xs[i]? = some el) (hf : tokL s.next el fun a v => a = ac ∧ v = u) (hle : Nat.ble el.length 60 = true) :
    LeX false s (AnyRow sz xs.length) (fun xo => ⟨s.env, upd (upd (updL (upd s.res t none) u) (s.next + 63) (some (.gho (xs.set i []) xo))) t (some (.hol sz i xo ac)), s.next + 64, s.n⟩) := fun w0 g w a hS => by
  have hle := Nat.le_of_ble_eq_true hle
  have hM := hS.mod
  have hU := (hM.tok t _ h).1
  have hrow : RowOk w g.S (g.D t) true sz xs (g.σ t) := (hM.tok t _ h).2
  rcases hrow with ⟨h0, _⟩ | ⟨b, q, c, e, ca, us, Ds, hv, hg, hh, hsz, hc, hm, hz, ha, hDs, hdis, hel⟩
  · rw [h0] at hi; cases hi
  have hil : i < xs.length := (List.getElem?_eq_some_iff.1 hi).1
  have hM1 : Models false w0 g (upd s.res t none) w := hM.forget fun t' r' hr => by
    rcases upd_cases hr with ⟨_, h2⟩ | ⟨_, h2⟩
    · cases h2
    · exact h2
  obtain ⟨as', u', ⟨rfl, rfl⟩, hal, htok⟩ := tokL_eq hf
  have hlen : el.length = sz := hz el (List.mem_of_getElem? hi)
  have hat : ∀ j p, el[j]? = some p → at2 xs i j = some p := fun j p hp => by simp [at2, hi, hp]
  have hfr : ∀ F : Nat → Prop, (∀ x, F x → g.D t x) → Fr w0 g (upd s.res t none) w F := fun F hF => ⟨fun x hx => hM.dNew t _ x h (hF x hx), fun x hx => hM.sMut t _ x h (hF x hx) trivial, fun x t' r' hx hr hx' => by
    rcases upd_cases hr with ⟨_, h2⟩ | ⟨hn, h2⟩
    · cases h2
    · exact hn (hM.dApart t' t r' _ x h2 h hx' (hF x hx))⟩
  let vs : List Value := (List.range sz).map (us i)
  have hvl : vs.length = el.length := by simp [vs, hlen]
  have hvg : ∀ j, j < sz → vs[j]? = some (us i j) := fun j hj => by simp [vs, hj]
  obtain ⟨g2, hM2, e2, hU2, hr2, hfr2⟩ := htok false w0 w g (upd s.res t none) vs (Ds i) hM1 (fun x h3 h4 h5 => by have := hS.next x h5; omega)
    ⟨hvl, fun j p hp => ⟨us i j, hvg j (by rw [← hlen]; exact (List.getElem?_eq_some_iff.1 hp).1), hel i j p (hat j p hp)⟩⟩ (fun j => hfr _ fun x hx => (hDs i j x hx).1) (fun j j' x hx hx' => (hdis _ _ _ _ x hx hx').2)
  have hrest := hfr2 (fun x => x = b ∨ ∃ k j, k ≠ i ∧ Ds k j x) (hfr _ fun x hx => by
    rcases hx with rfl | ⟨k, j, _, hx⟩
    · exact hg
    · exact (hDs k j x hx).1) (fun j x hx hx' => by
    rcases hx' with rfl | ⟨k, j', hk, hx'⟩
    · exact (hDs i j _ hx).2 rfl
    · exact hk (hdis _ _ _ _ x hx hx').1.symm)
  -- the cells that are not looked into
  let xo : List (List PV) := (List.range xs.length).map fun k => (List.range sz).map fun j => PV.any (us k j)
  have hxo : ∀ k j p, at2 xo k j = some p → (k < xs.length ∧ j < sz) ∧ p = .any (us k j) := fun k j p hp => by
    unfold at2 at hp
    by_cases hk : k < xs.length
    · simp only [xo, List.getElem?_map, List.getElem?_range hk, Option.map_some, Option.bind_some] at hp
      by_cases hj : j < sz
      · simp only [List.getElem?_map, List.getElem?_range hj, Option.map_some, Option.some.injEq] at hp
        exact ⟨⟨hk, hj⟩, hp.symm⟩
      · rw [List.getElem?_eq_none (by simp; omega)] at hp; cases hp
    · rw [List.getElem?_eq_none (by simp [xo]; omega)] at hp; cases hp
  have hxl : xo.length = xs.length := by simp [xo]
  have hxz : ∀ y ∈ xo, y.length = sz := fun y hy => by
    obtain ⟨k, _, rfl⟩ := List.mem_map.1 hy
    simp
  have hob : (g.σ t).ownBlock = some b := by rw [hv]; rfl
  have hn2 : ¬ g2.U (s.next + 63) := fun h5 => by
    rcases hU2 _ h5 with h6 | h6
    · have := hS.next _ h6; omega
    · omega
  -- the ghost
  have hDn3 : ∀ D S, (g2.mk1 (s.next + 63) (.bool false) D S).D (s.next + 63) = D := fun _ _ => upd_same _ _ _
  obtain ⟨hM3, e3⟩ := hM2.putT (s.next + 63) (.bool false) (.gho (xs.set i []) xo) (fun x => ∃ k j, k ≠ i ∧ Ds k j x) (fun x => g2.S x ∨ ∃ k j, k ≠ i ∧ Ds k j x) (fun h5 => absurd h5 hn2) (fun _ h => .inl h)
    (fun x hx => hx.imp id fun h => ⟨h, fun hm => hm⟩) (fun x hx => hrest.new x (.inr hx)) (fun x t' r' _ hx hr => hrest.off x t' r' (.inr hx) hr) (fun x hx hm => hm.elim) (fun _ x hx _ => .inr hx) (fun ev => by
      show GhoOk w ((g2.mk1 (s.next + 63) _ _ _).D (s.next + 63)) (xs.set i []) xo
      rw [hDn3]
      refine ⟨fun k j x => k ≠ i ∧ Ds k j x, fun k j x hx => ⟨k, j, hx⟩, fun k j k' j' x hx hx' => hdis _ _ _ _ x hx.2 hx'.2, fun k j p v hp hv' => ?_⟩
      have hk : k ≠ i := fun e => by
        subst e
        simp [at2, hil] at hp
      have hp2 : at2 xs k j = some p := by
        unfold at2 at hp ⊢
        rw [List.getElem?_set_ne (Ne.symm hk)] at hp
        exact hp
      obtain ⟨_, h6⟩ := hxo k j _ hv'
      cases h6
      exact Own.mono (show Own w (Ds k j) p (us k j) from hel k j p hp2) (fun _ _ => rfl) fun x hx => ⟨hk, hx⟩)
  have hnt : t ≠ s.next + 63 := fun e5 => by have := hS.next t hU; omega
  have hσn : ∀ D S, ((g2.mk1 (s.next + 63) (.bool false) (fun x => ∃ k j, k ≠ i ∧ Ds k j x) (fun x => g2.S x ∨ ∃ k j, k ≠ i ∧ Ds k j x)).mk1 t (g.σ t) D S).σ t = g.σ t := fun _ _ => upd_same _ _ _
  have hDn : ∀ D S, ((g2.mk1 (s.next + 63) (.bool false) (fun x => ∃ k j, k ≠ i ∧ Ds k j x) (fun x => g2.S x ∨ ∃ k j, k ≠ i ∧ Ds k j x)).mk1 t (g.σ t) D S).D t = D := fun _ _ => upd_same _ _ _
  have hDo3 : ∀ t', t' ≠ s.next + 63 → (g2.mk1 (s.next + 63) (.bool false) (fun x => ∃ k j, k ≠ i ∧ Ds k j x) (fun x => g2.S x ∨ ∃ k j, k ≠ i ∧ Ds k j x)).D t' = g2.D t' := fun t' hn => upd_ne _ _ hn
  have hbD : ¬ ∃ k j, k ≠ i ∧ Ds k j b := fun ⟨k, j, _, hx⟩ => (hDs k j b hx).2 rfl
  obtain ⟨hM4, e4⟩ := hM3.putT t (g.σ t) (.hol sz i xo as') (fun x => x = b) (fun x => g2.S x ∨ ∃ k j, k ≠ i ∧ Ds k j x) (fun _ => (e2.trans e3).σ t hU) (fun _ h => h) (fun _ h => .inl h)
    (fun x hx => hrest.new x (.inl hx)) (fun x t' r' hn hx hr hx' => by
      subst hx
      rcases upd_cases hr with ⟨rfl, _⟩ | ⟨hn3, hr⟩
      · rw [hDn3] at hx'; exact hbD hx'
      · rw [hDo3 t' hn3] at hx'
        exact hrest.off x t' r' (.inl rfl) hr hx')
    (fun x hx _ hSx => by
      subst hx
      rcases hSx with hSx | hSx
      · exact hrest.offS x (.inl rfl) hSx
      · exact hbD hSx)
    (fun _ x hx hm => absurd (.inr (by rw [hx]; exact hob)) hm) (fun ev => by
      show HolOk _ w ((G.mk1 _ t (g.σ t) _ _).D t) sz i xo as' ((G.mk1 _ t (g.σ t) _ _).σ t)
      rw [hDn, hσn]
      refine ⟨b, q, c, e, ca, us, fun _ _ _ => False, by rw [hxl]; exact hv, rfl, hh, hsz, by rw [hxl]; exact hc, hm, hxz, ⟨by rw [hxl]; exact hil, hal.trans hlen⟩, fun k j p hp => ?_, fun _ _ _ h => h.elim, fun _ _ _ _ _ h => h.elim, fun k j p hk hp => ?_, fun j a' hj => ?_, fun j v hv' => ?_⟩
      · obtain ⟨⟨hk, hj⟩, _⟩ := hxo k j p hp
        obtain ⟨p', hp'⟩ := at2_ex2 hk hj hz
        exact ha k j p' hp'
      · obtain ⟨⟨hk2, hj⟩, rfl⟩ := hxo k j p hp
        obtain ⟨p', hp'⟩ := at2_ex2 hk2 hj hz
        exact .any _ _ (Own.one (show Own w (Ds k j) p' (us k j) from hel k j p' hp'))
      · obtain ⟨u0, hu0, h1, hr0⟩ := hr2.2 j a' hj
        have hjl : j < sz := by rw [← hlen, ← hal]; exact (List.getElem?_eq_some_iff.1 hj).1
        rw [hvg j hjl] at hu0
        cases hu0
        exact ⟨h1, (hr0.evo e3).evo ev⟩
      · obtain ⟨_, h6⟩ := hxo i j _ hv'
        cases h6
        rfl)
  have ev := (e2.trans e3).trans e4
  refine ⟨xo, _, ⟨hxl, hxz, fun k j p hp => ⟨_, (hxo k j p hp).2⟩⟩, hM4, fun t => (hS.env t).evo ev, hS.size, hS.defers, fun x hx => ?_, fun hd => (by cases hd), fun t F hF => by rw [ev.fr]; exact hS.pinF t F hF⟩
  show x < s.next + 64
  rcases hx with (hx | rfl) | rfl
  · rcases hU2 x hx with h3 | h3
    · have := hS.next x h3; omega
    · omega
  · omega
  · have := hS.next x hU; omega
/-- The opened element's cells are not looked into either. -/
theorem le_holFlat {s : AS} (t : Nat) {sz i n : Nat} {xo : List (List PV)} {cs : List AC} (hA : AnyRow sz n xo) (h : s.res t = some (.hol sz i xo cs)) : Le false s ⟨s.env, upd s.res t (some (.row true sz xo)), s.next, s.n⟩ := fun w0 g w a hS => by
  have hM := hS.mod
  have hU := (hM.tok t _ h).1
  obtain ⟨b, q, c, e, ca, us, Ds, hv, hg, hh, hsz, hcc, hm, hz, ⟨hil, hcl⟩, ha, hDs, hdis, ho, hcs, hany⟩ : HolOk g w (g.D t) sz i xo cs (g.σ t) := (hM.tok t _ h).2
  have hσn : ∀ D S, (g.mk1 t (g.σ t) D S).σ t = g.σ t := fun _ _ => upd_same _ _ _
  have hDn : ∀ D S, (g.mk1 t (g.σ t) D S).D t = D := fun _ _ => upd_same _ _ _
  obtain ⟨hM1, ev⟩ := hM.putT t (g.σ t) (.row true sz xo) (g.D t) g.S (fun _ => rfl) (fun _ h => h) (fun _ h => .inl h)
    (fun x hx => hM.dNew t _ x h hx) (fun x t' r' hn hx hr hx' => hn (hM.dApart t' t r' _ x hr h hx' hx)) (fun x hx hmx => hM.sMut t _ x h hx hmx)
    (fun _ x hx hmx => hM.sFro rfl t _ x h hx hmx) (fun ev => by
      show RowOk w _ ((g.mk1 t (g.σ t) (g.D t) _).D t) true sz xo ((g.mk1 t (g.σ t) (g.D t) _).σ t)
      rw [hDn, hσn]
      refine .inr ⟨b, q, c, e, ca, us, fun _ _ _ => False, hv, hg, hh, hsz, hcc, hm, hz, ha, fun _ _ _ h => h.elim, fun _ _ _ _ _ h => h.elim, fun k j p hp => ?_⟩
      show Own w _ p (us k j)
      obtain ⟨v, rfl⟩ := hA.2.2 k j p hp
      by_cases hk : k = i
      · subst hk
        have hj := (at2_in hp hz).2
        have h1 := (hcs j _ (List.getElem?_eq_getElem (by rw [hcl]; exact hj))).1
        rw [← hany j v hp]
        exact .any _ _ h1
      · exact Own.flat_D (ho k j _ hk hp) rfl)
  exact ⟨_, hM1, fun t => (hS.env t).evo ev, hS.size, hS.defers, fun x hx => by
    rcases hx with hx | rfl
    · exact hS.next x hx
    · exact hS.next x hU, fun hd => (by cases hd), fun t F hF => by rw [ev.fr]; exact hS.pinF t F hF⟩
/-- A list without one element. -/
def rmv {α : Type} (i : Nat) (l : List α) : List α := l.take i ++ l.drop (i + 1)
theorem rmv_get {α : Type} {i : Nat} {l : List α} (hi : i < l.length) (m : Nat) : (rmv i l)[m]? = l[if m < i then m else m + 1]? := by
  unfold rmv
  rw [List.getElem?_append, List.length_take]
  by_cases hm : m < i
  · rw [if_pos (by omega), if_pos hm, List.getElem?_take, if_pos hm]
  · rw [if_neg (by omega), if_neg hm, List.getElem?_drop]
    congr 1
    omega
/-- Opaque cells are looked into again: their memory is taken over. -/
theorem le_adopt {s : AS} (r k i : Nat) {own : Bool} {sz : Nat} {xs xo : List (List PV)} (hr : s.res r = some (.row own sz (rmv i xo))) (hk : s.res k = some (.gho (xs.set i []) xo)) (hA : AnyRow sz xs.length xo) (hzx : ∀ el ∈ xs, el.length = sz) (hi : i < xs.length) :
    Le false s ⟨s.env, upd (upd s.res k none) r (some (.row true sz (rmv i xs))), s.next, s.n⟩ := fun w0 g w a hS => by
  have hM := hS.mod
  have hU := (hM.tok r _ hr).1
  have hrow : RowOk w g.S (g.D r) own sz (rmv i xo) (g.σ r) := (hM.tok r _ hr).2
  obtain ⟨DG, hG1, hG2, hG3⟩ : GhoOk w (g.D k) (xs.set i []) xo := (hM.tok k _ hk).2
  have hne : r ≠ k := fun e => by rw [e, hk] at hr; cases hr
  have hlen : (rmv i xo).length = (rmv i xs).length := by simp [rmv, hA.1]
  have hM1 : Models false w0 g (upd s.res k none) w := hM.forget fun t' r' h2 => by
    rcases upd_cases h2 with ⟨_, h3⟩ | ⟨_, h3⟩
    · cases h3
    · exact h3
  have hr1 : upd s.res k none r = some (.row own sz (rmv i xo)) := by rw [upd_ne _ _ hne]; exact hr
  have hσn : ∀ D S, (g.mk1 r (g.σ r) D S).σ r = g.σ r := fun _ _ => upd_same _ _ _
  have hDn : ∀ D S, (g.mk1 r (g.σ r) D S).D r = D := fun _ _ => upd_same _ _ _
  have hkS : ∀ x, g.D k x → g.S x := fun x hx => hM.sFro rfl k _ x hk hx fun h => h
  have hoff : ∀ x t' r', t' ≠ r → (g.D r x ∨ g.D k x) → upd s.res k none t' = some r' → ¬ g.D t' x := fun x t' r' hn hx h2 hx' => by
    rcases upd_cases h2 with ⟨_, h3⟩ | ⟨hn2, h3⟩
    · cases h3
    · rcases hx with hx | hx
      · exact hn (hM.dApart t' r r' _ x h3 hr hx' hx)
      · exact hn2 (hM.dApart t' k r' _ x h3 hk hx' hx)
  obtain ⟨hM2, ev⟩ := hM1.putT r (g.σ r) (.row true sz (rmv i xs)) (fun x => g.D r x ∨ g.D k x) g.S (fun _ => rfl) (fun _ h => h) (fun _ h => .inl h)
    (fun x hx => by
      rcases hx with hx | hx
      · exact hM.dNew r _ x hr hx
      · exact hM.dNew k _ x hk hx) hoff
    (fun x hx hmx => by
      rcases hx with hx | hx
      · exact hM.sMut r _ x hr hx hmx
      · exfalso
        rcases hrow with ⟨_, h5⟩ | ⟨b, q, c, e, ca, us, Ds, h5, hg, _⟩
        · rw [h5] at hmx
          rcases hmx with hmx | hmx <;> cases hmx
        · rw [h5] at hmx
          rcases hmx with hmx | hmx
          · cases hmx
          · cases hmx
            exact hne (hM.dApart r k _ _ b hr hk hg hx))
    (fun _ x hx hmx => by
      rcases hx with hx | hx
      · exact hM.sFro rfl r _ x hr hx hmx
      · exact hkS x hx) (fun ev => by
      show RowOk w _ ((g.mk1 r (g.σ r) _ _).D r) true sz (rmv i xs) ((g.mk1 r (g.σ r) _ _).σ r)
      rw [hDn, hσn]
      rcases hrow with ⟨h0, h5⟩ | ⟨b, q, c, e, ca, us, Ds, hv, hg, hh, hsz, hc, hm, hz, ha, hDs, hdis, hel⟩
      · exact .inl ⟨by
          rw [h0] at hlen
          exact List.eq_nil_of_length_eq_zero hlen.symm, h5⟩
      · refine .inr ⟨b, q, c, e, ca, us, fun m j x => DG (if m < i then m else m + 1) j x, by rw [← hlen]; exact hv, .inl hg, hh, hsz, by rw [← hlen]; exact hc, hm, fun y hy => ?_, fun m j p hp => ?_, fun m j x hx => ⟨.inr (hG1 _ j x hx), fun e5 => hne (hM.dApart r k _ _ b hr hk hg (by rw [← e5]; exact hG1 _ j x hx))⟩, fun m j m' j' x hx hx' => ?_, fun m j p hp => ?_⟩
        · obtain ⟨m, hm2⟩ := List.getElem?_of_mem hy
          rw [rmv_get hi] at hm2
          exact hzx y (List.mem_of_getElem? hm2)
        · have hlt := at2_in hp (sz := sz) (fun y hy => by
            obtain ⟨m, hm2⟩ := List.getElem?_of_mem hy
            rw [rmv_get hi] at hm2
            exact hzx y (List.mem_of_getElem? hm2))
          obtain ⟨p', hp'⟩ := at2_ex2 (xs := rmv i xo) (by rw [hlen]; exact hlt.1) hlt.2 hz
          exact ha m j p' hp'
        · have := hG2 _ _ _ _ x hx hx'
          refine ⟨?_, this.2⟩
          have h6 := this.1
          split at h6 <;> split at h6 <;> omega
        · show Own w _ p (us m j)
          have hlt := at2_in hp (sz := sz) (fun y hy => by
            obtain ⟨m, hm2⟩ := List.getElem?_of_mem hy
            rw [rmv_get hi] at hm2
            exact hzx y (List.mem_of_getElem? hm2))
          obtain ⟨p', hp'⟩ := at2_ex2 (xs := rmv i xo) (by rw [hlen]; exact hlt.1) hlt.2 hz
          have hp2 : at2 xo (if m < i then m else m + 1) j = some p' := by
            unfold at2 at hp' ⊢
            rw [rmv_get (by rw [hA.1]; exact hi)] at hp'
            exact hp'
          obtain ⟨v, rfl⟩ := hA.2.2 _ _ _ hp2
          have h7 := hel m j _ hp'
          have h8 : us m j = v := by
            unfold ElOk at h7
            cases own with
            | true => have h7 : Own w (Ds m j) (.any v) (us m j) := h7; cases h7; rfl
            | false => have h7 : Rep w g.S (.any v) (us m j) := h7; cases h7; rfl
          have hp3 : at2 (xs.set i []) (if m < i then m else m + 1) j = some p := by
            unfold at2 at hp ⊢
            rw [rmv_get hi] at hp
            rw [List.getElem?_set_ne (by split <;> omega)]
            exact hp
          rw [h8]
          exact hG3 _ _ _ _ hp3 hp2)
  exact ⟨_, hM2, fun t => (hS.env t).evo ev, hS.size, hS.defers, fun x hx => by
    rcases hx with hx | rfl
    · exact hS.next x hx
    · exact hS.next x hU, fun hd => (by cases hd), fun t F hF => by rw [ev.fr]; exact hS.pinF t F hF⟩
/-- A block that is no one's is written. -/
theorem Models.wild {w0 : Base} {w w' : World} {g : G} (h : Models dm w0 g res w) {b : Nat} (hS : ¬ g.S b) (hoff : ∀ t r, res t = some r → ¬ g.D t b) (hE : w0.E b ∨ w0.heap.size ≤ b)
    (hw : ∀ x, x ≠ b → w'.heap[x]? = w.heap[x]?) (hsz : w'.heap.size = w.heap.size) (ho : w'.os = w.os) (htp : w'.tape = w.tape) (hp : w'.output = w.output) : Models dm w0 g res w' ∧ Evo g g w w' := by
  have e : Evo g g w w' := ⟨fun _ h => h, fun _ _ => rfl, fun _ h => h, fun x hx => hw x (fun he => hS (he ▸ hx)), rfl⟩
  refine ⟨⟨h.below.to ho htp hp (by rw [hsz]; exact Nat.le_refl _) (fun k hk hE2 => hw k (fun he => by subst he; rcases hE with h1 | h1; exact hE2 h1; omega)), h.sBase, fun x hx => by rw [hsz]; exact h.sLt x hx, ?_, ?_, h.dApart, h.sMut, h.sFro⟩, e⟩
  · intro t r hr
    exact ⟨(h.tok t r hr).1, (h.tok t r hr).2.evo e (h.tok t r hr).1 rfl fun x hx => hw x fun he => hoff t r hr (he ▸ hx)⟩
  · intro t r x hr hx
    rw [hsz]
    exact h.dNew t r x hr hx
/-- A function that takes a row's last element away and writes zeros in its place. -/
structure DelC (P : Program) (f : FuncId) (sz : Nat) (z : List Value) : Prop where
  enter : Enters P f
  len : z.length = sz
  calls : ∀ (b o c n : Nat) (w : World) (ca : Array Value) (e : TypeId), CellsAt w b ca e → o + c * sz ≤ ca.size → n + 1 ≤ c → c ≤ 9223372036854775807 →
    Calls P f #[.slice (some ⟨b, o, none⟩) (n + 1) c, .int .i64 n, .int .i64 ((n : Int) + 1)] w fun e' w' => e' = .returned (.slice (some ⟨b, o, none⟩) n c) ∧ w' = w.drew.setRow b (ca.toList.take (o + n * sz) ++ z ++ ca.toList.drop (o + n * sz + sz)).toArray
/-- The element that was told cell by cell, the last one, is taken away: its slices stay. -/
theorem inl_del {nx n : Nat} {f : FuncId} {x0 x1 x2 : Operand} {dst : Option Tmp} {K : AS → Prop} {tk k sz : Nat} {xs : List (List PV)} {cs : List AC} {z : List Value} (hC : DelC P f sz z) (h0 : opv env x0 = .c (.row tk)) (hr : res tk = some (.hol sz k xs cs))
    (h1 : opv env x1 = .c (.pv (.int .i64 k))) (h2 : opv env x2 = .c (.pv (.int .i64 ((k : Int) + 1)))) (hl : xs.length = k + 1) (hK : putA ⟨env, res, nx, n⟩ dst (.c (.row nx)) [(tk, none), (nx, some (.row true sz (xs.take k)))] (nx + 1024) K) :
    InlA P false env res nx n f [x0, x1, x2] dst K := by
  refine ⟨hC.enter, fun w0 g w a hS => ?_⟩
  have hM := hS.mod
  obtain ⟨b, q, c, e, ca, us, Ds, hv, hg, hh, hsz, hcc, hm, hz, ⟨hil, hcl⟩, ha, hDs, hdis, ho, hcs, _⟩ : HolOk g w (g.D tk) sz k xs cs (g.σ tk) := (hM.tok tk _ hr).2
  have e0 : a.eval x0 = .slice (some ⟨b, q, none⟩) (k + 1) c := by
    have h3 := hS.eval x0
    rw [show (⟨env, res, nx, n⟩ : AS).env = env from rfl, h0] at h3
    have h4 : RepC g w (.row tk) (a.eval x0) := h3
    rw [h4.2.1, hv, hl]
  have e1 : a.eval x1 = .int .i64 k := rep_int (by rw [← h1]; exact hS.eval x1)
  have e2 : a.eval x2 = .int .i64 ((k : Int) + 1) := rep_int (by rw [← h2]; exact hS.eval x2)
  rw [show ([x0, x1, x2].map a.eval).toArray = #[.slice (some ⟨b, q, none⟩) (k + 1) c, .int .i64 k, .int .i64 ((k : Int) + 1)] by simp [e0, e1, e2]]
  refine (hC.calls b q c k w ca e hh hsz (by omega) hm).mono fun e' w' ⟨he, hw'⟩ => ?_
  have hk1 : (k + 1) * sz ≤ c * sz := Nat.mul_le_mul_right _ (by omega)
  have hk2 : (k + 1) * sz = k * sz + sz := Nat.succ_mul _ _
  have hfit : q + k * sz + sz ≤ ca.size := by omega
  have hsize : (ca.toList.take (q + k * sz) ++ z ++ ca.toList.drop (q + k * sz + sz)).toArray.size = ca.size := by
    simp [hC.len]; omega
  have hh2 : CellsAt w' b (ca.toList.take (q + k * sz) ++ z ++ ca.toList.drop (q + k * sz + sz)).toArray e := by
    rw [hw']
    exact CellsAt.set (w := w.drew) hh hsize
  have hob : (g.σ tk).ownBlock = some b := by rw [hv]; rfl
  have hSb : ¬ g.S b := hM.sMut tk _ b hr hg (.inr hob)
  have hM0 : Models false w0 g (upd res tk none) w := hM.forget fun t' r' h3 => by
    rcases upd_cases h3 with ⟨_, h4⟩ | ⟨_, h4⟩
    · cases h4
    · exact h4
  have hoth : ∀ x, x ≠ b → w'.heap[x]? = w.heap[x]? := fun x hx => by rw [hw']; exact setRow_other w.drew b x _ hx
  have hws : w'.heap.size = w.heap.size := by rw [hw']; exact setRow_size w.drew b _
  obtain ⟨hM1, ev1⟩ := hM0.wild hSb (fun t r h3 hx => by
    rcases upd_cases h3 with ⟨_, h4⟩ | ⟨hn, h4⟩
    · cases h4
    · exact hn (hM.dApart t tk r _ b h4 hr hx hg)) (hM.dNew tk _ b hr hg).1 hoth hws (by rw [hw']; rfl) (by rw [hw']; rfl) (by rw [hw']; rfl)
  have hnx : ¬ g.U nx := fun h3 => Nat.lt_irrefl _ (hS.next nx h3)
  have hσn : ∀ D S, (g.mk1 nx (.slice (some ⟨b, q, none⟩) k c) D S).σ nx = .slice (some ⟨b, q, none⟩) k c := fun _ _ => upd_same _ _ _
  have hDn : ∀ D S, (g.mk1 nx (.slice (some ⟨b, q, none⟩) k c) D S).D nx = D := fun _ _ => upd_same _ _ _
  have htake : ∀ i j p, at2 (xs.take k) i j = some p → i < k ∧ at2 xs i j = some p := fun i j p hp => by
    unfold at2 at hp ⊢
    rw [List.getElem?_take] at hp
    split at hp
    · rename_i hi; exact ⟨hi, hp⟩
    · cases hp
  obtain ⟨hM2, ev2⟩ := hM1.putT nx (.slice (some ⟨b, q, none⟩) k c) (.row true sz (xs.take k)) (g.D tk) g.S (fun h3 => absurd h3 hnx) (fun _ h => h) (fun _ h => .inl h)
    (fun x hx => by rw [hws]; exact hM.dNew tk _ x hr hx)
    (fun x t' r' _ hx h3 hx' => by
      rcases upd_cases h3 with ⟨_, h4⟩ | ⟨hn, h4⟩
      · cases h4
      · exact hn (hM.dApart t' tk r' _ x h4 hr hx' hx))
    (fun x hx hmx => by
      rcases hmx with hmx | hmx
      · cases hmx
      · cases hmx; exact hSb)
    (fun _ x hx hmx => hM.sFro rfl tk _ x hr hx fun hq => hmx (by
      rcases hq with hq | hq
      · cases hq
      · rw [hob] at hq; cases hq; exact .inr rfl))
    (fun ev => by
      show RowOk w' _ ((g.mk1 nx _ _ _).D nx) true sz (xs.take k) ((g.mk1 nx _ _ _).σ nx)
      rw [hDn, hσn]
      have hlt : (xs.take k).length = k := by rw [List.length_take]; omega
      refine .inr ⟨b, q, c, e, _, us, fun i j x => i ≠ k ∧ Ds i j x, by rw [hlt], hg, hh2, by rw [hsize]; exact hsz, by rw [hlt]; omega, hm, fun y hy => hz y (List.mem_of_mem_take hy), fun i j p hp => ?_, fun i j x hx => hDs i j x hx.2, fun i j i' j' x hx hx' => hdis _ _ _ _ x hx.2 hx'.2, fun i j p hp => ?_⟩
      · obtain ⟨hi, hp2⟩ := htake i j p hp
        have h3 := ha i j p hp2
        have hjl : j < sz := by
          unfold at2 at hp2
          cases hx : xs[i]? with
          | none => rw [hx] at hp2; cases hp2
          | some y =>
            rw [hx] at hp2
            have h4 : j < y.length := (List.getElem?_eq_some_iff.1 hp2).1
            rw [hz y (List.mem_of_getElem? hx)] at h4
            exact h4
        have hi2 : (i + 1) * sz ≤ k * sz := Nat.mul_le_mul_right _ (by omega)
        have hi3 : (i + 1) * sz = i * sz + sz := Nat.succ_mul _ _
        rw [List.getElem?_toArray, List.append_assoc, List.getElem?_append_left (by simp; omega), List.getElem?_take, if_pos (by omega), Array.getElem?_toList]
        exact h3
      · obtain ⟨hi, hp2⟩ := htake i j p hp
        have h3 := ho i j p (by omega) hp2
        exact Own.mono h3 (fun x hx => hoth x (hDs i j x hx).2) fun x hx => ⟨by omega, hx⟩)
  have hput : updL res [(tk, none), (nx, some (.row true sz (xs.take k)))] = upd (upd res tk none) nx (some (.row true sz (xs.take k))) := rfl
  obtain ⟨s2, hK2, hS2⟩ := hS.put hK (x := .slice (some ⟨b, q, none⟩) k c) (w' := w') (g' := g.mk1 nx (.slice (some ⟨b, q, none⟩) k c) (g.D tk) g.S) (by rw [hput]; exact hM2) (ev1.trans ev2) ⟨.inr rfl, (hσn _ _).symm, rfl⟩ (fun t ht => by
    rcases ht with ht | rfl
    · have h9 : t < nx := hS.next t ht; omega
    · omega)
  exact ⟨_, s2, _, he, hS2, hK2⟩
end
end Go.Vi
