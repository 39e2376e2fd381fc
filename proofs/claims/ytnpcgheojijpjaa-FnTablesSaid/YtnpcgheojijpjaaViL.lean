/- A function's contract; a call by its contract. -/
import Derived.Test.YtnpcgheojijpjaaViK
set_option linter.unusedVariables false
set_option linter.unusedSimpArgs false
namespace Go.Vi
open Go.RowKit
/-- A value of one type: one cell, or a struct's. -/
inductive VV where
  | one (p : PV)
  | agg (ps : List PV)
  | ptr (c : List PV)
  | clo (f : FuncId) (caps : List (List PV))
def RepPs (w : World) (S : Nat → Prop) (ps : List PV) (vs : List Value) : Prop := vs.length = ps.length ∧ ∀ (j : Nat) p, ps[j]? = some p → ∃ u, vs[j]? = some u ∧ Rep w S p u
def RepVV (w : World) (S : Nat → Prop) : VV → Value → Prop
  | .one p, v => Rep w S p v
  | .agg ps, v => ∃ vs : List Value, v = .agg vs.toArray ∧ RepPs w S ps vs
  | .ptr c, v => RepEl w S c v
  | .clo f caps, v => RepClo w S f caps v
def RepVs (w : World) (S : Nat → Prop) (as : List VV) (vs : List Value) : Prop := vs.length = as.length ∧ ∀ (j : Nat) a, as[j]? = some a → ∃ u, vs[j]? = some u ∧ RepVV w S a u
def OwnPs (w : World) (D : Nat → Nat → Prop) (ps : List PV) (vs : List Value) : Prop := vs.length = ps.length ∧ ∀ (j : Nat) p, ps[j]? = some p → ∃ u, vs[j]? = some u ∧ Own w (D j) p u
def OwnVV (w : World) (D : Nat → Nat → Prop) : VV → Value → Prop
  | .one p, v => Own w (D 0) p v
  | .agg ps, v => ∃ vs : List Value, v = .agg vs.toArray ∧ OwnPs w D ps vs
  | _, _ => False
def retVal : List Value → Value
  | [u] => u
  | us => .tuple us.toArray
/-- What a call returned: its own memory, in D, part by part apart. -/
def RetOk (w : World) (D : Nat → Prop) (rs : List VV) (v : Value) : Prop :=
  ∃ us : List Value, v = retVal us ∧ us.length = rs.length ∧ ∃ Ds : Nat → Nat → Nat → Prop, (∀ i j x, Ds i j x → D x) ∧ (∀ i j i' j' x, Ds i j x → Ds i' j' x → i = i' ∧ j = j') ∧
    ∀ (i : Nat) r, rs[i]? = some r → ∃ u, us[i]? = some u ∧ OwnVV w (Ds i) r u
structure Enters (P : Program) (f : FuncId) : Prop where
  enter : ∃ fn, P.funcs[f]? = some fn ∧ (fn.name == "runtime.NumGoroutine") = false ∧ fn.body.isSome = true
/-- A FUNCTION'S CONTRACT: called with values that read as 'args', whatever the memory, it returns 'rs', all new; nothing that was there has turned. -/
structure PureC (P : Program) (f : FuncId) (args rs : List VV) : Prop where
  enter : Enters P f
  calls : ∀ (w : World) (vals : List Value), Laid w → RepVs w (fun x => x < w.heap.size) args vals → Calls P f vals.toArray w fun e w' =>
    ∃ v D, e = .returned v ∧ RetOk w' D rs v ∧ (∀ x, D x → w.heap.size ≤ x ∧ x < w'.heap.size) ∧ Below w.heap.size w w'
section
variable {P : Program} {Γ : TG} {dm : Bool} {o : Oper} {env : Nat → AV} {res : Res} {id : Nat} {K : KT}

/-! ### Arguments -/
def pvA (res : Res) (a : AC) (K : PV → List Nat → Prop) : Prop :=
  match a with
  | .pv p => forceP p fun p => K p []
  | .nil sz => K (.sl sz []) []
  | .row t => (match res t with
    | some (.row _ sz xs) => K (.sl sz xs) [t]
    | some (.ro sz xs) => K (.sl sz xs) [t]
    | some (.fro sz xs) => K (.sl sz xs) [t]
    | _ => False)
  | _ => False
def pvL (res : Res) : List AC → (List PV → List Nat → Prop) → Prop
  | [], K => K [] []
  | a :: l, K => pvA res a fun p ts => pvL res l fun ps us => K (p :: ps) (ts ++ us)
/-- What the boxes hold that a function has captured. -/
def capsA (res : Res) : List Nat → (List (List PV) → List Nat → Prop) → Prop
  | [], K => K [] []
  | t :: l, K => match res t with
    | some (.box cs) => pvL res cs fun ps ts => capsA res l fun caps us => K (ps :: caps) (t :: ts ++ us)
    | _ => False
def vvA (res : Res) (v : AV) (K : VV → List Nat → Prop) : Prop :=
  match v with
  | .c (.fn f toks) => capsA res toks fun caps ts => K (.clo f caps) ts
  | .c (.clo f caps) => K (.clo f caps) []
  | .c (.el c) => K (.ptr c) []
  | .c a => pvA res a fun p ts => K (.one p) ts
  | .agg cs => pvL res cs fun ps ts => K (.agg ps) ts
  | .tup _ => False
def argsA (Γ : TG) (env : Nat → AV) (res : Res) : List Operand → List TypeId → (List VV → List Nat → Prop) → Prop
  | [], _, K => K [] []
  | x :: l, t :: ts, K => vvA res (rtyV Γ t (opv env x)) fun v us => argsA Γ env res l ts fun vs ws => K (v :: vs) (us ++ ws)
  | _ :: _, [], _ => False
/-- Reading by facts on tokens. -/
def ReadBy (res : Res) (ts : List Nat) (R : World → Prop) (hyp : G → World → Prop) : Prop :=
  ∃ rs : List (Nat × ARes), (∀ t r, (t, r) ∈ rs → res t = some r) ∧ rs.map Prod.fst = ts ∧ ∀ (dm : Bool) (w0 : Base) (g : G) (res' : Res) (w : World), Models dm w0 g res' w → (∀ t r, (t, r) ∈ rs → res' t = some r) → hyp g w → R w
theorem pvA_eqS {a : AC} {K : PV → List Nat → Prop} (h : pvA res a K) : ∃ p ts, K p ts ∧ ∃ rs : List (Nat × ARes), (∀ t r, (t, r) ∈ rs → res t = some r) ∧ rs.map Prod.fst = ts ∧
    ∀ (dm : Bool) (w0 : Base) (g : G) (res' : Res) (w : World), Models dm w0 g res' w → (∀ t r, (t, r) ∈ rs → res' t = some r) → ∀ S' : Nat → Prop, (∀ x, g.S x → S' x) → (∀ t r x, (t, r) ∈ rs → g.D t x → S' x) → ∀ v, RepC g w a v → Rep w S' p v := by
  unfold pvA at h
  split at h
  · exact ⟨_, _, forceP_eq (K := fun p => K p []) h, [], by simp, rfl, fun dm w0 g res' w hM _ S' hS hD v hv => Rep.mono hv (fun _ _ => rfl) hS⟩
  · exact ⟨_, _, h, [], by simp, rfl, fun dm w0 g res' w hM _ S' hS hD v hv => by
      have hv : v = .slice none 0 0 := hv
      subst hv
      exact Own.rep (.nil (fun _ => False) _) fun _ h => h.elim⟩
  · rename_i t
    split at h
    · rename_i own sz xs hr
      refine ⟨_, _, h, [(t, .row own sz xs)], by simpa using hr, rfl, fun dm w0 g res' w hM hr' S' hS hD v hv => ?_⟩
      have hr1 : res' t = some (.row own sz xs) := hr' t _ (by simp)
      have h1 : RowOk w g.S (g.D t) own sz xs (g.σ t) := (hM.tok t _ hr1).2
      rw [hv.2.1]
      exact h1.rep (fun x hx => hD t _ x (List.mem_singleton.2 rfl) hx) hS
    · rename_i sz xs hr
      refine ⟨_, _, h, [(t, .ro sz xs)], by simpa using hr, rfl, fun dm w0 g res' w hM hr' S' hS hD v hv => ?_⟩
      have h1 : Rep w g.S (.sl sz xs) (g.σ t) := (hM.tok t _ (hr' t (.ro sz xs) (by simp))).2
      rw [hv.2.1]
      exact h1.mono (fun _ _ => rfl) hS
    · rename_i sz xs hr
      refine ⟨_, _, h, [(t, .fro sz xs)], by simpa using hr, rfl, fun dm w0 g res' w hM hr' S' hS hD v hv => ?_⟩
      have h1 : RowOk w g.S (g.D t) true sz xs (g.σ t) := (hM.tok t _ (hr' t (.fro sz xs) (by simp))).2
      rw [hv.2.1]
      exact h1.rep (fun x hx => hD t _ x (List.mem_singleton.2 rfl) hx) hS
    · exact h.elim
  · exact h.elim
theorem pvL_eqS : ∀ {l : List AC} {K : List PV → List Nat → Prop}, pvL res l K → ∃ ps ts, K ps ts ∧ ∃ rs : List (Nat × ARes), (∀ t r, (t, r) ∈ rs → res t = some r) ∧ rs.map Prod.fst = ts ∧
    ∀ (dm : Bool) (w0 : Base) (g : G) (res' : Res) (w : World), Models dm w0 g res' w → (∀ t r, (t, r) ∈ rs → res' t = some r) → ∀ S' : Nat → Prop, (∀ x, g.S x → S' x) → (∀ t r x, (t, r) ∈ rs → g.D t x → S' x) → ∀ vs, RepCs g w l vs → RepPs w S' ps vs
  | [], K, h => ⟨_, _, h, [], by simp, rfl, fun dm w0 g res' w hM _ S' hS hD vs hv => ⟨hv.1, by simp⟩⟩
  | a :: l, K, h => by
    obtain ⟨p, ts, h, rs, hrs, hm, hrep⟩ := pvA_eqS h
    obtain ⟨ps, us, hK, rs2, hrs2, hm2, hrep2⟩ := pvL_eqS h
    refine ⟨_, _, hK, rs ++ rs2, fun t r hq => ?_, by simp [hm, hm2], fun dm w0 g res' w hM hr' S' hS hD vs hv => ?_⟩
    · rcases List.mem_append.1 hq with hq | hq
      · exact hrs t r hq
      · exact hrs2 t r hq
    · cases vs with
      | nil => have := hv.1; simp at this
      | cons v vs =>
        have h1 : RepC g w a v := by
          obtain ⟨u, hu, _, hr⟩ := hv.2 0 a rfl
          simp at hu
          subst hu
          exact hr
        have h2 : RepCs g w l vs := ⟨by have := hv.1; simpa using this, fun j b hb => by simpa using hv.2 (j + 1) b (by simpa using hb)⟩
        have q1 := hrep dm w0 g res' w hM (fun t r h => hr' t r (by simp [h])) S' hS (fun t r x h => hD t r x (by simp [h])) v h1
        have q2 := hrep2 dm w0 g res' w hM (fun t r h => hr' t r (by simp [h])) S' hS (fun t r x h => hD t r x (by simp [h])) vs h2
        refine ⟨by simp [q2.1], fun j p' hp => ?_⟩
        cases j with
        | zero => simp at hp; subst hp; exact ⟨v, rfl, q1⟩
        | succ j => simpa using q2.2 j p' (by simpa using hp)
theorem capsA_eqS : ∀ {l : List Nat} {K : List (List PV) → List Nat → Prop}, capsA res l K → ∃ caps ts, K caps ts ∧ ∃ rs : List (Nat × ARes), (∀ t r, (t, r) ∈ rs → res t = some r) ∧ rs.map Prod.fst = ts ∧
    ∀ (dm : Bool) (w0 : Base) (g : G) (res' : Res) (w : World), Models dm w0 g res' w → (∀ t r, (t, r) ∈ rs → res' t = some r) → ∀ S' : Nat → Prop, (∀ x, g.S x → S' x) → (∀ t r x, (t, r) ∈ rs → g.D t x → S' x) → ∀ vs : List Value, vs.length = l.length → (∀ (j : Nat) t, l[j]? = some t → ∃ u, vs[j]? = some u ∧ RepPtr g t 0 u) →
      vs.length = caps.length ∧ ∀ (j : Nat) c, caps[j]? = some c → ∃ u, vs[j]? = some u ∧ RepEl w S' c u
  | [], K, h => ⟨_, _, h, [], by simp, rfl, fun dm w0 g res' w hM _ S' hS hD vs hl _ => ⟨hl, by simp⟩⟩
  | t :: l, K, h => by
    simp only [capsA] at h
    split at h
    · rename_i cs hr
      obtain ⟨ps, ts, h, rs, hrs, hm, hrep⟩ := pvL_eqS h
      obtain ⟨caps, us, hK, rs2, hrs2, hm2, hrep2⟩ := capsA_eqS h
      refine ⟨_, _, hK, (t, .box cs) :: (rs ++ rs2), fun t' r hq => ?_, by simp [hm, hm2], fun dm w0 g res' w hM hr' S' hS hD vs hl hv => ?_⟩
      · rcases List.mem_cons.1 hq with hq | hq
        · cases hq; exact hr
        · rcases List.mem_append.1 hq with hq | hq
          · exact hrs t' r hq
          · exact hrs2 t' r hq
      · cases vs with
        | nil => simp at hl
        | cons v vs =>
          have q2 := hrep2 dm w0 g res' w hM (fun t r h => hr' t r (by simp [h])) S' hS (fun t r x h => hD t r x (by simp [h])) vs (by simpa using hl) (fun j t ht => by simpa using hv (j + 1) t (by simpa using ht))
          refine ⟨by simp [q2.1], fun j c hc => ?_⟩
          cases j with
          | zero =>
            simp at hc; subst hc
            obtain ⟨u, hu, hut, b, hs, hub⟩ := hv 0 t rfl
            simp at hu; subst hu
            have ht := hM.tok t _ (hr' t (.box cs) (by simp))
            obtain ⟨b', ty, ws, hv', hb', hh, hcs⟩ := ht.2
            rw [hs] at hv'; cases hv'
            have hlt : S' b := hD t _ b (List.mem_cons_self ..) hb'
            have q1 := hrep dm w0 g res' w hM (fun t r h => hr' t r (by simp [h])) S' hS (fun t r x h => hD t r x (by simp [h])) ws hcs
            refine ⟨v, rfl, b, 0, hub, hlt, fun j p hp => ?_⟩
            obtain ⟨x, hx, hrx⟩ := q1.2 j p hp
            refine ⟨x, ?_, hrx⟩
            rw [cell_of hh, Nat.zero_add]
            simpa using hx
          | succ j => simpa using q2.2 j c (by simpa using hc)
    · exact h.elim
theorem vvA_eqS {v : AV} {K : VV → List Nat → Prop} (h : vvA res v K) : ∃ a ts, K a ts ∧ ∃ rs : List (Nat × ARes), (∀ t r, (t, r) ∈ rs → res t = some r) ∧ rs.map Prod.fst = ts ∧
    ∀ (dm : Bool) (w0 : Base) (g : G) (res' : Res) (w : World), Models dm w0 g res' w → (∀ t r, (t, r) ∈ rs → res' t = some r) → ∀ S' : Nat → Prop, (∀ x, g.S x → S' x) → (∀ t r x, (t, r) ∈ rs → g.D t x → S' x) → ∀ u, RepAV g w v u → RepVV w S' a u := by
  unfold vvA at h
  split at h
  · obtain ⟨caps, ts, hK, rs, h1, h2, h3⟩ := capsA_eqS h
    refine ⟨_, _, hK, rs, h1, h2, fun dm w0 g res' w hM hr S' hS hD u hu => ?_⟩
    obtain ⟨vs, hv, hl, hc⟩ := hu
    obtain ⟨h4, h5⟩ := h3 dm w0 g res' w hM hr S' hS hD vs hl hc
    exact ⟨vs, hv, h4, h5⟩
  · exact ⟨_, _, h, [], by simp, rfl, fun dm w0 g res' w hM _ S' hS hD u hu => RepClo.mono (S := g.S) hu (fun _ _ => rfl) hS⟩
  · exact ⟨_, _, h, [], by simp, rfl, fun dm w0 g res' w hM _ S' hS hD u hu => RepEl.mono (S := g.S) hu (fun _ _ => rfl) hS⟩
  · obtain ⟨p, ts, hK, rs, h1, h2, h3⟩ := pvA_eqS h
    exact ⟨_, _, hK, rs, h1, h2, fun dm w0 g res' w hM hr S' hS hD u hu => h3 dm w0 g res' w hM hr S' hS hD u hu⟩
  · obtain ⟨p, ts, hK, rs, h1, h2, h3⟩ := pvL_eqS h
    refine ⟨_, _, hK, rs, h1, h2, fun dm w0 g res' w hM hr S' hS hD u hu => ?_⟩
    obtain ⟨vs, rfl, hv⟩ := hu
    exact ⟨vs, rfl, h3 dm w0 g res' w hM hr S' hS hD vs hv⟩
  · exact h.elim
theorem argsA_eqS : ∀ {l : List Operand} {ts : List TypeId} {K : List VV → List Nat → Prop}, argsA Γ env res l ts K → ∃ as us, K as us ∧ ∃ rs : List (Nat × ARes), (∀ t r, (t, r) ∈ rs → res t = some r) ∧ rs.map Prod.fst = us ∧
    ∀ (dm : Bool) (w0 : Base) (g : G) (res' : Res) (w : World) (a : Act), Models dm w0 g res' w → (∀ t r, (t, r) ∈ rs → res' t = some r) → (∀ S' : Nat → Prop, (∀ x, g.S x → S' x) → (∀ t r x, (t, r) ∈ rs → g.D t x → S' x) → (∀ x ∈ l, RepAV g w (opv env x) (a.eval x)) → RepVs w S' as (l.map a.eval))
  | [], ts, K, h => by
    simp only [argsA] at h
    exact ⟨_, _, h, [], by simp, rfl, fun _ _ _ _ _ _ _ _ _ _ _ _ => ⟨rfl, by simp⟩⟩
  | x :: l, [], K, h => h.elim
  | x :: l, t :: ts, K, h => by
    simp only [argsA] at h
    obtain ⟨v, us, h, rs, hrs, hm, hrep⟩ := vvA_eqS h
    obtain ⟨vs, ws, hK, rs2, hrs2, hm2, hrep2⟩ := argsA_eqS h
    refine ⟨_, _, hK, rs ++ rs2, fun t r hq => ?_, by simp [hm, hm2], fun dm w0 g res' w a hM hr' S' hS hD hop => ?_⟩
    · rcases List.mem_append.1 hq with hq | hq
      · exact hrs t r hq
      · exact hrs2 t r hq
    · have q1 := hrep dm w0 g res' w hM (fun t r h => hr' t r (by simp [h])) S' hS (fun t r x h => hD t r x (by simp [h])) _ (rtyV_rep (hop x (by simp)))
      have q2 := hrep2 dm w0 g res' w a hM (fun t r h => hr' t r (by simp [h])) S' hS (fun t r x h => hD t r x (by simp [h])) fun y hy => hop y (by simp [hy])
      refine ⟨by simpa using q2.1, fun j b hb => ?_⟩
      cases j with
      | zero => simp at hb; subst hb; exact ⟨_, rfl, q1⟩
      | succ j => simpa using q2.2 j b (by simpa using hb)

theorem argsA_eq {l : List Operand} {ts : List TypeId} {K : List VV → List Nat → Prop} (h : argsA Γ env res l ts K) : ∃ as us, K as us ∧ ∃ rs : List (Nat × ARes), (∀ t r, (t, r) ∈ rs → res t = some r) ∧ rs.map Prod.fst = us ∧
    ∀ (dm : Bool) (w0 : Base) (g : G) (res' : Res) (w : World) (a : Act), Models dm w0 g res' w → (∀ t r, (t, r) ∈ rs → res' t = some r) → (∀ x ∈ l, RepAV g w (opv env x) (a.eval x)) → RepVs w (fun x => x < w.heap.size) as (l.map a.eval) := by
  obtain ⟨as, us, hK, rs, h1, h2, h3⟩ := argsA_eqS h
  exact ⟨as, us, hK, rs, h1, h2, fun dm w0 g res' w a hM hr => h3 dm w0 g res' w a hM hr _ hM.sLt fun t r x hq hx => (hM.dNew t r x (hr t r hq) hx).2⟩

/-! ### Results -/
def tokC (k : Nat) (p : PV) (K : AC → Upd → Prop) : Prop :=
  match p with
  | .int q n => K (.pv (.int q n)) []
  | .bool b => K (.pv (.bool b)) []
  | .str s => K (.pv (.str s)) []
  | .fn f => K (.pv (.fn f)) []
  | .err b => K (.pv (.err b)) []
  | .any v => K (.pv (.any v)) []
  | .sl sz xs => K (.row k) [(k, some (.row true sz xs))]
def tokL : Nat → List PV → (List AC → Upd → Prop) → Prop
  | _, [], K => K [] []
  | k, p :: l, K => tokC k p fun a u => tokL (k + 1) l fun as us => K (a :: as) (u ++ us)
def tokV (k : Nat) (r : VV) (K : AV → Upd → Prop) : Prop :=
  match r with
  | .one p => tokC k p fun a u => K (.c a) u
  | .agg ps => tokL k ps fun as u => match Nat.ble ps.length 64 with
    | true => K (.agg as) u
    | false => False
  | _ => False
def tokVs : Nat → List VV → (List AV → Upd → Prop) → Prop
  | _, [], K => K [] []
  | k, r :: l, K => tokV k r fun a u => tokVs (k + 64) l fun as us => K (a :: as) (u ++ us)
def tokR (k : Nat) (rs : List VV) (K : AV → Upd → Prop) : Prop :=
  match rs with
  | [r] => tokV k r K
  | rs => tokVs k rs fun as u => match Nat.ble as.length 16 with
    | true => K (.tup as) u
    | false => False
/-- Memory that no one has yet. -/
structure Fr (w0 : Base) (g : G) (res : Res) (w : World) (D : Nat → Prop) : Prop where
  new : ∀ x, D x → (w0.E x ∨ w0.heap.size ≤ x) ∧ x < w.heap.size
  offS : ∀ x, D x → ¬ g.S x
  off : ∀ x t r, D x → res t = some r → ¬ g.D t x
theorem Models.addRow {w0 : Base} {w : World} {g : G} (h : Models dm w0 g res w) {t : Nat} (ht : ¬ g.U t) {D : Nat → Prop} {sz : Nat} {xs : List (List PV)} {v : Value} (hown : Own w D (.sl sz xs) v) (hF : Fr w0 g res w D) :
    ∃ g', Models dm w0 g' (upd res t (some (.row true sz xs))) w ∧ Evo g g' w w ∧ (∀ x, g'.U x → g.U x ∨ x = t) ∧ RepC g' w (.row t) v ∧ v.oneCell' = true ∧
      ∀ D', Fr w0 g res w D' → (∀ x, D x → ¬ D' x) → Fr w0 g' (upd res t (some (.row true sz xs))) w D' := by
  have hone := hown.one
  let S' : Nat → Prop := fun x => g.S x ∨ (dm = false ∧ D x ∧ v.ownBlock ≠ some x)
  have ev : Evo g (g.mk1 t v D S') w w := Evo.mk1 ht (fun _ h => .inl h) fun _ _ => rfl
  have hDo : ∀ t', t' ≠ t → (g.mk1 t v D S').D t' = g.D t' := fun t' hn => upd_ne _ _ hn
  have hDn : (g.mk1 t v D S').D t = D := upd_same _ _ _
  have hσo : ∀ t', t' ≠ t → (g.mk1 t v D S').σ t' = g.σ t' := fun t' hn => upd_ne _ _ hn
  have hσn : (g.mk1 t v D S').σ t = v := upd_same _ _ _
  have key : ∀ t' r', upd res t (some (.row true sz xs)) t' = some r' → (t' = t ∧ r' = .row true sz xs) ∨ (t' ≠ t ∧ res t' = some r') := by
    intro t' r' h1
    rcases upd_cases h1 with ⟨e1, e2⟩ | h2
    · exact .inl ⟨e1, by cases e2; rfl⟩
    · exact .inr h2
  refine ⟨g.mk1 t v D S', ⟨h.below, fun x hx hE => .inl (h.sBase x hx hE), ?_, ?_, ?_, ?_, ?_, ?_⟩, ev, fun x hx => hx, ⟨.inr rfl, hσn.symm, hone⟩, hone, ?_⟩
  · rintro x (hx | ⟨_, hx, _⟩)
    · exact h.sLt x hx
    · exact (hF.new x hx).2
  · intro t' r' hr
    rcases key t' r' hr with ⟨rfl, rfl⟩ | ⟨hn, hr⟩
    · refine ⟨.inr rfl, ?_⟩
      show RowOk w S' ((g.mk1 t' v D S').D t') true sz xs ((g.mk1 t' v D S').σ t')
      rw [hDn, hσn]
      exact row_of_own hown
    · exact ⟨.inl (h.tok t' r' hr).1, (h.tok t' r' hr).2.evo ev (h.tok t' r' hr).1 (hDo t' hn) fun _ _ => rfl⟩
  · intro t' r' x hr hx
    rcases key t' r' hr with ⟨rfl, rfl⟩ | ⟨hn, hr⟩
    · rw [hDn] at hx; exact hF.new x hx
    · rw [hDo t' hn] at hx; exact h.dNew t' r' x hr hx
  · intro t1 t2 r1 r2 x h1 h2 hx1 hx2
    rcases key t1 r1 h1 with ⟨rfl, rfl⟩ | ⟨hn1, k1⟩ <;> rcases key t2 r2 h2 with ⟨e2, rfl⟩ | ⟨hn2, k2⟩
    · exact e2.symm
    · rw [hDn] at hx1
      rw [hDo t2 hn2] at hx2
      exact absurd hx2 (hF.off x t2 r2 hx1 k2)
    · subst e2
      rw [hDn] at hx2
      rw [hDo t1 hn1] at hx1
      exact absurd hx1 (hF.off x t1 r1 hx2 k1)
    · rw [hDo t1 hn1] at hx1
      rw [hDo t2 hn2] at hx2
      exact h.dApart t1 t2 r1 r2 x k1 k2 hx1 hx2
  · intro t' r' x hr hx hm
    rcases key t' r' hr with ⟨rfl, rfl⟩ | ⟨hn, hr⟩
    · rw [hDn] at hx
      rw [hσn] at hm
      rintro (hS | ⟨hd, _, hb⟩)
      · exact hF.offS x hx hS
      · rcases hm with hm | hm
        · rw [hd] at hm; cases hm
        · exact hb hm
    · rw [hDo t' hn] at hx
      rw [hσo t' hn] at hm
      rintro (hS | ⟨_, hS, _⟩)
      · exact h.sMut t' r' x hr hx hm hS
      · exact hF.off x t' r' hS hr hx
  · intro hdm t' r' x hr hx hm
    rcases key t' r' hr with ⟨rfl, rfl⟩ | ⟨hn, hr⟩
    · rw [hDn] at hx
      rw [hσn] at hm
      exact .inr ⟨hdm, hx, fun hb => hm (.inr hb)⟩
    · rw [hDo t' hn] at hx
      rw [hσo t' hn] at hm
      exact .inl (h.sFro hdm t' r' x hr hx hm)
  · intro D' hD' hdis
    refine ⟨hD'.new, ?_, ?_⟩
    · rintro x hx (hS | ⟨_, hS, _⟩)
      · exact hD'.offS x hx hS
      · exact hdis x hS hx
    · intro x t' r' hx hr
      rcases key t' r' hr with ⟨rfl, rfl⟩ | ⟨hn, hr⟩
      · rw [hDn]; exact fun h => hdis x h hx
      · rw [hDo t' hn]; exact hD'.off x t' r' hx hr
theorem tokC_eq {k : Nat} {p : PV} {K : AC → Upd → Prop} (h : tokC k p K) : ∃ a u, K a u ∧ ∀ (dm : Bool) (w0 : Base) (w : World) (g : G) (res : Res) (v : Value) (D : Nat → Prop), Models dm w0 g res w → ¬ g.U k → Own w D p v → Fr w0 g res w D →
    ∃ g', Models dm w0 g' (updL res u) w ∧ Evo g g' w w ∧ (∀ x, g'.U x → g.U x ∨ x = k) ∧ RepC g' w a v ∧ v.oneCell' = true ∧ ∀ D', Fr w0 g res w D' → (∀ x, D x → ¬ D' x) → Fr w0 g' (updL res u) w D' := by
  have flat : ∀ (p : PV), p.flat = true → K (.pv p) [] → ∃ a u, K a u ∧ ∀ (dm : Bool) (w0 : Base) (w : World) (g : G) (res : Res) (v : Value) (D : Nat → Prop), Models dm w0 g res w → ¬ g.U k → Own w D p v → Fr w0 g res w D →
      ∃ g', Models dm w0 g' (updL res u) w ∧ Evo g g' w w ∧ (∀ x, g'.U x → g.U x ∨ x = k) ∧ RepC g' w a v ∧ v.oneCell' = true ∧ ∀ D', Fr w0 g res w D' → (∀ x, D x → ¬ D' x) → Fr w0 g' (updL res u) w D' := by
    intro p hf hK
    refine ⟨_, _, hK, fun dm w0 w g res v D hM _ hown _ => ⟨g, hM, Evo.refl _ _, fun _ h => .inl h, ?_, hown.one, fun D' h _ => h⟩⟩
    exact Own.rep (D := fun _ => False) (hown.flat_D hf) fun _ h => h.elim
  unfold tokC at h
  split at h
  · exact flat _ rfl h
  · exact flat _ rfl h
  · exact flat _ rfl h
  · exact flat _ rfl h
  · exact flat _ rfl h
  · exact flat _ rfl h
  · exact ⟨_, _, h, fun dm w0 w g res v D hM hk hown hF => hM.addRow hk hown hF⟩
theorem tokL_eq : ∀ {ps : List PV} {k : Nat} {K : List AC → Upd → Prop}, tokL k ps K → ∃ as u, K as u ∧ as.length = ps.length ∧ ∀ (dm : Bool) (w0 : Base) (w : World) (g : G) (res : Res) (vs : List Value) (D : Nat → Nat → Prop), Models dm w0 g res w →
    (∀ x, k ≤ x → x < k + ps.length → ¬ g.U x) → OwnPs w D ps vs → (∀ j, Fr w0 g res w (D j)) → (∀ i j x, D i x → D j x → i = j) →
    ∃ g', Models dm w0 g' (updL res u) w ∧ Evo g g' w w ∧ (∀ x, g'.U x → g.U x ∨ (k ≤ x ∧ x < k + ps.length)) ∧ RepCs g' w as vs ∧ ∀ D', Fr w0 g res w D' → (∀ j x, D j x → ¬ D' x) → Fr w0 g' (updL res u) w D'
  | [], k, K, h => by
    simp only [tokL] at h
    refine ⟨_, _, h, rfl, fun dm w0 w g res vs D hM _ hv _ _ => ⟨g, hM, Evo.refl _ _, fun _ h => .inl h, ⟨hv.1, by simp⟩, fun D' h _ => h⟩⟩
  | p :: ps, k, K, h => by
    simp only [tokL] at h
    obtain ⟨a, u, h, h1⟩ := tokC_eq h
    obtain ⟨as, us, hK, hl, h2⟩ := tokL_eq h
    refine ⟨_, _, hK, by simp [hl], fun dm w0 w g res vs D hM hU hv hF hdis => ?_⟩
    cases vs with
    | nil => have := hv.1; simp at this
    | cons v vs =>
      obtain ⟨v0, hv0, hown⟩ := hv.2 0 p rfl
      simp at hv0
      subst hv0
      obtain ⟨g1, hM1, e1, hU1, hr1, ho1, hfr1⟩ := h1 dm w0 w g res v (D 0) hM (hU k (Nat.le_refl _) (by simp)) hown (hF 0)
      obtain ⟨g2, hM2, e2, hU2, hr2, hfr2⟩ := h2 dm w0 w g1 (updL res u) vs (fun j => D (j + 1)) hM1 (fun x h3 h4 h5 => by
        rcases hU1 x h5 with h6 | h6
        · exact hU x (by omega) (by simp; omega) h6
        · omega) ⟨by have := hv.1; simpa using this, fun j p' hp => by simpa using hv.2 (j + 1) p' (by simpa using hp)⟩
        (fun j => hfr1 _ (hF (j + 1)) fun x hx hx' => by have := hdis 0 (j + 1) x hx hx'; omega) (fun i j x hx hx' => by have := hdis _ _ x hx hx'; omega)
      refine ⟨g2, by rw [updL_append]; exact hM2, e1.trans e2, fun x hx => ?_, ⟨by simp [hr2.1], fun j b hb => ?_⟩, fun D' hD' hd => ?_⟩
      · rcases hU2 x hx with h3 | h3
        · rcases hU1 x h3 with h4 | h4
          · exact .inl h4
          · exact .inr (by simp; omega)
        · exact .inr (by simp; omega)
      · cases j with
        | zero => simp at hb; subst hb; exact ⟨v, rfl, ho1, hr1.evo e2⟩
        | succ j => simpa using hr2.2 j b (by simpa using hb)
      · rw [updL_append]
        exact hfr2 D' (hfr1 D' hD' fun x hx => hd 0 x hx) fun j x hx => hd (j + 1) x hx
theorem tokV_eq {k : Nat} {r : VV} {K : AV → Upd → Prop} (h : tokV k r K) : ∃ a u, K a u ∧ ∀ (dm : Bool) (w0 : Base) (w : World) (g : G) (res : Res) (v : Value) (D : Nat → Nat → Prop), Models dm w0 g res w →
    (∀ x, k ≤ x → x < k + 64 → ¬ g.U x) → OwnVV w D r v → (∀ j, Fr w0 g res w (D j)) → (∀ i j x, D i x → D j x → i = j) →
    ∃ g', Models dm w0 g' (updL res u) w ∧ Evo g g' w w ∧ (∀ x, g'.U x → g.U x ∨ (k ≤ x ∧ x < k + 64)) ∧ RepA1 g' w a v ∧ ∀ D', Fr w0 g res w D' → (∀ j x, D j x → ¬ D' x) → Fr w0 g' (updL res u) w D' := by
  unfold tokV at h
  split at h
  · obtain ⟨a, u, hK, h1⟩ := tokC_eq h
    refine ⟨_, _, hK, fun dm w0 w g res v D hM hU hv hF hdis => ?_⟩
    obtain ⟨g1, hM1, e1, hU1, hr1, ho1, hfr1⟩ := h1 dm w0 w g res v (D 0) hM (hU k (Nat.le_refl _) (by omega)) hv (hF 0)
    exact ⟨g1, hM1, e1, fun x hx => (hU1 x hx).imp id fun h => by omega, hr1, fun D' hD' hd => hfr1 D' hD' fun x hx => hd 0 x hx⟩
  · rename_i ps
    obtain ⟨as, u, h, hl, h1⟩ := tokL_eq h
    split at h
    · rename_i hlen
      have hlen := Nat.le_of_ble_eq_true hlen
      refine ⟨_, _, h, fun dm w0 w g res v D hM hU hv hF hdis => ?_⟩
      obtain ⟨vs, rfl, hv⟩ := hv
      obtain ⟨g1, hM1, e1, hU1, hr1, hfr1⟩ := h1 dm w0 w g res vs D hM (fun x h3 h4 => hU x h3 (by omega)) hv hF hdis
      exact ⟨g1, hM1, e1, fun x hx => (hU1 x hx).imp id fun h => by omega, ⟨vs, rfl, hr1⟩, hfr1⟩
    · exact h.elim
  · exact h.elim
theorem tokVs_eq : ∀ {rs : List VV} {k : Nat} {K : List AV → Upd → Prop}, tokVs k rs K → ∃ as u, K as u ∧ as.length = rs.length ∧ ∀ (dm : Bool) (w0 : Base) (w : World) (g : G) (res : Res) (vs : List Value) (D : Nat → Nat → Nat → Prop), Models dm w0 g res w →
    (∀ x, k ≤ x → x < k + 64 * rs.length → ¬ g.U x) → vs.length = rs.length → (∀ (i : Nat) r, rs[i]? = some r → ∃ u, vs[i]? = some u ∧ OwnVV w (D i) r u) → (∀ i j, Fr w0 g res w (D i j)) → (∀ i j i' j' x, D i j x → D i' j' x → i = i' ∧ j = j') →
    ∃ g', Models dm w0 g' (updL res u) w ∧ Evo g g' w w ∧ (∀ x, g'.U x → g.U x ∨ (k ≤ x ∧ x < k + 64 * rs.length)) ∧ (∀ (i : Nat) a, as[i]? = some a → ∃ u, vs[i]? = some u ∧ RepA1 g' w a u)
  | [], k, K, h => by
    simp only [tokVs] at h
    exact ⟨_, _, h, rfl, fun dm w0 w g res vs D hM _ hv _ _ _ => ⟨g, hM, Evo.refl _ _, fun _ h => .inl h, by simp⟩⟩
  | r :: rs, k, K, h => by
    simp only [tokVs] at h
    obtain ⟨a, u, h, h1⟩ := tokV_eq h
    obtain ⟨as, us, hK, hl, h2⟩ := tokVs_eq h
    refine ⟨_, _, hK, by simp [hl], fun dm w0 w g res vs D hM hU hlen hv hF hdis => ?_⟩
    cases vs with
    | nil => simp at hlen
    | cons v vs =>
      obtain ⟨v0, hv0, hown⟩ := hv 0 r rfl
      simp at hv0
      subst hv0
      obtain ⟨g1, hM1, e1, hU1, hr1, hfr1⟩ := h1 dm w0 w g res v (D 0) hM (fun x h3 h4 => hU x h3 (by simp; omega)) hown (hF 0) (fun i j x hx hx' => (hdis 0 i 0 j x hx hx').2)
      obtain ⟨g2, hM2, e2, hU2, hr2⟩ := h2 dm w0 w g1 (updL res u) vs (fun i => D (i + 1)) hM1 (fun x h3 h4 h5 => by
        rcases hU1 x h5 with h6 | h6
        · exact hU x (by omega) (by simp; omega) h6
        · omega) (by simpa using hlen) (fun i r' hr' => by simpa using hv (i + 1) r' (by simpa using hr'))
        (fun i j => hfr1 _ (hF (i + 1) j) fun q x hx hx' => by have := (hdis 0 q (i + 1) j x hx hx').1; omega) (fun i j i' j' x hx hx' => by have := hdis _ _ _ _ x hx hx'; omega)
      refine ⟨g2, by rw [updL_append]; exact hM2, e1.trans e2, fun x hx => ?_, fun i b hb => ?_⟩
      · rcases hU2 x hx with h3 | h3
        · rcases hU1 x h3 with h4 | h4
          · exact .inl h4
          · exact .inr (by simp; omega)
        · exact .inr (by simp; omega)
      · cases i with
        | zero => simp at hb; subst hb; exact ⟨v, rfl, hr1.evo e2⟩
        | succ i => simpa using hr2 i b (by simpa using hb)
theorem tokR_eq {k : Nat} {rs : List VV} {K : AV → Upd → Prop} (h : tokR k rs K) : ∃ a u, K a u ∧ ∀ (dm : Bool) (w0 : Base) (w : World) (g : G) (res : Res) (v : Value) (D : Nat → Prop), Models dm w0 g res w →
    (∀ x, k ≤ x → x < k + 1024 → ¬ g.U x) → RetOk w D rs v → (∀ D', (∀ x, D' x → D x) → Fr w0 g res w D') →
    ∃ g', Models dm w0 g' (updL res u) w ∧ Evo g g' w w ∧ (∀ x, g'.U x → g.U x ∨ (k ≤ x ∧ x < k + 1024)) ∧ RepAV g' w a v := by
  have a1 : ∀ {g : G} {w : World} {a : AV} {v : Value}, RepA1 g w a v → RepAV g w a v := by
    intro g w a v h
    cases a with
    | c a => exact h
    | agg cs => exact h
    | tup vs => exact h.elim
  unfold tokR at h
  split at h
  · rename_i r
    obtain ⟨a, u, hK, h1⟩ := tokV_eq h
    refine ⟨_, _, hK, fun dm w0 w g res v D hM hU hv hF => ?_⟩
    obtain ⟨us, rfl, hl, Ds, hD, hdis, hus⟩ := hv
    obtain ⟨u0, hu0, hown⟩ := hus 0 r rfl
    have hus1 : us = [u0] := by
      cases us with
      | nil => simp at hl
      | cons x l => cases l with
        | nil => simp at hu0; rw [hu0]
        | cons y l => simp at hl
    subst hus1
    obtain ⟨g1, hM1, e1, hU1, hr1, _⟩ := h1 dm w0 w g res u0 (Ds 0) hM (fun x h3 h4 => hU x h3 (by omega)) hown (fun j => hF _ (hD 0 j)) (fun i j x hx hx' => (hdis 0 i 0 j x hx hx').2)
    exact ⟨g1, hM1, e1, fun x hx => (hU1 x hx).imp id fun h => by omega, a1 hr1⟩
  · rename_i hne
    obtain ⟨as, u, h, hl, h1⟩ := tokVs_eq h
    split at h
    · rename_i hlen
      have hlen := Nat.le_of_ble_eq_true hlen
      refine ⟨_, _, h, fun dm w0 w g res v D hM hU hv hF => ?_⟩
      obtain ⟨us, rfl, hul, Ds, hD, hdis, hus⟩ := hv
      obtain ⟨g1, hM1, e1, hU1, hr1⟩ := h1 dm w0 w g res us Ds hM (fun x h3 h4 => hU x h3 (by omega)) hul hus (fun i j => hF _ (hD i j)) hdis
      refine ⟨g1, hM1, e1, fun x hx => (hU1 x hx).imp id fun h => by omega, us, ?_, by omega, hr1⟩
      unfold retVal
      split
      · rename_i u0
        simp at hul
        cases rs with
        | nil => simp at hul
        | cons r l => cases l with
          | nil => exact absurd rfl (hne r)
          | cons y l => simp at hul
      · rfl
    · exact h.elim
def kCall (P : Program) (Γ : TG) (env : Nat → AV) (res : Res) (id : Nat) (f : FuncId) (args : List Operand) (ts : List TypeId) (K : KT) : Prop :=
  argsA Γ env res args ts fun as rd => ∃ rs : List VV, PureC P f as rs ∧ tokR id rs fun v u => K v u rd
theorem good_call {cx : Operand} {f : FuncId} {args : Array Operand} {ts : Array TypeId} (ho : o.op = .call { callee := .value cx, args := args, argTypes := ts }) (hcx : opv env cx = .c (.pv (.fn f))) (h : kCall P Γ env res id f args.toList ts.toList K) : Good P dm o env res id K := by
  obtain ⟨as, rd, ⟨rs, hC, h⟩, fs, hfs, hfm, hrep⟩ := argsA_eq h
  obtain ⟨v, u, hK, htok⟩ := tokR_eq h
  refine ⟨v, u, fs, fun w0 g res' w a hM hop hr hid => ?_, hfs, by rw [hfm]; exact hK⟩
  have hargs := hrep dm w0 g res' w a hM hr fun x hx => hop x (by
    simp only [ho, Op.operands, Call.operands]
    simp at hx ⊢
    exact .inr hx)
  have hcv : a.eval cx = .func (.func f) #[] #[] := by
    have h0 := hop cx (by simp [ho, Op.operands, Call.operands])
    rw [hcx] at h0
    generalize a.eval cx = v at h0
    cases h0
    rfl
  have hc := hC.calls w _ hM.below.laid hargs
  obtain ⟨fn, hf, hname, hbody⟩ := hC.enter.enter
  have hrun : (execOp a.eval o).run P w = .ok (.enter f (args.toList.map a.eval).toArray) w := by
    have hn : fn.body.isNone = false := by cases hb : fn.body <;> simp_all
    simp only [execOp, ho, resolve, invoke, hcv, Deferred.ofValue, callFunc, Sem.run_bind, Sem.run_pure, Result.andThen_ok, program, Sem.run, hf, hname, hn]
    simp
    apply Array.ext'
    simp
  intro next Q hnext
  unfold Oper.wp
  rw [hrun, Oper.upon_enter]
  refine hc.mono fun e w' hpost => ?_
  obtain ⟨rv, D, rfl, hret, hDnew, hB⟩ := hpost
  refine hnext rv w' ?_
  -- the state behind the call
  have hSz := hB.size
  have hsame : ∀ x, x < w.heap.size → w'.heap[x]? = w.heap[x]? := fun x hx => hB.block x hx
  have ev0 : Evo g g w w' := ⟨fun _ h => h, fun _ _ => rfl, fun _ h => h, fun x hx => hsame x (hM.sLt x hx), rfl⟩
  have hM0 : Models dm w0 g res' w' := by
    have hs0 := hM.below.size
    refine ⟨hM.below.to hB.os hB.tape hB.output hB.size (fun k hk _ => hB.block k (by omega)), hM.sBase, fun x hx => by have := hM.sLt x hx; omega, fun t r hr' => ⟨(hM.tok t r hr').1, (hM.tok t r hr').2.evo ev0 (hM.tok t r hr').1 rfl fun x hx => hsame x (hM.dNew t r x hr' hx).2⟩, fun t r x hr' hx => by have := hM.dNew t r x hr' hx; exact ⟨this.1, by omega⟩, hM.dApart, hM.sMut, hM.sFro⟩
  obtain ⟨g1, hM1, e1, hU1, hr1⟩ := htok dm w0 w' g res' rv D hM0 hid hret fun D' hD' => ⟨fun x hx => by have := hDnew x (hD' x hx); have := hM.below.size; exact ⟨.inr (by omega), by omega⟩, fun x hx hS => by have := hDnew x (hD' x hx); have := hM.sLt x hS; omega,
    fun x t r hx hr' hx' => by have := hDnew x (hD' x hx); have := hM.dNew t r x hr' hx'; omega⟩
  exact ⟨g1, hM1, ev0.trans e1, hr1, hU1⟩
def kCallC (P : Program) (Γ : TG) (env : Nat → AV) (res : Res) (id : Nat) (f : FuncId) (caps : List (List PV)) (args : List Operand) (ts : List TypeId) (K : KT) : Prop :=
  argsA Γ env res args ts fun as rd => ∃ rs : List VV, PureC P f (as ++ caps.map .ptr) rs ∧ tokR id rs fun v u => K v u rd
theorem good_callC {cx : Operand} {f : FuncId} {args : Array Operand} {ts : Array TypeId} (ho : o.op = .call { callee := .value cx, args := args, argTypes := ts }) {caps : List (List PV)} (hcx : opv env cx = .c (.clo f caps)) (h : kCallC P Γ env res id f caps args.toList ts.toList K) : Good P dm o env res id K := by
  obtain ⟨as, rd, ⟨rs, hC, h⟩, fs, hfs, hfm, hrep⟩ := argsA_eq h
  obtain ⟨v, u, hK, htok⟩ := tokR_eq h
  refine ⟨v, u, fs, fun w0 g res' w a hM hop hr hid => ?_, hfs, by rw [hfm]; exact hK⟩
  have hargs := hrep dm w0 g res' w a hM hr fun x hx => hop x (by
    simp only [ho, Op.operands, Call.operands]
    simp at hx ⊢
    exact .inr hx)
  have h0 : RepClo w g.S f caps (a.eval cx) := by
    have h0 := hop cx (by simp [ho, Op.operands, Call.operands])
    rw [hcx] at h0
    exact h0
  obtain ⟨cvs, hcv, hcl, hcc⟩ := h0.mono (S' := fun x => x < w.heap.size) (fun _ _ => rfl) hM.sLt
  have hargs2 : RepVs w (fun x => x < w.heap.size) (as ++ caps.map .ptr) (args.toList.map a.eval ++ cvs) := by
    refine ⟨by simp [hcl]; simpa using hargs.1, fun j q hq => ?_⟩
    have hl0 := hargs.1
    rcases Nat.lt_or_ge j as.length with h1 | h1
    · rw [List.getElem?_append_left h1] at hq
      rw [List.getElem?_append_left (by rw [hl0]; exact h1)]
      exact hargs.2 j q hq
    · rw [List.getElem?_append_right h1, List.getElem?_map] at hq
      rw [List.getElem?_append_right (by rw [hl0]; exact h1), hl0]
      cases hk : caps[j - as.length]? with
      | none => rw [hk] at hq; cases hq
      | some c =>
        rw [hk] at hq
        cases hq
        exact hcc _ c hk
  have hc := hC.calls w _ hM.below.laid hargs2
  obtain ⟨fn, hf, hname, hbody⟩ := hC.enter.enter
  have hrun : (execOp a.eval o).run P w = .ok (.enter f (args.toList.map a.eval ++ cvs).toArray) w := by
    have hn : fn.body.isNone = false := by cases hb : fn.body <;> simp_all
    simp only [execOp, ho, resolve, invoke, hcv, Deferred.ofValue, callFunc, Sem.run_bind, Sem.run_pure, Result.andThen_ok, program, Sem.run, hf, hname, hn]
    simp
  intro next Q hnext
  unfold Oper.wp
  rw [hrun, Oper.upon_enter]
  refine hc.mono fun e w' hpost => ?_
  obtain ⟨rv, D, rfl, hret, hDnew, hB⟩ := hpost
  refine hnext rv w' ?_
  -- the state behind the call
  have hSz := hB.size
  have hsame : ∀ x, x < w.heap.size → w'.heap[x]? = w.heap[x]? := fun x hx => hB.block x hx
  have ev0 : Evo g g w w' := ⟨fun _ h => h, fun _ _ => rfl, fun _ h => h, fun x hx => hsame x (hM.sLt x hx), rfl⟩
  have hM0 : Models dm w0 g res' w' := by
    have hs0 := hM.below.size
    refine ⟨hM.below.to hB.os hB.tape hB.output hB.size (fun k hk _ => hB.block k (by omega)), hM.sBase, fun x hx => by have := hM.sLt x hx; omega, fun t r hr' => ⟨(hM.tok t r hr').1, (hM.tok t r hr').2.evo ev0 (hM.tok t r hr').1 rfl fun x hx => hsame x (hM.dNew t r x hr' hx).2⟩, fun t r x hr' hx => by have := hM.dNew t r x hr' hx; exact ⟨this.1, by omega⟩, hM.dApart, hM.sMut, hM.sFro⟩
  obtain ⟨g1, hM1, e1, hU1, hr1⟩ := htok dm w0 w' g res' rv D hM0 hid hret fun D' hD' => ⟨fun x hx => by have := hDnew x (hD' x hx); have := hM.below.size; exact ⟨.inr (by omega), by omega⟩, fun x hx hS => by have := hDnew x (hD' x hx); have := hM.sLt x hS; omega,
    fun x t r hx hr' hx' => by have := hDnew x (hD' x hx); have := hM.dNew t r x hr' hx'; omega⟩
  exact ⟨g1, hM1, ev0.trans e1, hr1, hU1⟩

/-- A function literal: what it captures are boxes. -/
def ptrsA (env : Nat → AV) : List Operand → (List Nat → Prop) → Prop
  | [], K => K []
  | x :: l, K => match opv env x with
    | .c (.ptr t 0) => ptrsA env l fun ts => K (t :: ts)
    | _ => False
theorem ptrsA_eq : ∀ {l : List Operand} {K : List Nat → Prop}, ptrsA env l K → ∃ ts, K ts ∧ ∀ (g : G) (w : World) (a : Act), (∀ x ∈ l, RepAV g w (opv env x) (a.eval x)) → (l.map a.eval).length = ts.length ∧ ∀ (j : Nat) t, ts[j]? = some t → ∃ u, (l.map a.eval)[j]? = some u ∧ RepPtr g t 0 u
  | [], K, h => ⟨_, h, fun g w a _ => ⟨rfl, by simp⟩⟩
  | x :: l, K, h => by
    simp only [ptrsA] at h
    split at h
    · rename_i t hx
      obtain ⟨ts, hK, hr⟩ := ptrsA_eq h
      refine ⟨_, hK, fun g w a hop => ?_⟩
      obtain ⟨h1, h2⟩ := hr g w a fun y hy => hop y (by simp [hy])
      refine ⟨by simpa using h1, fun j t' ht => ?_⟩
      cases j with
      | zero =>
        simp at ht; subst ht
        have h0 := hop x (by simp)
        rw [hx] at h0
        exact ⟨_, rfl, h0⟩
      | succ j => simpa using h2 j t' (by simpa using ht)
    · exact h.elim
def kMakeFn (env : Nat → AV) (fn : Fn) (first caps : List Operand) (K : KT) : Prop :=
  match fn with
  | .func f => (match first with
    | [] => ptrsA env caps fun ts => K (.c (.fn f ts)) [] []
    | _ => False)
  | _ => False
theorem good_makeFn {fn : Fn} {first caps : Array Operand} (ho : o.op = .makeFunc fn first caps) (h : kMakeFn env fn first.toList caps.toList K) : Good P dm o env res id K := by
  unfold kMakeFn at h
  split at h
  · rename_i f
    split at h
    · rename_i hf
      obtain ⟨ts, hK, hr⟩ := ptrsA_eq h
      refine ⟨_, _, [], fun w0 g res' w a hM hop hrs hid => ?_, by simp, hK⟩
      have hff : first = #[] := by cases first; simp_all
      subst hff
      obtain ⟨h1, h2⟩ := hr g w a fun x hx => hop x (by simp [ho, Op.operands]; simpa using hx)
      refine runs_value (v := .func (.func f) #[] (caps.toList.map a.eval).toArray) (w' := w) ?_ ?_
      · simp [execOp, ho, Instr.makeFunc]
        apply Array.ext'
        simp
      · exact ⟨g, hM, Evo.refl _ _, ⟨_, rfl, h1, h2⟩, fun x hx => .inl hx⟩
    · exact h.elim
  · exact h.elim
/-! ### A function that hands its argument's cells on -/
/-- What a cell of the result is: a cell of the argument, or a value without memory. -/
inductive PO where
  | arg (i : Nat)
  | val (a : AC)
/-- A FUNCTION THAT HANDS CELLS ON: of one struct it makes another; whatever the cells are. -/
structure PassC (P : Program) (f : FuncId) (n : Nat) (outs : List PO) : Prop where
  enter : Enters P f
  zero : ∀ a, PO.val a ∈ outs → zeroC a = true
  calls : ∀ (w : World) (vs : List Value), Laid w → vs.length = n → (∀ u ∈ vs, u.oneCell' = true) → Calls P f #[.agg vs.toArray] w fun e w' =>
    ∃ us : List Value, e = .returned (.agg us.toArray) ∧ us.length = outs.length ∧ (∀ (j i : Nat), outs[j]? = some (.arg i) → ∃ u, us[j]? = some u ∧ vs[i]? = some u) ∧ (∀ (j : Nat) a, outs[j]? = some (.val a) → us[j]? = some (zeroVal a)) ∧ Below w.heap.size w w'
def passL (cs : List AC) : List PO → (List AC → Prop) → Prop
  | [], K => K []
  | .arg i :: l, K => (match nth cs i with
    | some a => passL cs l fun r => K (a :: r)
    | none => False)
  | .val a :: l, K => passL cs l fun r => K (a :: r)
theorem passL_eq {cs : List AC} : ∀ {l : List PO} {K : List AC → Prop}, passL cs l K → ∃ r : List AC, K r ∧ r.length = l.length ∧ ∀ (j : Nat) a, r[j]? = some a → (∃ i, l[j]? = some (.arg i) ∧ cs[i]? = some a) ∨ l[j]? = some (.val a)
  | [], K, h => ⟨[], h, rfl, by simp⟩
  | .arg i :: l, K, h => by
    simp only [passL] at h
    split at h
    · rename_i a ha
      rw [nth_eq] at ha
      obtain ⟨r, hK, hl, hr⟩ := passL_eq h
      refine ⟨_, hK, by simp [hl], fun j b hb => ?_⟩
      cases j with
      | zero => simp at hb; subst hb; exact .inl ⟨i, rfl, ha⟩
      | succ j => simpa using hr j b (by simpa using hb)
    · exact h.elim
  | .val a :: l, K, h => by
    simp only [passL] at h
    obtain ⟨r, hK, hl, hr⟩ := passL_eq h
    refine ⟨_, hK, by simp [hl], fun j b hb => ?_⟩
    cases j with
    | zero => simp at hb; subst hb; exact .inr rfl
    | succ j => simpa using hr j b (by simpa using hb)
def hasRow : List AC → Bool
  | [] => false
  | .row _ :: _ => true
  | _ :: l => hasRow l
/-- One argument, a struct that holds rows. -/
def passArg (env : Nat → AV) (args : List Operand) : Option (List AC) :=
  match args with
  | [x] => (match opv env x with
    | .agg cs => (match hasRow cs with
      | true => some cs
      | false => none)
    | _ => none)
  | _ => none
def kPass (P : Program) (env : Nat → AV) (f : FuncId) (args : List Operand) (K : KT) : Prop :=
  match args with
  | [x] => (match opv env x with
    | .agg cs => ∃ (n : Nat) (outs : List PO), (PassC P f n outs ∧ n = cs.length) ∧ passL cs outs fun r => K (.agg r) [] []
    | _ => False)
  | _ => False
theorem good_pass {cx : Operand} {f : FuncId} {args : Array Operand} {ts : Array TypeId} (ho : o.op = .call { callee := .value cx, args := args, argTypes := ts }) (hcx : opv env cx = .c (.pv (.fn f))) (h : kPass P env f args.toList K) : Good P dm o env res id K := by
  unfold kPass at h
  split at h
  · rename_i x ha
    split at h
    · rename_i cs hx
      obtain ⟨n, outs, ⟨hC, rfl⟩, h⟩ := h
      obtain ⟨r, hK, hl, hr⟩ := passL_eq h
      refine ⟨_, _, [], fun w0 g res' w a hM hop hrs hid => ?_, by simp, hK⟩
      have hax : RepAV g w (.agg cs) (a.eval x) := by
        rw [← hx]
        refine hop x ?_
        have : x ∈ args.toList := by rw [ha]; simp
        simp only [ho, Op.operands, Call.operands]
        simp at this ⊢
        exact .inr this
      obtain ⟨vs, hv, hcs⟩ := hax
      have hcv : a.eval cx = .func (.func f) #[] #[] := by
        have h0 := hop cx (by simp [ho, Op.operands, Call.operands])
        rw [hcx] at h0
        generalize a.eval cx = v at h0
        cases h0
        rfl
      have hc := hC.calls w vs hM.below.laid hcs.1 (fun u hu => by
        obtain ⟨j, hj⟩ := List.getElem?_of_mem hu
        have hlt : j < cs.length := by rw [← hcs.1]; exact (List.getElem?_eq_some_iff.1 hj).1
        obtain ⟨u', hu', h1, _⟩ := hcs.2 j _ (List.getElem?_eq_getElem hlt)
        rw [hj] at hu'
        cases hu'
        exact h1)
      obtain ⟨fn, hf, hname, hbody⟩ := hC.enter.enter
      have hrun : (execOp a.eval o).run P w = .ok (.enter f #[.agg vs.toArray]) w := by
        have hn : fn.body.isNone = false := by cases hb : fn.body <;> simp_all
        simp only [execOp, ho, resolve, invoke, hcv, Deferred.ofValue, callFunc, Sem.run_bind, Sem.run_pure, Result.andThen_ok, program, Sem.run, hf, hname, hn]
        have hargs : args.map a.eval = #[.agg vs.toArray] := by
          apply Array.ext'
          rw [Array.toList_map, ha]
          simp [hv]
        simp [hargs]
      intro next Q hnext
      unfold Oper.wp
      rw [hrun, Oper.upon_enter]
      refine hc.mono fun e w' hpost => ?_
      obtain ⟨us, rfl, hul, h1, h2, hB⟩ := hpost
      refine hnext _ w' ?_
      have hSz := hB.size
      have hsame : ∀ x, x < w.heap.size → w'.heap[x]? = w.heap[x]? := fun x hx => hB.block x hx
      have ev0 : Evo g g w w' := ⟨fun _ h => h, fun _ _ => rfl, fun _ h => h, fun x hx => hsame x (hM.sLt x hx), rfl⟩
      have hM0 : Models dm w0 g res' w' := by
        have hs0 := hM.below.size
        refine ⟨hM.below.to hB.os hB.tape hB.output hB.size (fun k hk _ => hB.block k (by omega)), hM.sBase, fun x hx => by have := hM.sLt x hx; omega, fun t r hr' => ⟨(hM.tok t r hr').1, (hM.tok t r hr').2.evo ev0 (hM.tok t r hr').1 rfl fun x hx => hsame x (hM.dNew t r x hr' hx).2⟩, fun t r x hr' hx => by have := hM.dNew t r x hr' hx; exact ⟨this.1, by omega⟩, hM.dApart, hM.sMut, hM.sFro⟩
      refine ⟨g, hM0, ev0, ⟨us, rfl, by rw [hul, hl], fun j ac hac => ?_⟩, fun x hx => .inl hx⟩
      rcases hr j ac hac with ⟨i, hi, hci⟩ | hi
      · obtain ⟨u, hu, hvi⟩ := h1 j i hi
        obtain ⟨u', hu', h3, h4⟩ := hcs.2 i ac hci
        rw [hvi] at hu'
        cases hu'
        exact ⟨u, hu, h3, h4.evo ev0⟩
      · have hz := zero_rep (g := g) (w := w') (hC.zero ac (List.mem_of_getElem? hi))
        exact ⟨_, h2 j ac hi, hz.2, hz.1⟩
    · exact h.elim
  · exact h.elim
end
end Go.Vi
