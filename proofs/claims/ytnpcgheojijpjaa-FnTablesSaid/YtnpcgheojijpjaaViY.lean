/- Contracts in the deep way of looking: of a law's body, of a function that marks. -/
import Derived.Test.YtnpcgheojijpjaaViV
set_option linter.unusedVariables false
set_option linter.unusedSimpArgs false
namespace Go.Vi
open Go.RowKit
section
variable {P : Program} {Γ : TG}
theorem pureC_deep (hΓ : TGOk P Γ) {il : List Nat} {draw : Nat → Array Oper → AS → (AS → Prop) → Prop} (hdraw : DrawOk P Γ true draw) {f : FuncId} {fn : Func} {c : Code} {args : List VV} {p : PV} (hf : P.funcs[f]? = some fn) (hb : fn.body = some c) (hname : (fn.name == "runtime.NumGoroutine") = false)
    {n : Nat} (hnt : fn.ntmps = n) (hn : args.length ≤ n) (hp : p.flat = true)
    (h : codeA P Γ true il draw c (initS args n) fun e s => match e with
      | .exit _ => False
      | _ => resA Γ true s fn.results.toList fn.resultTypes.toList fun vs => vs = [.c (.pv p)]) : PureC P f args [.one p] := by
  refine ⟨⟨fn, hf, hname, by rw [hb]; rfl⟩, fun w vals hq hvals => ?_⟩
  refine calls_of_wp hf hb ?_
  let g0 : G := ⟨fun _ => undef, fun _ _ => False, fun x => x < w.heap.size, fun _ => False, fun _ _ => undef⟩
  have hM : Models true (Base.of w hq) g0 (fun _ => none) w := by
    refine ⟨⟨rfl, rfl, rfl, Nat.le_refl _, fun _ _ _ => rfl⟩, fun _ h _ => h, fun _ h => h, ?_, ?_, ?_, ?_, ?_⟩
    · intro t r h; simp at h
    · intro t r x h; simp at h
    · intro t t' r r' x h; simp at h
    · intro t r x h; simp at h
    · intro _ t r x h; simp at h
  subst hnt
  have hS : Sim true (Base.of w hq) (initS args fn.ntmps) g0 w { tmps := vals.toArray ++ Array.replicate (fn.ntmps - vals.toArray.size) undef, defers := [] } := by
    refine ⟨hM, fun t => ?_, by simp [initS, hvals.1]; omega, rfl, fun x h => h.elim, fun _ t v h => (by cases h), fun t F h => by cases h⟩
    show RepAV g0 w (initEnv args t) _
    unfold initEnv
    rw [nth_eq]
    cases ha : args[t]? with
    | none =>
      show _ = undef
      have hl := hvals.1
      have ht : args.length ≤ t := by
        rcases Nat.lt_or_ge t args.length with h1 | h1
        · rw [List.getElem?_eq_getElem h1] at ha; cases ha
        · exact h1
      rw [Array.getD_eq_getD_getElem?, Array.getElem?_append, if_neg (by simp; omega), Array.getElem?_replicate]
      split <;> rfl
    | some a =>
      obtain ⟨u, hu, hr⟩ := hvals.2 t a ha
      have hv : (vals.toArray ++ Array.replicate (fn.ntmps - vals.toArray.size) undef).getD t undef = u := by
        rw [Array.getD_eq_getD_getElem?, Array.getElem?_append, if_pos (by simpa using (List.getElem?_eq_some_iff.1 hu).1)]
        simp [hu]
      rw [hv]
      cases a with
      | one p => exact rav hr
      | agg ps =>
        obtain ⟨vs, rfl, hl, hp⟩ := hr
        exact ⟨vs, rfl, repCs_pvs hl hp⟩
      | ptr c => exact hr
      | clo f caps => exact hr
  refine codeA_sound hΓ hdraw c h hS fun e s g w' a hS' hK => ?_
  have key : (resA Γ true s fn.results.toList fn.resultTypes.toList fun vs => vs = [.c (.pv p)]) → a.defers = [] ∧ ∃ v, (results fn a.tmps).run P w' = .ok v w' ∧ ∃ v' D, Ending.returned v = Ending.returned v' ∧ RetOk w' D [.one p] v' ∧ (∀ x, D x → w.heap.size ≤ x ∧ x < w'.heap.size) ∧ Below w.heap.size w w' := by
    intro hret
    obtain ⟨vs, rfl, hvl, hrun⟩ := resA_eq hΓ hret
    obtain ⟨us, hul, hr, hrep⟩ := hrun (Base.of w hq) g w' a hS'
    obtain ⟨u, hu, hru⟩ := hrep 0 _ rfl
    refine ⟨hS'.defers, retVal us, results_run hr, retVal us, fun _ => False, rfl, ⟨us, rfl, by rw [hul, ← hvl]; rfl, fun _ _ _ => False, fun _ _ _ h => h, fun _ _ _ _ _ h => h.elim, fun i r hr => ?_⟩, fun _ h => h.elim, ⟨hS'.mod.below.os, hS'.mod.below.tape, hS'.mod.below.output, hS'.mod.below.size, fun k hk => hS'.mod.below.block k hk fun h => h⟩⟩
    cases i with
    | zero =>
      simp at hr
      subst hr
      have hru : Rep w' g.S p u := hru
      exact ⟨u, hu, hru.flat_own hp⟩
    | succ i => simp at hr
  cases e with
  | normal => exact key hK
  | ret => exact key hK
  | exit i => exact hK.elim
/-! ### Functions that mark -/
def initC : Nat → List PV → List AC
  | _, [] => []
  | j, .sl _ _ :: l => .row j :: initC (j + 1) l
  | j, p :: l => .pv p :: initC (j + 1) l
def initR (ps : List PV) (t : Nat) : Option ARes :=
  match nth ps t with
  | some (.sl sz xs) => some (.row true sz xs)
  | _ => none
def avOf (a : VV) : AV :=
  match a with
  | .one (.sl _ _) => .c (.row 0)
  | .one p => .c (.pv p)
  | .agg ps => .agg (initC 0 ps)
  | _ => .c .undef
def markS (a : VV) (n : Int) (k : Nat) : AS := ⟨fun t => match t with | 0 => avOf a | 1 => .c (.pv (.int .i64 n)) | _ => .c .void, initR (psOf a), 64, k⟩
def finP (res : Res) : Nat → List PV → List PV → Prop
  | _, [], [] => True
  | j, .sl _ _ :: l, q :: m => (∃ sz xs, res j = some (.row true sz xs) ∧ q = .sl sz xs) ∧ finP res (j + 1) l m
  | j, p :: l, q :: m => q = p ∧ finP res (j + 1) l m
  | _, _, _ => False
theorem initC_get : ∀ {ps : List PV} {k j : Nat} {a : AC}, (initC k ps)[j]? = some a → ∃ p, ps[j]? = some p ∧ ((∃ sz xs, p = .sl sz xs ∧ a = .row (k + j)) ∨ (p.flat = true ∧ a = .pv p))
  | [], k, j, a, h => by simp [initC] at h
  | p :: l, k, j, a, h => by
    cases j with
    | zero =>
      refine ⟨p, rfl, ?_⟩
      cases p <;> simp [initC] at h <;> subst h <;> simp [PV.flat]
    | succ j =>
      have h' : (initC (k + 1) l)[j]? = some a := by cases p <;> simpa [initC] using h
      obtain ⟨q, h1, h2⟩ := initC_get h'
      refine ⟨q, by simpa using h1, ?_⟩
      rwa [show k + (j + 1) = k + 1 + j by omega]
theorem initC_len : ∀ (ps : List PV) (k : Nat), (initC k ps).length = ps.length
  | [], k => rfl
  | p :: l, k => by cases p <;> simp [initC, initC_len l]
theorem finP_get {res : Res} : ∀ {ps qs : List PV} {k : Nat}, finP res k ps qs → qs.length = ps.length ∧ ∀ (j : Nat) q, qs[j]? = some q → ∃ p, ps[j]? = some p ∧ ((∃ sz xs sz' xs', p = .sl sz' xs' ∧ q = .sl sz xs ∧ res (k + j) = some (.row true sz xs)) ∨ (p.flat = true ∧ q = p))
  | [], [], k, _ => ⟨rfl, by simp⟩
  | [], q :: m, k, h => by simp [finP] at h
  | p :: l, [], k, h => by cases p <;> simp [finP] at h
  | p :: l, q :: m, k, h => by
    have hrec : finP res (k + 1) l m := by cases p <;> exact h.2
    obtain ⟨h1, h2⟩ := finP_get hrec
    refine ⟨by simp [h1], fun j q' hq => ?_⟩
    cases j with
    | zero =>
      simp at hq
      subst hq
      refine ⟨p, rfl, ?_⟩
      cases p with
      | sl sz xs =>
        obtain ⟨⟨sz', xs', h3, h4⟩, _⟩ := h
        exact .inl ⟨sz', xs', sz, xs, rfl, h4, h3⟩
      | _ => exact .inr ⟨rfl, h.1⟩
    | succ j =>
      obtain ⟨p', h3, h4⟩ := h2 j q' (by simpa using hq)
      refine ⟨p', by simpa using h3, ?_⟩
      rwa [show k + (j + 1) = k + 1 + j by omega]
/-- The parts of a value, and the value of the parts. -/
theorem own_parts {a : VV} {w : World} {D : Nat → Nat → Prop} {v : Value} (h : OwnVV w D a v) : ∃ vs : List Value, vs.length = (psOf a).length ∧ (∀ (j : Nat) p, (psOf a)[j]? = some p → ∃ x, vs[j]? = some x ∧ Own w (D j) p x) ∧
    (∀ (w' : World) (D' : Nat → Nat → Prop) (a' : VV), shapeB a a' = true → (∀ (j : Nat) p, (psOf a')[j]? = some p → ∃ x, vs[j]? = some x ∧ Own w' (D' j) p x) → OwnVV w' D' a' v) ∧
    ∀ (g : G) (w : World), RepCs g w (initC 0 (psOf a)) vs → RepAV g w (avOf a) v := by
  cases a with
  | one p =>
    refine ⟨[v], rfl, fun j q hq => ?_, fun w' D' a' hs hp => ?_, fun g w hr => ?_⟩
    · cases j with
      | zero => simp [psOf] at hq; subst hq; exact ⟨v, rfl, h⟩
      | succ j => simp [psOf] at hq
    · cases a' with
      | agg qs => simp [shapeB] at hs
      | ptr c => simp [shapeB] at hs
      | clo f c => simp [shapeB] at hs
      | one q =>
        obtain ⟨x, hx, ho⟩ := hp 0 q rfl
        simp at hx
        subst hx
        exact ho
    · cases p with
      | sl sz xs =>
        obtain ⟨u, hu, _, hr⟩ := hr.2 0 _ rfl
        simp at hu
        subst hu
        exact hr
      | _ =>
        obtain ⟨u, hu, _, hr⟩ := hr.2 0 _ rfl
        simp at hu
        subst hu
        exact hr
  | agg ps =>
    obtain ⟨vs, rfl, hl, hp⟩ := h
    refine ⟨vs, hl, hp, fun w' D' a' hs hq => ?_, fun g w hr => ⟨vs, rfl, hr⟩⟩
    cases a' with
    | one q => simp [shapeB] at hs
    | ptr c => simp [shapeB] at hs
    | clo f c => simp [shapeB] at hs
    | agg qs =>
      have : ps.length = qs.length := Nat.eq_of_beq_eq_true hs
      exact ⟨vs, rfl, by rw [hl, this], hq⟩
  | ptr c => exact h.elim
  | clo f c => exact h.elim
theorem markC_of (hΓ : TGOk P Γ) {il : List Nat} {draw : Nat → Array Oper → AS → (AS → Prop) → Prop} (hdraw : DrawOk P Γ true draw) {f : FuncId} {fn : Func} {c : Code} {a a' : VV} {n n' : Int} (hf : P.funcs[f]? = some fn) (hb : fn.body = some c) (hname : (fn.name == "runtime.NumGoroutine") = false)
    {k : Nat} (hnt : fn.ntmps = k) (hk : 2 ≤ k) (hlen : (psOf a).length ≤ 64) (hshape : shapeB a a' = true)
    (h : codeA P Γ true il draw c (markS a n k) fun e s => match e with
      | .exit _ => False
      | _ => resA Γ true s fn.results.toList fn.resultTypes.toList fun vs => vs = [.c (.pv (.int .i64 n'))] ∧ finP s.res 0 (psOf a) (psOf a')) : MarkC P f a n a' n' := by
  refine ⟨⟨fn, hf, hname, by rw [hb]; rfl⟩, fun w v D hq hlow hown hD hdis => ?_⟩
  refine calls_of_wp hf hb ?_
  obtain ⟨vs, hvl, hparts, hback, hav⟩ := own_parts hown
  have hone : ∀ (j : Nat) u, vs[j]? = some u → u.oneCell' = true := by
    intro j u hu
    have hj : j < (psOf a).length := by rw [← hvl]; exact (List.getElem?_eq_some_iff.1 hu).1
    obtain ⟨x, hx, ho⟩ := hparts j _ (List.getElem?_eq_getElem hj)
    rw [hu] at hx
    cases hx
    exact ho.one
  let w0 : Base := ⟨w, fun x => ∃ j, D j x, fun t => match initR (psOf a) t with | some _ => vs[t]? | none => none, fun t v ht => by
    rcases Nat.lt_or_ge t 64 with h1 | h1
    · exact h1
    · have : vs[t]? = none := List.getElem?_eq_none (by omega)
      revert ht
      split
      · intro ht; rw [this] at ht; cases ht
      · (intro ht; cases ht), fun _ => none, hq, fun x ⟨j, hx⟩ => hlow j x hx⟩
  let g0 : G := ⟨fun t => vs.getD t undef, D, fun x => x < w.heap.size ∧ ¬ ∃ j, D j x, fun t => t < 64, fun _ _ => undef⟩
  have hres : ∀ {t : Nat} {r : ARes}, initR (psOf a) t = some r → ∃ sz xs, (psOf a)[t]? = some (.sl sz xs) ∧ r = .row true sz xs := by
    intro t r hr
    unfold initR at hr
    rw [nth_eq] at hr
    split at hr
    · rename_i sz xs h1
      cases hr
      exact ⟨sz, xs, h1, rfl⟩
    · cases hr
  have hM : Models true w0 g0 (initR (psOf a)) w := by
    refine ⟨⟨rfl, rfl, rfl, Nat.le_refl _, fun _ _ _ => rfl⟩, fun x hx hE => ⟨hx, hE⟩, fun _ h => h.1, fun t r hr => ?_, fun t r x hr hx => ⟨.inl ⟨t, hx⟩, hD t x hx⟩, fun t t' r r' x _ _ hx hx' => hdis t t' x hx hx', fun t r x hr hx _ hS => hS.2 ⟨t, hx⟩, fun h => by cases h⟩
    obtain ⟨sz, xs, h1, rfl⟩ := hres hr
    have ht : t < (psOf a).length := (List.getElem?_eq_some_iff.1 h1).1
    refine ⟨(by omega : t < 64), ?_⟩
    obtain ⟨x, hx, ho⟩ := hparts t _ h1
    show RowOk w g0.S (D t) true sz xs (vs.getD t undef)
    have : vs.getD t undef = x := by simp [hx]
    rw [this]
    exact row_of_own ho
  have hcs : RepCs g0 w (initC 0 (psOf a)) vs := by
    refine ⟨by rw [initC_len, hvl], fun j ac hac => ?_⟩
    obtain ⟨p, hp, hc⟩ := initC_get hac
    obtain ⟨x, hx, ho⟩ := hparts j p hp
    refine ⟨x, hx, ho.one, ?_⟩
    rcases hc with ⟨sz, xs, rfl, rfl⟩ | ⟨hfl, rfl⟩
    · have hj : j < (psOf a).length := (List.getElem?_eq_some_iff.1 hp).1
      refine ⟨(by omega : 0 + j < 64), ?_, ho.one⟩
      show x = vs.getD (0 + j) undef
      simp [hx]
    · exact Own.rep (ho.flat_D (D' := fun _ => False) hfl) fun _ h => h.elim
  subst hnt
  have hS : Sim true w0 (markS a n fn.ntmps) g0 w { tmps := #[v, .int .i64 n] ++ Array.replicate (fn.ntmps - 2) undef, defers := [] } := by
    refine ⟨hM, fun t => ?_, by simp [markS]; omega, rfl, fun x h => h, fun _ t v' h => ?_, fun t F h => by cases h⟩
    · match t with
      | 0 =>
        have : (#[v, .int .i64 n] ++ Array.replicate (fn.ntmps - 2) undef).getD 0 undef = v := by
          rw [Array.getD_eq_getD_getElem?, Array.getElem?_append, if_pos (by simp)]; rfl
        rw [this]
        exact hav g0 w hcs
      | 1 =>
        have : (#[v, .int .i64 n] ++ Array.replicate (fn.ntmps - 2) undef).getD 1 undef = .int .i64 n := by
          rw [Array.getD_eq_getD_getElem?, Array.getElem?_append, if_pos (by simp)]; rfl
        rw [this]
        exact rav (.int _ _)
      | t + 2 =>
        show _ = undef
        rw [Array.getD_eq_getD_getElem?, Array.getElem?_append, if_neg (by simp), Array.getElem?_replicate]
        split <;> rfl
    · have h : (match initR (psOf a) t with | some _ => vs[t]? | none => none) = some v' := h
      split at h
      · refine ⟨?_, ?_⟩
        · have := (List.getElem?_eq_some_iff.1 h).1
          show t < 64
          omega
        · show vs.getD t undef = v'
          simp [h]
      · cases h
  refine codeA_sound hΓ hdraw c h hS fun e s g w' ac hS' hK => ?_
  have key : (resA Γ true s fn.results.toList fn.resultTypes.toList fun vs => vs = [.c (.pv (.int .i64 n'))] ∧ finP s.res 0 (psOf a) (psOf a')) → ac.defers = [] ∧ ∃ rv, (results fn ac.tmps).run P w' = .ok rv w' ∧ Ending.returned rv = .returned (.int .i64 n') ∧ Kept (fun x => ∃ j, D j x) w w' ∧
      ∃ D', OwnVV w' D' a' v ∧ (∀ j x, D' j x → (∃ j, D j x) ∨ (w.heap.size ≤ x ∧ x < w'.heap.size)) ∧ (∀ i j x, D' i x → D' j x → i = j) := by
    intro hret
    obtain ⟨rs, ⟨rfl, hfin⟩, hrl, hrun⟩ := resA_eq hΓ hret
    obtain ⟨us, hul, hr, hrep⟩ := hrun w0 g w' ac hS'
    obtain ⟨u, hu, hru⟩ := hrep 0 _ rfl
    have hus : us = [.int .i64 n'] := by
      have hl1 : us.length = 1 := by rw [hul, ← hrl]; rfl
      have hu1 := rep_int hru
      subst hu1
      cases us with
      | nil => simp at hl1
      | cons x l => cases l with
        | nil => simp at hu; rw [hu]
        | cons y l => simp at hl1
    subst hus
    obtain ⟨hl, hget⟩ := finP_get hfin
    refine ⟨hS'.defers, _, results_run hr, rfl, ⟨hS'.mod.below.os, hS'.mod.below.tape, hS'.mod.below.output, hS'.mod.below.size, fun k hk hE => hS'.mod.below.block k hk hE⟩, fun j x => (∃ sz xs, s.res j = some (.row true sz xs)) ∧ g.D j x, hback w' _ a' hshape fun j q hq => ?_, fun j x hx => ?_, fun i j x hi hj => ?_⟩
    · obtain ⟨p, hp, hc⟩ := hget j q hq
      obtain ⟨x, hx, ho⟩ := hparts j p hp
      refine ⟨x, hx, ?_⟩
      rcases hc with ⟨sz, xs, sz', xs', rfl, rfl, hrow⟩ | ⟨hfl, rfl⟩
      · rw [Nat.zero_add] at hrow
        have hpin := hS'.pin rfl j x (by
          show (match initR (psOf a) j with | some _ => vs[j]? | none => none) = some x
          unfold initR
          rw [nth_eq, hp]
          exact hx)
        have hrk : RowOk w' g.S (g.D j) true sz xs (g.σ j) := (hS'.mod.tok j _ hrow).2
        rw [hpin.2] at hrk
        exact (own_of_row hrk).mono (fun _ _ => rfl) fun y hy => ⟨⟨sz, xs, hrow⟩, hy⟩
      · exact (ho.flat_D (D' := fun _ => False) hfl).mono (fun _ h => h.elim) fun _ h => h.elim
    · obtain ⟨⟨sz, xs, hrow⟩, hx⟩ := hx
      have := hS'.mod.dNew j _ x hrow hx
      rcases this.1 with h1 | h1
      · exact .inl h1
      · exact .inr ⟨h1, this.2⟩
    · obtain ⟨⟨_, _, hr1⟩, hx1⟩ := hi
      obtain ⟨⟨_, _, hr2⟩, hx2⟩ := hj
      exact hS'.mod.dApart i j _ _ x hr1 hr2 hx1 hx2
  cases e with
  | normal => exact key hK
  | ret => exact key hK
  | exit i => exact hK.elim
end
/-- A state told anew, in the deep way of looking: no name changes. -/
theorem le_mkD {s : AS} {n nx : Nat} {le : List (Nat × AV)} {lr : List (Nat × ARes)} (hn : s.n = n) (he : envLe s.env [] nx le) (hr : resLe s.res [] nx lr) (hi : injB [] lr = true) (hx : Nat.ble 64 nx = true) : Le true s ⟨envL le, resL lr, nx, n⟩ := by
  intro w0 g w a hS
  have hinj := nodupB_ok hi
  have hL : ∀ t, lookN [] t = t := fun _ => rfl
  refine ⟨g.ren [] nx, ⟨?_, fun t => ?_, by rw [hS.size]; exact hn, hS.defers, fun x hx => hx.1, fun _ t v hp => ?_, hS.pinF⟩⟩
  · have hM := hS.mod
    have key : ∀ t r, resL lr t = some r → ∃ r', s.res (lookN [] t) = some r' ∧ t < nx ∧ (∀ (dm : Bool) (v : Value) (x : Nat), Mut dm v r' x ↔ Mut dm v r x) ∧ ∀ (g : G) (w : World), TokOk g w (lookN [] t) r' → TokOk (g.ren [] nx) w t r := fun t r h => resLe1_key (resLe_mem hr (resL_mem h))
    refine ⟨hM.below, hM.sBase, hM.sLt, fun t r h => ?_, fun t r x h hx => ?_, fun t t' r r' x h h' hx hx' => ?_, fun t r x h hx hm => ?_, fun hdm => by cases hdm⟩
    · obtain ⟨r', h1, h2, h3, h4⟩ := key t r h
      exact ⟨⟨h2, (hM.tok _ _ h1).1⟩, h4 _ _ (hM.tok _ _ h1).2⟩
    · obtain ⟨r', h1, h2, h3, h4⟩ := key t r h
      exact hM.dNew _ _ x h1 hx
    · obtain ⟨_, h1, _⟩ := key t r h
      obtain ⟨_, h2, _⟩ := key t' r' h'
      exact inj_mem hinj (resL_mem h) (resL_mem h') (hM.dApart _ _ _ _ x h1 h2 hx hx')
    · obtain ⟨r', h1, h2, h3, h4⟩ := key t r h
      exact hM.sMut _ _ x h1 hx ((h3 _ _ _).2 hm)
  · rcases envL_mem (l := le) (t := t) with h | h
    · show RepAV _ w (envL le t) _
      rw [h]
      trivial
    · obtain ⟨h1, h2⟩ := envLe_mem he h
      have h3 := hS.env t
      rw [h1] at h3
      exact h3.ren h2
  · have h1 := w0.pinLt t v hp
    have h2 := hS.pin rfl t v hp
    have h3 : 64 ≤ nx := Nat.le_of_ble_eq_true hx
    exact ⟨⟨by omega, h2.1⟩, h2.2⟩
theorem mark_i {P : Program} {f : FuncId} {a a' : VV} {n n' : Int} {X : VV → Int → Prop} {Y : Prop} (h : MarkC P f a n a' n') (hs : shapeB a a' = true) (k : X a' n') : Y ∨ ∃ (a' : VV) (n' : Int), (MarkC P f a n a' n' ∧ shapeB a a' = true) ∧ X a' n' := .inr ⟨a', n', ⟨h, hs⟩, k⟩
end Go.Vi
