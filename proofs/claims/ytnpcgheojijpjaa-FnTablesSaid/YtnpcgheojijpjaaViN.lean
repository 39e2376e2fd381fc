/- A function's contract out of its body. -/
import Derived.Test.YtnpcgheojijpjaaViM
set_option linter.unusedVariables false
set_option linter.unusedSimpArgs false
namespace Go.Vi
open Go.RowKit
def resA (Γ : TG) (dm : Bool) (s : AS) : List ResultVar → List TypeId → (List AV → Prop) → Prop
  | [], _, K => K []
  | .tmp t :: l, ty :: ts, K => forceV (rtyV Γ ty (s.env t)) fun v => resA Γ dm s l ts fun vs => K (v :: vs)
  | .cell a ty' :: l, _ :: ts, K => (match s.env a with
    | .c (.ptr tk off) => (match s.res tk, Γ ty' with
      | some (.box cs), some ti => takeA ti (cs.drop off) fun v => resA Γ dm s l ts fun vs => K (v :: vs)
      | _, _ => False)
    | _ => False)
  | _ :: _, [], _ => False
def vvsR (res : Res) : List AV → (List VV → List Nat → Bool → Prop) → Prop
  | [], K => K [] [] true
  | v :: l, K => vvR res v fun a ts own => vvsR res l fun as us own' => K (a :: as) (ts ++ us) (own && own')
def retA (Γ : TG) (dm : Bool) (s : AS) (rv : List ResultVar) (rt : List TypeId) (rs : List VV) : Prop :=
  resA Γ dm s rv rt fun vs => vvsR s.res vs fun as ts own => (own = true ∧ nodupB ts = true) ∧ as = rs
def initEnv (args : List VV) (t : Nat) : AV :=
  match nth args t with
  | some (.one p) => .c (.pv p)
  | some (.agg ps) => .agg (ps.map .pv)
  | some (.ptr c) => .c (.el c)
  | some (.clo f caps) => .c (.clo f caps)
  | none => .c .void
def initS (args : List VV) (n : Nat) : AS := ⟨initEnv args, fun _ => none, 0, n⟩
section
variable {P : Program} {Γ : TG}
/-- What a result slot tells. -/
def rvS (tmps : Array Value) : ResultVar → Sem Value
  | .tmp t => pure (tmps.getD t undef)
  | .cell a t => do loadVar t (← asAddr (tmps.getD a undef))
theorem resA_eq (hΓ : TGOk P Γ) {dm : Bool} {s : AS} : ∀ {rv : List ResultVar} {rt : List TypeId} {K : List AV → Prop}, resA Γ dm s rv rt K → ∃ vs, K vs ∧ vs.length = rv.length ∧ ∀ (w0 : Base) (g : G) (w : World) (a : Act), Sim dm w0 s g w a →
    ∃ us : List Value, us.length = rv.length ∧ (rv.mapM (rvS a.tmps)).run P w = .ok us w ∧ ∀ (i : Nat) v, vs[i]? = some v → ∃ u, us[i]? = some u ∧ RepAV g w v u
  | [], rt, K, h => by
    simp only [resA] at h
    exact ⟨_, h, rfl, fun w0 g w a hS => ⟨[], rfl, by simp, by simp⟩⟩
  | .tmp t :: l, ty :: ts, K, h => by
    simp only [resA] at h
    have h := forceV_eq h
    obtain ⟨vs, hK, hl, hrun⟩ := resA_eq hΓ h
    refine ⟨_, hK, by simp [hl], fun w0 g w a hS => ?_⟩
    obtain ⟨us, hul, hr, hrep⟩ := hrun w0 g w a hS
    refine ⟨a.tmps.getD t undef :: us, by simp [hul], ?_, fun i v hv => ?_⟩
    · rw [List.mapM_cons, Sem.run_bind]
      simp only [rvS, Sem.run_pure, Result.andThen_ok, Sem.run_bind, hr]
    · cases i with
      | zero => simp at hv; subst hv; exact ⟨_, rfl, rtyV_rep (hS.env t)⟩
      | succ i => simpa using hrep i v (by simpa using hv)
  | .cell b ty' :: l, _ :: ts, K, h => by
    simp only [resA] at h
    split at h
    · rename_i tk off hb
      split at h
      · rename_i cs ti hres ht
        obtain ⟨v, hK', hload⟩ := load_cells (P := P) hΓ ht h
        obtain ⟨vs, hK, hl, hrun⟩ := resA_eq hΓ hK'
        refine ⟨_, hK, by simp [hl], fun w0 g w a hS => ?_⟩
        obtain ⟨us, hul, hr, hrep⟩ := hrun w0 g w a hS
        have h1 := hS.env b
        rw [hb] at h1
        obtain ⟨hU, b', hs, hv⟩ := h1
        obtain ⟨b2, ty, vs2, hs', hD, hh, hcs⟩ := (hS.mod.tok tk (.box cs) hres).2
        rw [hs] at hs'
        simp at hs'
        subst hs'
        obtain ⟨u, hu, hrepu⟩ := hload g w b' off (vs2.drop off) (repCs_drop hcs off) fun j u hu => by
          rw [List.getElem?_drop] at hu
          rw [cell_of hh]
          simpa using hu
        refine ⟨u :: us, by simp [hul], ?_, fun i v' hv' => ?_⟩
        · rw [List.mapM_cons, Sem.run_bind]
          have hu' : (loadVar ty' ⟨b', off, none⟩).run P w = .ok u w := by simpa [Instr.loadAt, Instr.sureAddr] using hu
          simp only [rvS, hv, Sem.run_bind, asAddr, Sem.run_pure, Result.andThen_ok, hu', hr]
        · cases i with
          | zero => simp at hv'; subst hv'; exact ⟨_, rfl, hrepu⟩
          | succ i => simpa using hrep i v' (by simpa using hv')
      · exact h.elim
    · exact h.elim
  | .tmp t :: l, [], K, h => h.elim
  | .cell b t :: l, [], K, h => h.elim
/-- The results, whose they are. -/
theorem vvsR_eq {res : Res} : ∀ {l : List AV} {K : List VV → List Nat → Bool → Prop}, vvsR res l K → ∃ rs ts own, K rs ts own ∧ rs.length = l.length ∧ (∀ t ∈ ts, ∀ cs, res t ≠ some (.box cs)) ∧
    (own = true → ts.Nodup → ∀ (w0 : Base) (g : G) (w : World), Models false w0 g res w → ∀ us : List Value, us.length = l.length → (∀ (i : Nat) v, l[i]? = some v → ∃ u, us[i]? = some u ∧ RepAV g w v u) →
      ∃ Ds : Nat → Nat → Nat → Prop, (∀ i j x, Ds i j x → g.free res ts x) ∧ (∀ i j i' j' x, Ds i j x → Ds i' j' x → i = i' ∧ j = j') ∧ ∀ (i : Nat) r, rs[i]? = some r → ∃ u, us[i]? = some u ∧ OwnVV w (Ds i) r u)
  | [], K, h => by
    simp only [vvsR] at h
    exact ⟨_, _, _, h, rfl, by simp, fun _ _ w0 g w hM us hl hrep => ⟨fun _ _ _ => False, fun _ _ _ h => h.elim, fun _ _ _ _ _ h => h.elim, by simp⟩⟩
  | v :: l, K, h => by
    simp only [vvsR] at h
    obtain ⟨r, ps, ts, own, h, htk, hown⟩ := vvR_eq h
    obtain ⟨rs, us', own', hK, hl, hmem, hrest⟩ := vvsR_eq h
    refine ⟨_, _, _, hK, by simp [hl], ?_, fun ho hnd w0 g w hM us hlen hrep => ?_⟩
    · intro t ht
      rcases List.mem_append.1 ht with ht | ht
      · exact htk.noBox ht
      · exact hmem t ht
    · have ho' := (Bool.and_eq_true _ _ ▸ ho : own = true ∧ own' = true)
      rw [List.nodup_append] at hnd
      cases us with
      | nil => simp at hlen
      | cons u us =>
        obtain ⟨u0, hu0, hru⟩ := hrep 0 v rfl
        simp at hu0
        subst hu0
        obtain ⟨vs, hcs, hfin⟩ := hown g w u hru
        obtain ⟨Ds, hD1, hD2, hD3⟩ := hrest ho'.2 hnd.2.1 w0 g w hM us (by simpa using hlen) fun i v' hv' => by simpa using hrep (i + 1) v' (by simpa using hv')
        have hel := htk.el hM hcs (fun _ => True) (fun _ _ => trivial) (fun _ _ => trivial)
        refine ⟨fun i j x => match i with | 0 => takeD g (cellsOf v) ts j x | i + 1 => Ds i j x, ?_, ?_, ?_⟩
        · intro i j x hx
          cases i with
          | zero =>
            obtain ⟨t, _, ht, hx⟩ := hx
            obtain ⟨o, sz, xs, hr, _⟩ := htk.mem ht
            exact ⟨t, _, List.mem_append_left _ ht, hr, hx⟩
          | succ i =>
            obtain ⟨t, r', ht, hr, hx⟩ := hD1 i j x hx
            exact ⟨t, r', List.mem_append_right _ ht, hr, hx⟩
        · have cross : ∀ j i' j' x, takeD g (cellsOf v) ts j x → Ds i' j' x → False := by
            intro j i' j' x hx hx'
            obtain ⟨t, _, ht, hx⟩ := hx
            obtain ⟨o, sz, xs, hr, _⟩ := htk.mem ht
            obtain ⟨t', r', ht', hr', hx'⟩ := hD1 i' j' x hx'
            have := hM.dApart t t' _ _ x hr hr' hx hx'
            subst this
            exact hnd.2.2 t ht t ht' rfl
          intro i j i' j' x hx hx'
          cases i with
          | zero =>
            cases i' with
            | zero =>
              obtain ⟨t, hc, ht, hx⟩ := hx
              obtain ⟨t', hc', ht', hx'⟩ := hx'
              obtain ⟨o, sz, xs, hr, _⟩ := htk.mem ht
              obtain ⟨o', sz', xs', hr', _⟩ := htk.mem ht'
              have := hM.dApart t t' _ _ x hr hr' hx hx'
              subst this
              exact ⟨rfl, htk.once hnd.1 ht hc hc'⟩
            | succ i' => exact (cross j i' j' x hx hx').elim
          | succ i =>
            cases i' with
            | zero => exact (cross j' i j x hx' hx).elim
            | succ i' =>
              have := hD2 i j i' j' x hx hx'
              exact ⟨by omega, this.2⟩
        · intro i r' hr'
          cases i with
          | zero =>
            simp at hr'
            subst hr'
            refine ⟨u, rfl, hfin _ fun j p hp => ?_⟩
            obtain ⟨x, hx, _, he⟩ := hel j p hp
            unfold ElOk at he
            rw [ho'.1] at he
            exact ⟨x, hx, he⟩
          | succ i => simpa using hD3 i r' (by simpa using hr')
theorem results_run {fn : Func} {tmps : Array Value} {us : List Value} {w : World} (h : (fn.results.toList.mapM (rvS tmps)).run P w = .ok us w) : (results fn tmps).run P w = .ok (retVal us) w := by
  have e : results fn tmps = (do let vs ← fn.results.mapM (rvS tmps); pure (if h : vs.size = 1 then vs[0] else .tuple vs)) := by
    unfold results
    congr 1
  rw [e, Array.mapM_eq_mapM_toList]
  simp only [Sem.run_bind, Sem.run_map, h, Result.andThen_ok, Sem.run_pure]
  cases us with
  | nil => simp [retVal]
  | cons u l => cases l with
    | nil => simp [retVal]
    | cons v l => simp [retVal]
/-- THE CONTRACT OF A FUNCTION: its body, interpreted. -/
theorem pureC_ofS (hΓ : TGOk P Γ) {il : List Nat} {draw : Nat → Array Oper → AS → (AS → Prop) → Prop} (hdraw : DrawOk P Γ false draw) {f : FuncId} {fn : Func} {c : Code} {args rs : List VV} (hf : P.funcs[f]? = some fn) (hb : fn.body = some c) (hname : (fn.name == "runtime.NumGoroutine") = false)
    {n : Nat} (hnt : fn.ntmps = n) (hn : args.length ≤ n) {s0 : AS} (hle : ∀ (w0 : Base) (g : G) (w : World) (a : Act), Sim false w0 (initS args n) g w a → ∃ g', Sim false w0 s0 g' w a)
    (h : codeA P Γ false il draw c s0 fun e s => match e with
      | .exit _ => False
      | _ => retA Γ false s fn.results.toList fn.resultTypes.toList rs) : PureC P f args rs := by
  refine ⟨⟨fn, hf, hname, by rw [hb]; rfl⟩, fun w vals hq hvals => ?_⟩
  refine calls_of_wp hf hb ?_
  let g0 : G := ⟨fun _ => undef, fun _ _ => False, fun x => x < w.heap.size, fun _ => False, fun _ _ => undef⟩
  have hM : Models false (Base.of w hq) g0 (fun _ => none) w := by
    refine ⟨⟨rfl, rfl, rfl, Nat.le_refl _, fun _ _ _ => rfl⟩, fun _ h _ => h, fun _ h => h, ?_, ?_, ?_, ?_, ?_⟩
    · intro t r h; simp at h
    · intro t r x h; simp at h
    · intro t t' r r' x h; simp at h
    · intro t r x h; simp at h
    · intro _ t r x h; simp at h
  subst hnt
  have hS : Sim false (Base.of w hq) (initS args fn.ntmps) g0 w { tmps := vals.toArray ++ Array.replicate (fn.ntmps - vals.toArray.size) undef, defers := [] } := by
    refine ⟨hM, fun t => ?_, by simp [initS, hvals.1]; omega, rfl, fun x h => h.elim, fun h => (by cases h), fun t F h => by cases h⟩
    show RepAV g0 w (initEnv args t) _
    unfold initEnv
    rw [nth_eq]
    cases ha : args[t]? with
    | none =>
      show _ = undef
      have hl := hvals.1
      have ht : args.length ≤ t := by
        rcases Nat.lt_or_ge t args.length with h1 | h1
        · rw [List.getElem?_eq_getElem h1] at ha; cases ha
        · exact h1
      rw [Array.getD_eq_getD_getElem?, Array.getElem?_append, if_neg (by simp; omega), Array.getElem?_replicate]
      split <;> rfl
    | some a =>
      obtain ⟨u, hu, hr⟩ := hvals.2 t a ha
      have hv : (vals.toArray ++ Array.replicate (fn.ntmps - vals.toArray.size) undef).getD t undef = u := by
        rw [Array.getD_eq_getD_getElem?, Array.getElem?_append, if_pos (by simpa using (List.getElem?_eq_some_iff.1 hu).1)]
        simp [hu]
      rw [hv]
      cases a with
      | one p => exact rav hr
      | agg ps =>
        obtain ⟨vs, rfl, hl, hp⟩ := hr
        exact ⟨vs, rfl, repCs_pvs hl hp⟩
      | ptr c => exact hr
      | clo f caps => exact hr
  obtain ⟨g1, hS1⟩ := hle _ _ _ _ hS
  refine codeA_sound hΓ hdraw c h hS1 fun e s g w' a hS' hK => ?_
  have key : retA Γ false s fn.results.toList fn.resultTypes.toList rs → a.defers = [] ∧ ∃ v, (results fn a.tmps).run P w' = .ok v w' ∧ ∃ v' D, Ending.returned v = Ending.returned v' ∧ RetOk w' D rs v' ∧ (∀ x, D x → w.heap.size ≤ x ∧ x < w'.heap.size) ∧ Below w.heap.size w w' := by
    intro hret
    obtain ⟨vs, h1, hvl, hrun⟩ := resA_eq hΓ hret
    obtain ⟨as, ts, own, ⟨⟨ho, hnd⟩, rfl⟩, hal, hmem, hown⟩ := vvsR_eq h1
    obtain ⟨us, hul, hr, hrep⟩ := hrun (Base.of w hq) g w' a hS'
    obtain ⟨Ds, hD1, hD2, hD3⟩ := hown ho (nodupB_ok hnd) (Base.of w hq) g w' hS'.mod us (by rw [hul, hvl]) hrep
    refine ⟨hS'.defers, retVal us, results_run hr, retVal us, g.free s.res ts, rfl, ⟨us, rfl, by rw [hul, hal, hvl], Ds, hD1, hD2, hD3⟩, ?_, ⟨hS'.mod.below.os, hS'.mod.below.tape, hS'.mod.below.output, hS'.mod.below.size, fun k hk => hS'.mod.below.block k hk fun h => h⟩⟩
    rintro x ⟨t, r, _, hr, hx⟩
    have := hS'.mod.dNew t r x hr hx
    exact ⟨this.1.resolve_left fun h => h, this.2⟩
  cases e with
  | normal => exact key hK
  | ret => exact key hK
  | exit i => exact hK.elim
theorem pureC_of (hΓ : TGOk P Γ) {il : List Nat} {draw : Nat → Array Oper → AS → (AS → Prop) → Prop} (hdraw : DrawOk P Γ false draw) {f : FuncId} {fn : Func} {c : Code} {args rs : List VV} (hf : P.funcs[f]? = some fn) (hb : fn.body = some c) (hname : (fn.name == "runtime.NumGoroutine") = false)
    {n : Nat} (hnt : fn.ntmps = n) (hn : args.length ≤ n)
    (h : codeA P Γ false il draw c (initS args n) fun e s => match e with
      | .exit _ => False
      | _ => retA Γ false s fn.results.toList fn.resultTypes.toList rs) : PureC P f args rs := pureC_ofS hΓ hdraw hf hb hname hnt hn (s0 := initS args n) (fun _ g _ _ h => ⟨g, h⟩) h
/-- The same, of a function that takes elements out of its rows. -/
def takeS (s : AS) : AS :=
  match s with
  | ⟨env, res, nx, n⟩ => ⟨upd (upd env 999999 (.c .undef)) 999998 (.c .void), res, nx, n⟩
theorem le_take {w0 : Base} {s : AS} (hn : s.n ≤ 999998) (g : G) (w : World) (a : Act) (h : Sim false w0 s g w a) : ∃ g', Sim false w0 (takeS s) g' w a := by
  refine ⟨g, ⟨h.mod, fun t => ?_, h.size, h.defers, h.next, h.pin, h.pinF⟩⟩
  show RepAV g w (upd (upd s.env 999999 (.c .undef)) 999998 (.c .void) t) (a.tmps.getD t undef)
  by_cases h1 : t = 999998
  · subst h1
    rw [upd_same]
    show a.tmps.getD 999998 undef = undef
    have := h.size
    rw [Array.getD_eq_getD_getElem?, Array.getElem?_eq_none (by omega)]
    rfl
  · rw [upd_ne _ _ h1]
    by_cases h2 : t = 999999
    · subst h2
      rw [upd_same]
      trivial
    · rw [upd_ne _ _ h2]
      exact h.env t
theorem pureC_ofT (hΓ : TGOk P Γ) {il : List Nat} {draw : Nat → Array Oper → AS → (AS → Prop) → Prop} (hdraw : DrawOk P Γ false draw) {f : FuncId} {fn : Func} {c : Code} {args rs : List VV} (hf : P.funcs[f]? = some fn) (hb : fn.body = some c) (hname : (fn.name == "runtime.NumGoroutine") = false)
    {n : Nat} (hnt : fn.ntmps = n) (hn : args.length ≤ n) (hn9 : n ≤ 999998)
    (h : codeA P Γ false il draw c (takeS (initS args n)) fun e s => match e with
      | .exit _ => False
      | _ => retA Γ false s fn.results.toList fn.resultTypes.toList rs) : PureC P f args rs := pureC_ofS hΓ hdraw hf hb hname hnt hn (s0 := takeS (initS args n)) (fun _ g w a h => le_take hn9 g w a h) h
/-- The same, with the other mark. -/
def takeBS (s : AS) : AS :=
  match s with
  | ⟨env, res, nx, n⟩ => ⟨upd env 999998 (.c .undef), res, nx, n⟩
theorem le_takeB {w0 : Base} {s : AS} (g : G) (w : World) (a : Act) (h : Sim false w0 s g w a) : ∃ g', Sim false w0 (takeBS s) g' w a := by
  refine ⟨g, ⟨h.mod, fun t => ?_, h.size, h.defers, h.next, h.pin, h.pinF⟩⟩
  show RepAV g w (upd s.env 999998 (.c .undef) t) (a.tmps.getD t undef)
  by_cases h1 : t = 999998
  · subst h1
    rw [upd_same]
    trivial
  · rw [upd_ne _ _ h1]
    exact h.env t
theorem pureC_ofB (hΓ : TGOk P Γ) {il : List Nat} {draw : Nat → Array Oper → AS → (AS → Prop) → Prop} (hdraw : DrawOk P Γ false draw) {f : FuncId} {fn : Func} {c : Code} {args rs : List VV} (hf : P.funcs[f]? = some fn) (hb : fn.body = some c) (hname : (fn.name == "runtime.NumGoroutine") = false)
    {n : Nat} (hnt : fn.ntmps = n) (hn : args.length ≤ n)
    (h : codeA P Γ false il draw c (takeBS (initS args n)) fun e s => match e with
      | .exit _ => False
      | _ => retA Γ false s fn.results.toList fn.resultTypes.toList rs) : PureC P f args rs := pureC_ofS hΓ hdraw hf hb hname hnt hn (s0 := takeBS (initS args n)) (fun _ g w a h => le_takeB g w a h) h
end
theorem leaf_i {a b : Bool} {X : Prop} (ha : a = true) (hb : b = true) (h : X) : (a = true ∧ b = true) ∧ X := ⟨⟨ha, hb⟩, h⟩
theorem call_i {P : Program} {f : FuncId} {as rs : List VV} {X : List VV → Prop} (h : PureC P f as rs) (k : X rs) : ∃ rs, PureC P f as rs ∧ X rs := ⟨rs, h, k⟩
end Go.Vi
