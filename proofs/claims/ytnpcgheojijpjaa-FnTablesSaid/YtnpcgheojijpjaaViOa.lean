/- A call whose function is run in its place. -/
import Derived.Test.YtnpcgheojijpjaaViO
set_option linter.unusedVariables false
set_option linter.unusedSimpArgs false
namespace Go.Vi
open Go.RowKit
/-- The slots, told one by one. -/
def capt : Nat → (Nat → AV) → List (Nat × AV)
  | 0, _ => []
  | n + 1, env => (n, env n) :: capt n env
theorem capt_mem : ∀ {n : Nat} {env : Nat → AV} {k : Nat} {v : AV}, (k, v) ∈ capt n env → v = env k
  | 0, _, _, _, h => by simp [capt] at h
  | n + 1, env, k, v, h => by
    rcases List.mem_cons.1 h with h | h
    · cases h; rfl
    · exact capt_mem h
/-- With them the mark of a function that takes. -/
def captT (n : Nat) (env : Nat → AV) : List (Nat × AV) :=
  match takeM env with
  | true => (999998, .c .void) :: capt n env
  | false => (match takeB env with
    | true => (999999, .c .void) :: capt n env
    | false => capt n env)
theorem takeB_eq {env : Nat → AV} (h : takeB env = true) : env 999999 = .c .void := by
  unfold takeB at h
  split at h
  · rename_i h2; exact h2
  · cases h
theorem takeM_eq {env : Nat → AV} (h : takeM env = true) : env 999998 = .c .void := by
  unfold takeM at h
  split at h
  · split at h
    · rename_i h2; exact h2
    · cases h
  · cases h
theorem captT_mem {n : Nat} {env : Nat → AV} {k : Nat} {v : AV} (h : (k, v) ∈ captT n env) : v = env k := by
  unfold captT at h
  split at h
  · rename_i ht
    rcases List.mem_cons.1 h with h | h
    · cases h; exact (takeM_eq ht).symm
    · exact capt_mem h
  · split at h
    · rename_i ht
      rcases List.mem_cons.1 h with h | h
      · cases h; exact (takeB_eq ht).symm
      · exact capt_mem h
    · exact capt_mem h
def voidT (env : Nat → AV) (t : Nat) : AV :=
  bif Nat.beq t 999999 then (match takeM env with
    | true => .c .undef
    | false => .c .void) else (bif Nat.beq t 999998 then (match takeB env with
      | true => .c .undef
      | false => .c .void) else .c .void)
theorem voidT_rep {env : Nat → AV} {t : Nat} {g : G} {w : World} : RepAV g w (voidT env t) undef := by
  have key : ∀ b : Bool, RepAV g w (match b with
    | true => AV.c .undef
    | false => .c .void) undef := by
    intro b
    cases b with
    | true => trivial
    | false => rfl
  unfold voidT
  cases Nat.beq t 999999 with
  | true => exact key _
  | false => cases Nat.beq t 999998 with
    | true => exact key _
    | false => rfl
def initI (Γ : TG) (env : Nat → AV) (args : List Operand) (ts : List TypeId) (t : Nat) : AV :=
  match nth args t with
  | some x => (match nth ts t with
    | some ty => rtyV Γ ty (opv env x)
    | none => opv env x)
  | none => voidT env t
def notTup : AV → Bool
  | .tup _ => false
  | _ => true
/-- Back from the call: the frame that was put aside, with the result. -/
def backA (Γ : TG) (dm : Bool) (s : AS) (rv : List ResultVar) (rt : List TypeId) (e n : Nat) (dst : Option Tmp) (K : AS → Prop) : Prop :=
  resA Γ dm s rv rt fun vs => match s with
    | ⟨_, res', nx', _⟩ => match res' e with
      | some (.env l) => (match vs with
        | [v] => putA ⟨envL l, upd res' e none, nx', n⟩ dst v [] nx' K
        | vs => match vs.all notTup with
          | true => putA ⟨envL l, upd res' e none, nx', n⟩ dst (.tup vs) [] nx' K
          | false => False)
      | _ => False
section
variable {P : Program} {Γ : TG} {dm : Bool}
theorem Models.forget {w0 : Base} {g : G} {res res' : Res} {w : World} (h : Models dm w0 g res w) (hr : ∀ t r, res' t = some r → res t = some r) : Models dm w0 g res' w :=
  ⟨h.below, h.sBase, h.sLt, fun t r ht => h.tok t r (hr t r ht), fun t r x ht => h.dNew t r x (hr t r ht), fun t t' r r' x ht ht' => h.dApart t t' r r' x (hr t r ht) (hr t' r' ht'), fun t r x ht => h.sMut t r x (hr t r ht), fun hd t r x ht => h.sFro hd t r x (hr t r ht)⟩
theorem Models.base {w0 w1 : Base} {g : G} {res : Res} {w : World} (h : Models dm w0 g res w) (hw : w1.w = w0.w) (hE : w1.E = w0.E) : Models dm w1 g res w := by
  cases w0; cases w1
  simp only at hw hE
  subst hw; subst hE
  exact ⟨⟨h.below.os, h.below.tape, h.below.output, h.below.size, h.below.block⟩, h.sBase, h.sLt, h.tok, h.dNew, h.dApart, h.sMut, h.sFro⟩
def G.pack (g : G) (e : Nat) (F : Nat → Value) : G := ⟨g.σ, upd g.D e (fun _ => False), g.S, fun x => g.U x ∨ x = e, upd g.fr e F⟩
structure Alike (g g' : G) : Prop where
  σ : g'.σ = g.σ
  S : g'.S = g.S
  U : ∀ t, g.U t → g'.U t
theorem RepC.alike {g g' : G} (e : Alike g g') {w : World} {a : AC} {v : Value} (h : RepC g w a v) : RepC g' w a v := by
  cases a with
  | pv p =>
    show Rep w g'.S p v
    rw [e.S]; exact h
  | nil sz => exact h
  | row t => exact ⟨e.U t h.1, by rw [e.σ]; exact h.2.1, h.2.2⟩
  | ptr t off =>
    obtain ⟨hu, b, hs, hv⟩ := h
    exact ⟨e.U t hu, b, by rw [e.σ]; exact hs, hv⟩
  | rel t sz i j =>
    obtain ⟨hu, b, o, n, c, hs, hv⟩ := h
    exact ⟨e.U t hu, b, o, n, c, by rw [e.σ]; exact hs, hv⟩
  | el c =>
    obtain ⟨b, o, hv, hb, hc⟩ := h
    refine ⟨b, o, hv, by rw [e.S]; exact hb, fun j p hp => ?_⟩
    rw [e.S]
    exact hc j p hp
  | fn f caps =>
    obtain ⟨vs, hv, hl, hc⟩ := h
    refine ⟨vs, hv, hl, fun j t ht => ?_⟩
    obtain ⟨u, hu, h1, b, hs, h2⟩ := hc j t ht
    exact ⟨u, hu, e.U t h1, b, by rw [e.σ]; exact hs, h2⟩
  | clo f caps =>
    show RepClo w g'.S f caps v
    rw [e.S]; exact h
  | undef => trivial
  | void => exact h
theorem RepCs.alike {g g' : G} (e : Alike g g') {w : World} {cs : List AC} {vs : List Value} (h : RepCs g w cs vs) : RepCs g' w cs vs :=
  ⟨h.1, fun j a ha => by
    obtain ⟨u, hu, h1, hr⟩ := h.2 j a ha
    exact ⟨u, hu, h1, hr.alike e⟩⟩
theorem RepA1.alike {g g' : G} (e : Alike g g') {w : World} {a : AV} {v : Value} (h : RepA1 g w a v) : RepA1 g' w a v := by
  cases a with
  | c a => exact RepC.alike e h
  | agg l =>
    obtain ⟨vs, hv, hr⟩ := h
    exact ⟨vs, hv, hr.alike e⟩
  | tup l => exact h.elim
theorem RepAV.alike {g g' : G} (e : Alike g g') {w : World} {a : AV} {v : Value} (h : RepAV g w a v) : RepAV g' w a v := by
  cases a with
  | c a => exact RepA1.alike (a := .c a) e h
  | agg l => exact RepA1.alike (a := .agg l) e h
  | tup l =>
    obtain ⟨vs, hv, hl, hr⟩ := h
    refine ⟨vs, hv, hl, fun j a ha => ?_⟩
    obtain ⟨u, hu, hr⟩ := hr j a ha
    exact ⟨u, hu, hr.alike e⟩
theorem alike_pack (g : G) (e : Nat) (F : Nat → Value) : Alike g (g.pack e F) := ⟨rfl, rfl, fun _ h => .inl h⟩
def G.refr (g : G) (e : Nat) (F : Nat → Value) : G := ⟨g.σ, g.D, g.S, g.U, upd g.fr e F⟩
theorem alike_refr (g : G) (e : Nat) (F : Nat → Value) : Alike g (g.refr e F) := ⟨rfl, rfl, fun _ h => h⟩
theorem Models.refr {w0 : Base} {g : G} {res : Res} {w : World} (h : Models dm w0 g res w) {e : Nat} (he : res e = none) (F : Nat → Value) : Models dm w0 (g.refr e F) res w := by
  refine ⟨h.below, h.sBase, h.sLt, fun t r hr => ⟨(h.tok t r hr).1, ?_⟩, h.dNew, h.dApart, h.sMut, h.sFro⟩
  have h1 := (h.tok t r hr).2
  have hn : t ≠ e := by rintro rfl; rw [he] at hr; cases hr
  cases r with
  | box cs =>
    obtain ⟨b, ty, vs, hv, hb, hh, hc⟩ := h1
    exact ⟨b, ty, vs, hv, hb, hh, hc.alike (alike_refr g e F)⟩
  | row own sz xs => exact h1
  | ro sz xs => exact h1
  | fro sz xs => exact h1
  | tl sz t2 => exact h1
  | opn sz cs =>
    obtain ⟨b, q, c, us, h1, h2, h3, h4, h5⟩ := h1
    exact ⟨b, q, c, us, h1, h2, h3, h4.alike (alike_refr g e F), h5⟩
  | raw sz xs => exact h1
  | gho xs xo => exact h1
  | hol sz i xs cs => exact HolOk.mono (g := g) h1 (fun _ _ => rfl) rfl fun j a u hj hr => (hr a hj).alike (alike_refr g e F)
  | env l' =>
    intro k v hk
    have : (g.refr e F).fr t k = g.fr t k := by show upd g.fr e F t k = _; rw [upd_ne _ _ hn]
    rw [this]
    exact (h1 k v hk).alike (alike_refr g e F)
theorem Models.pack {w0 : Base} {g : G} {res : Res} {w : World} (h : Models dm w0 g res w) {e : Nat} (he : ¬ g.U e) {l : List (Nat × AV)} {F : Nat → Value} (hF : ∀ k v, (k, v) ∈ l → RepAV g w v (F k)) : Models dm w0 (g.pack e F) (upd res e (some (.env l))) w := by
  have old : ∀ t r, upd res e (some (.env l)) t = some r → (t = e ∧ r = .env l) ∨ (t ≠ e ∧ res t = some r) := fun t r hr => by
    rcases upd_cases hr with ⟨h1, h2⟩ | h1
    · cases h2; exact .inl ⟨h1, rfl⟩
    · exact .inr h1
  have hDo : ∀ t, t ≠ e → (g.pack e F).D t = g.D t := fun t hn => upd_ne _ _ hn
  have hDn : (g.pack e F).D e = fun _ => False := upd_same _ _ _
  refine ⟨h.below, h.sBase, h.sLt, fun t r hr => ?_, fun t r x hr hx => ?_, fun t t' r r' x hr hr' hx hx' => ?_, fun t r x hr hx hm => ?_, fun hd t r x hr hx hm => ?_⟩
  · rcases old t r hr with ⟨rfl, rfl⟩ | ⟨hn, hr⟩
    · refine ⟨.inr rfl, fun k v hk => ?_⟩
      have : (g.pack t F).fr t k = F k := by show upd g.fr t F t k = F k; rw [upd_same]
      rw [this]
      exact (hF k v hk).alike (alike_pack g t F)
    · refine ⟨.inl (h.tok t r hr).1, ?_⟩
      have h1 := (h.tok t r hr).2
      cases r with
      | box cs =>
        obtain ⟨b, ty, vs, hv, hb, hh, hc⟩ := h1
        exact ⟨b, ty, vs, hv, by rw [hDo t hn]; exact hb, hh, hc.alike (alike_pack g e F)⟩
      | row own sz xs =>
        show RowOk w g.S ((g.pack e F).D t) own sz xs (g.σ t)
        rw [hDo t hn]
        exact h1
      | ro sz xs => exact h1
      | fro sz xs =>
        show RowOk w g.S ((g.pack e F).D t) true sz xs (g.σ t)
        rw [hDo t hn]
        exact h1
      | tl sz t2 => exact ⟨.inl h1.1, h1.2⟩
      | opn sz cs =>
        obtain ⟨b, q, c, us, h1, h2, h3, h4, h5⟩ := h1
        exact ⟨b, q, c, us, h1, h2, h3, h4.alike (alike_pack g e F), h5⟩
      | gho xs xo =>
        show GhoOk w ((g.pack e F).D t) xs xo
        rw [hDo t hn]
        exact h1
      | raw sz xs =>
        show RowOk w g.S ((g.pack e F).D t) true sz xs (g.σ t)
        rw [hDo t hn]
        exact h1
      | hol sz i xs cs =>
        show HolOk (g.pack e F) w ((g.pack e F).D t) sz i xs cs (g.σ t)
        rw [hDo t hn]
        exact HolOk.mono (g := g) h1 (fun _ _ => rfl) rfl fun j a u hj hr => (hr a hj).alike (alike_pack g e F)
      | env l' =>
        intro k v hk
        have : (g.pack e F).fr t k = g.fr t k := by show upd g.fr e F t k = _; rw [upd_ne _ _ hn]
        rw [this]
        exact (h1 k v hk).alike (alike_pack g e F)
  · rcases old t r hr with ⟨rfl, rfl⟩ | ⟨hn, hr⟩
    · rw [hDn] at hx; exact hx.elim
    · rw [hDo t hn] at hx; exact h.dNew t r x hr hx
  · rcases old t r hr with ⟨rfl, rfl⟩ | ⟨hn, hr⟩
    · rw [hDn] at hx; exact hx.elim
    · rcases old t' r' hr' with ⟨rfl, rfl⟩ | ⟨hn', hr'⟩
      · rw [hDn] at hx'; exact hx'.elim
      · rw [hDo t hn] at hx
        rw [hDo t' hn'] at hx'
        exact h.dApart t t' r r' x hr hr' hx hx'
  · rcases old t r hr with ⟨rfl, rfl⟩ | ⟨hn, hr⟩
    · exact hm.elim
    · rw [hDo t hn] at hx; exact h.sMut t r x hr hx hm
  · rcases old t r hr with ⟨rfl, rfl⟩ | ⟨hn, hr⟩
    · rw [hDn] at hx; exact hx.elim
    · rw [hDo t hn] at hx; exact h.sFro hd t r x hr hx hm
theorem argTmps (vals : List Value) (n t : Nat) : (vals.toArray ++ Array.replicate (n - vals.toArray.size) undef).getD t undef = vals.getD t undef := by
  rw [Array.getD_eq_getD_getElem?, Array.getElem?_append, List.getD_eq_getElem?_getD]
  by_cases h : t < vals.length
  · rw [if_pos (by simpa using h)]; simp
  · rw [if_neg (by simpa using h), Array.getElem?_replicate, List.getElem?_eq_none (by omega)]
    split <;> rfl
/-- The function's body, interpreted from the call's state on. -/
theorem inl_of (hΓ : TGOk P Γ) {il : List Nat} {draw : Nat → Array Oper → AS → (AS → Prop) → Prop} (hdraw : DrawOk P Γ dm draw) {env : Nat → AV} {res : Res} {nx n : Nat} {args : List Operand} {ts : List TypeId} {dst : Option Tmp} {K : AS → Prop}
    {f : FuncId} {fn : Func} {c : Code} (hf : P.funcs[f]? = some fn) (hb : fn.body = some c) (hname : (fn.name == "runtime.NumGoroutine") = false) {m : Nat} (hnt : fn.ntmps = m) (hn : args.length ≤ m)
    (h : codeA P Γ dm il draw c ⟨initI Γ env args ts, upd res nx (some (.env (captT n env))), nx + 1024, m⟩ fun e s => match e with
      | .exit _ => False
      | _ => backA Γ dm s fn.results.toList fn.resultTypes.toList nx n dst K) : InlA P dm env res nx n f args dst K := by
  refine ⟨⟨fn, hf, hname, by rw [hb]; rfl⟩, fun w0 g w a hS => ?_⟩
  refine calls_of_wp hf hb ?_
  let F : Nat → Value := fun k => a.tmps.getD k undef
  let w1 : Base := { w0 with pinF := upd w0.pinF nx (some F) }
  have hM := hS.mod
  have hnx : ¬ g.U nx := fun hu => by have h9 : nx < nx := hS.next nx hu; omega
  have hM1 : Models dm w1 (g.pack nx F) (upd res nx (some (.env (captT n env)))) w := (hM.pack hnx fun k v hk => by rw [captT_mem hk]; exact hS.env k).base rfl rfl
  subst hnt
  have hS1 : Sim dm w1 ⟨initI Γ env args ts, upd res nx (some (.env (captT n env))), nx + 1024, fn.ntmps⟩ (g.pack nx F) w { tmps := (args.map a.eval).toArray ++ Array.replicate (fn.ntmps - (args.map a.eval).toArray.size) undef, defers := [] } := by
    refine ⟨hM1, fun t => ?_, by simp; omega, rfl, fun x hx => ?_, fun hd t v hp => ?_, fun t F' hF => ?_⟩
    · show RepAV _ w (initI Γ env args ts t) _
      rw [argTmps]
      unfold initI
      rw [nth_eq]
      cases ha : args[t]? with
      | none =>
        have hl : args.length ≤ t := by
          rcases Nat.lt_or_ge t args.length with h1 | h1
          · rw [List.getElem?_eq_getElem h1] at ha; cases ha
          · exact h1
        rw [List.getD_eq_getElem?_getD, List.getElem?_eq_none (by simpa using hl)]
        exact voidT_rep
      | some x =>
        have he : (args.map a.eval).getD t undef = a.eval x := by rw [List.getD_eq_getElem?_getD, List.getElem?_map, ha]; rfl
        rw [he]
        have h1 : RepAV (g.pack nx F) w (opv env x) (a.eval x) := (hS.eval x).alike (alike_pack g nx F)
        dsimp only
        split
        · exact rtyV_rep h1
        · exact h1
    · rcases hx with hx | rfl
      · have h9 : x < nx := hS.next x hx
        show x < nx + 1024
        omega
      · show x < x + 1024
        omega
    · have := hS.pin hd t v hp
      exact ⟨.inl this.1, this.2⟩
    · have hF : upd w0.pinF nx (some F) t = some F' := hF
      rcases upd_cases hF with ⟨rfl, h2⟩ | ⟨hn2, h2⟩
      · cases h2
        exact upd_same _ _ _
      · have h3 := hS.pinF t F' h2
        exact (upd_ne _ _ hn2).trans h3
  refine codeA_sound hΓ hdraw c h hS1 fun e s g' w' a' hS' hK => ?_
  have key : backA Γ dm s fn.results.toList fn.resultTypes.toList nx n dst K → a'.defers = [] ∧ ∃ v, (results fn a'.tmps).run P w' = .ok v w' ∧ ∃ v' s2 g2, Ending.returned v = Ending.returned v' ∧ Sim dm w0 s2 g2 w' (a.put dst v') ∧ K s2 := by
    intro hret
    obtain ⟨vs, h1, hvl, hrun⟩ := resA_eq hΓ hret
    obtain ⟨us, hul, hr, hrep⟩ := hrun w1 g' w' a' hS'
    obtain ⟨env', res', nx', n'⟩ := s
    dsimp only at h1
    split at h1
    · rename_i l hl
      have htok := (hS'.mod.tok nx _ hl).2
      have hfr : g'.fr nx = F := hS'.pinF nx F (upd_same _ _ _)
      -- the caller's state
      have hS2 : Sim dm w0 ⟨envL l, upd res' nx none, nx', n⟩ (g'.refr nx (g.fr nx)) w' a := by
        have hM2 : Models dm w0 g' (upd res' nx none) w' := (hS'.mod.base (w1 := w0) rfl rfl).forget fun t r ht => by
          rcases upd_cases ht with ⟨_, h2⟩ | ⟨_, h2⟩
          · cases h2
          · exact h2
        refine ⟨hM2.refr (upd_same _ _ _) _, fun t => ?_, hS.size, hS.defers, hS'.next, fun hd t v hp => hS'.pin hd t v hp, fun t F' hF => ?_⟩
        · show RepAV _ w' (envL l t) _
          rcases envL_mem (l := l) (t := t) with h | h
          · rw [h]; trivial
          · have := htok t _ h
            rw [hfr] at this
            exact this.alike (alike_refr _ _ _)
        · show upd g'.fr nx (g.fr nx) t = F'
          by_cases ht : t = nx
          · subst ht
            rw [upd_same]
            exact hS.pinF t F' hF
          · rw [upd_ne _ _ ht]
            exact hS'.pinF t F' (show upd w0.pinF nx (some F) t = some F' by rw [upd_ne _ _ ht]; exact hF)
      have hback : ∀ (v : AV) (x : Value), RepAV g' w' v x → putA ⟨envL l, upd res' nx none, nx', n⟩ dst v [] nx' K → ∃ s2 g2, Sim dm w0 s2 g2 w' (a.put dst x) ∧ K s2 := by
        intro v x hx hk
        obtain ⟨s2, hK2, hS3⟩ := hS2.put hk hS2.mod (Evo.refl _ _) (hx.alike (alike_refr _ _ _)) hS2.next
        exact ⟨s2, _, hS3, hK2⟩
      split at h1
      · rename_i v
        have hu1 : us.length = 1 := by rw [hul, ← hvl]; rfl
        match us, hu1 with
        | [u], _ =>
          obtain ⟨u', hu', hru⟩ := hrep 0 v rfl
          simp at hu'
          subst hu'
          obtain ⟨s2, g2, h2, h3⟩ := hback v u hru h1
          exact ⟨hS'.defers, _, results_run hr, u, s2, g2, rfl, h2, h3⟩
      · split at h1
        · rename_i hne _ hall
          have hne1 : us.length ≠ 1 := by
            intro h4
            rw [hul, ← hvl] at h4
            match vs, h4 with
            | [v], _ => exact hne v rfl
          have hret : retVal us = .tuple us.toArray := by
            match us, hne1 with
            | [], _ => rfl
            | [x], h => exact absurd rfl h
            | _ :: _ :: _, _ => rfl
          obtain ⟨s2, g2, h2, h3⟩ := hback (.tup vs) (.tuple us.toArray) ⟨us, rfl, by rw [hul, hvl], fun j v hv => by
            obtain ⟨u, hu, hru⟩ := hrep j v hv
            refine ⟨u, hu, ?_⟩
            have hnt := List.all_eq_true.1 hall v (List.mem_of_getElem? hv)
            cases v with
            | c a => exact hru
            | agg l => exact hru
            | tup l => simp [notTup] at hnt⟩ h1
          exact ⟨hS'.defers, _, results_run hr, _, s2, g2, by rw [hret], h2, h3⟩
        · exact h1.elim
    · exact h1.elim
  cases e with
  | normal => exact key hK
  | ret => exact key hK
  | exit i => exact hK.elim
theorem Models.retok {w0 : Base} {g : G} {res : Res} {w : World} (h : Models false w0 g res w) {t : Nat} {r r' : ARes} (hr : res t = some r) (hm : ∀ x, ¬ Mut false (g.σ t) r x) (hm' : ∀ x, ¬ Mut false (g.σ t) r' x) (hk : TokOk g w t r') : Models false w0 g (upd res t (some r')) w := by
  have key : ∀ t1 r1, upd res t (some r') t1 = some r1 → (t1 = t ∧ r1 = r') ∨ (t1 ≠ t ∧ res t1 = some r1) := by
    intro t1 r1 h1
    rcases upd_cases h1 with ⟨e1, e2⟩ | h2
    · exact .inl ⟨e1, by cases e2; rfl⟩
    · exact .inr h2
  have old : ∀ t1 r1, upd res t (some r') t1 = some r1 → ∃ r2, res t1 = some r2 := by
    intro t1 r1 h1
    rcases key t1 r1 h1 with ⟨rfl, _⟩ | ⟨_, h2⟩
    · exact ⟨_, hr⟩
    · exact ⟨_, h2⟩
  refine ⟨h.below, h.sBase, h.sLt, ?_, ?_, ?_, ?_, ?_⟩
  · intro t1 r1 h1
    rcases key t1 r1 h1 with ⟨rfl, rfl⟩ | ⟨_, h2⟩
    · exact ⟨(h.tok t1 _ hr).1, hk⟩
    · exact h.tok t1 r1 h2
  · intro t1 r1 x h1 hx
    obtain ⟨r2, h2⟩ := old t1 r1 h1
    exact h.dNew t1 r2 x h2 hx
  · intro t1 t2 r1 r2 x h1 h2 hx1 hx2
    obtain ⟨q1, k1⟩ := old t1 r1 h1
    obtain ⟨q2, k2⟩ := old t2 r2 h2
    exact h.dApart t1 t2 q1 q2 x k1 k2 hx1 hx2
  · intro t1 r1 x h1 hx hmu
    rcases key t1 r1 h1 with ⟨rfl, rfl⟩ | ⟨_, h2⟩
    · exact absurd hmu (hm' x)
    · exact h.sMut t1 r1 x h2 hx hmu
  · intro hd t1 r1 x h1 hx hmu
    rcases key t1 r1 h1 with ⟨rfl, rfl⟩ | ⟨_, h2⟩
    · exact h.sFro hd t1 r x hr hx (hm x)
    · exact h.sFro hd t1 r1 x h2 hx hmu
/-- A row of one element is opened: its slices get names of their own, with their memory. -/
theorem le_open {s : AS} (tk : Nat) {sz : Nat} {el : List PV} {cs : List AC} {u : Upd} (hr : s.res tk = some (.row true sz [el])) (hf : froL s.next el fun a v => a = cs ∧ v = u) (hl : Nat.ble el.length 60 = true)
    (hq : updL (upd s.res tk (some (.ro sz [el]))) u tk = some (.ro sz [el])) : Le false s ⟨s.env, upd (updL (upd s.res tk (some (.ro sz [el]))) u) tk (some (.opn sz cs)), s.next + 64, s.n⟩ := fun w0 g w a hS => by
  have hl := Nat.le_of_ble_eq_true hl
  obtain ⟨g1, b, q, us, D, n, c, hM1, e1, hU1, hs, hlen, hcell, hfree, hdis⟩ := hS.mod.loose hr (i := 0) rfl
  obtain ⟨hM2, e2⟩ := hM1.freeze (t := tk) (own := false) (sz := sz) (xs := [el]) (upd_same _ _ _)
  generalize hg2 : g1.drop (upd s.res tk (some (.row false sz [el]))) [tk] = g2 at *
  have hD2 : g2.D = g1.D := by rw [← hg2]; rfl
  have hU2 : g2.U = g1.U := by rw [← hg2]; rfl
  have hσ2 : g2.σ = g1.σ := by rw [← hg2]; rfl
  have hres : upd (upd s.res tk (some (.row false sz [el]))) tk (some (.ro sz [el])) = upd s.res tk (some (.ro sz [el])) := by
    funext x
    by_cases hx : x = tk
    · subst hx; rw [upd_same, upd_same]
    · rw [upd_ne _ _ hx, upd_ne _ _ hx, upd_ne _ _ hx]
  rw [hres] at hM2
  obtain ⟨cs', u', ⟨rfl, rfl⟩, hal, hfro⟩ := froL_eq hf
  have hσ : g2.σ tk = .slice (some ⟨b, q, none⟩) n c := by rw [hσ2, e1.σ tk (hS.mod.tok tk _ hr).1]; exact hs
  -- its block may be read
  have hrep : Rep w g2.S (.sl sz [el]) (g2.σ tk) := (hM2.tok tk (.ro sz [el]) (upd_same _ _ _)).2
  have hSb : g2.S b ∧ n = 1 := by
    rw [hσ] at hrep
    cases hrep with
    | sl _ _ A c' us' hc hm hz ha hr' =>
      obtain ⟨b', q', hA, hb, _⟩ := ha (by simp)
      cases hA
      exact ⟨hb, rfl⟩
  obtain ⟨hSb, rfl⟩ := hSb
  let vs : List Value := (List.range sz).map us
  have hvl : vs.length = el.length := by simp [vs, hlen]
  have hvg : ∀ j p, el[j]? = some p → vs[j]? = some (us j) := fun j p hp => by
    have : j < el.length := (List.getElem?_eq_some_iff.1 hp).1
    simp [vs, hlen ▸ this]
  have hfree2 : ∀ j, Free false w0 g2 (upd s.res tk (some (.ro sz [el]))) w (D j) := fun j => ⟨(hfree j).new, fun _ x hx => e2.s x ((hfree j).fro rfl x hx), fun x t r hx hrt => by
    rw [hD2]
    rcases upd_cases hrt with ⟨rfl, _⟩ | ⟨hn, h2⟩
    · exact (hfree j).off x t _ hx (upd_same _ _ _)
    · exact (hfree j).off x t r hx (by rw [upd_ne _ _ hn]; exact h2)⟩
  obtain ⟨g3, hM3, e3, hU3, hr3⟩ := hfro false w0 w g2 _ vs D hM2 (fun x h3 h4 h5 => by
    rw [hU2] at h5
    have h9 : x < s.next := hS.next x (hU1 x h5)
    omega) ⟨hvl, fun j p hp => ⟨us j, hvg j p hp, (hcell j p hp).2⟩⟩ hfree2 hdis
  have htk2 : g2.U tk := (hM2.tok tk (.ro sz [el]) (upd_same _ _ _)).1
  have ev : Evo g g3 w w := (e1.trans e2).trans e3
  refine ⟨g3, hM3.retok hq (fun x h => h) (fun x h => h) ⟨b, q, c, vs, (e3.σ tk htk2).trans hσ, e3.s b hSb, by rw [hal, hlen], hr3, fun j v hv => ?_⟩, fun t => (hS.env t).evo ev, hS.size, hS.defers, fun x hx => ?_, fun hd => (by cases hd), fun t F hF => by rw [ev.fr]; exact hS.pinF t F hF⟩
  · have hj : j < el.length := by rw [← hvl]; exact (List.getElem?_eq_some_iff.1 hv).1
    have h2 := hvg j _ (List.getElem?_eq_getElem hj)
    rw [hv] at h2
    cases h2
    have := (hcell j _ (List.getElem?_eq_getElem hj)).1
    simpa using this
  · show x < s.next + 64
    rcases hU3 x hx with h3 | h3
    · rw [hU2] at h3
      have h9 : x < s.next := hS.next x (hU1 x h3)
      omega
    · omega
/-- The state told anew ahead of such a call. -/
theorem inl_le {env env' : Nat → AV} {res res' : Res} {nx nx' n n' : Nat} {f : FuncId} {args : List Operand} {dst : Option Tmp} {K : AS → Prop} (h : Le dm ⟨env, res, nx, n⟩ ⟨env', res', nx', n'⟩) (k : InlA P dm env' res' nx' n' f args dst K) : InlA P dm env res nx n f args dst K :=
  ⟨k.enter, fun w0 g w a hS => by
    obtain ⟨g', hS'⟩ := h w0 g w a hS
    exact k.run w0 g' w a hS'⟩
/-- The mark of a function that takes, given to a state whose slots are told one by one. -/
theorem le_takeS {s : AS} (hn : s.n ≤ 999998) : Le false s (takeS s) := fun w0 g w a h => le_take hn g w a h
theorem Le.trans {s1 s2 s3 : AS} (h1 : Le dm s1 s2) (h2 : Le dm s2 s3) : Le dm s1 s3 := fun w0 g w a hS => by
  obtain ⟨g1, hS1⟩ := h1 w0 g w a hS
  exact h2 w0 g1 w a hS1
/-- A row that is read from now on alone. -/
theorem le_ro {s : AS} (t : Nat) {own : Bool} {sz : Nat} {xs : List (List PV)} (h : s.res t = some (.row own sz xs)) : Le false s ⟨s.env, upd s.res t (some (.ro sz xs)), s.next, s.n⟩ := fun w0 g w a hS => by
  obtain ⟨hM', ev⟩ := hS.mod.freeze h
  exact ⟨_, hM', fun t => (hS.env t).evo ev, hS.size, hS.defers, hS.next, fun hd => (by cases hd), hS.pinF⟩
theorem le_roE {s : AS} (x : Nat) {t : Nat} {own : Bool} {sz : Nat} {xs : List (List PV)} (_ : s.env x = .c (.row t)) (h : s.res t = some (.row own sz xs)) : Le false s ⟨s.env, upd s.res t (some (.ro sz xs)), s.next, s.n⟩ := le_ro t h
/-- A slot that holds such a row: its list. -/
theorem le_pv {s : AS} (x : Nat) {t : Nat} {sz : Nat} {xs : List (List PV)} (he : s.env x = .c (.row t)) (h : s.res t = some (.ro sz xs)) : Le dm s ⟨upd s.env x (.c (.pv (.sl sz xs))), s.res, s.next, s.n⟩ := fun w0 g w a hS => by
  refine ⟨g, hS.mod, fun k => ?_, hS.size, hS.defers, hS.next, hS.pin, hS.pinF⟩
  show RepAV g w (upd s.env x _ k) _
  by_cases hk : k = x
  · subst hk
    rw [upd_same]
    have h1 := hS.env k
    rw [he] at h1
    have h2 : Rep w g.S (.sl sz xs) (g.σ t) := (hS.mod.tok t _ h).2
    have h3 : a.tmps.getD k undef = g.σ t := h1.2.1
    rw [h3]
    exact rav h2
  · rw [upd_ne _ _ hk]
    exact hS.env k
/-- A slot's row: its list, from now on. -/
theorem le_fz {s : AS} (x : Nat) {t : Nat} {own : Bool} {sz : Nat} {xs : List (List PV)} (he : s.env x = .c (.row t)) (h : s.res t = some (.row own sz xs)) :
    Le false s ⟨upd s.env x (.c (.pv (.sl sz xs))), upd s.res t (some (.ro sz xs)), s.next, s.n⟩ :=
  (le_ro t h).trans (le_pv (s := ⟨s.env, upd s.res t (some (.ro sz xs)), s.next, s.n⟩) x he (upd_same _ _ _))
/-- A nil slice as an empty row of the call's own. -/
theorem le_row {s : AS} (x : Nat) {sz : Nat} (he : s.env x = .c (.nil sz)) : Le false s ⟨upd s.env x (.c (.row s.next)), upd s.res s.next (some (.row true sz [])), s.next + 1, s.n⟩ := fun w0 g w a hS => by
  have hnx : ¬ g.U s.next := fun hu => by have := hS.next _ hu; omega
  obtain ⟨hM', ev⟩ := hS.mod.name hnx (.slice none 0 0) (.row true sz []) (.inl ⟨rfl, upd_same _ _ _⟩)
  refine ⟨_, hM', fun k => ?_, hS.size, hS.defers, fun y hy => ?_, fun hd => (by cases hd), hS.pinF⟩
  · show RepAV _ w (upd s.env x _ k) _
    by_cases hk : k = x
    · subst hk
      rw [upd_same]
      have h1 := hS.env k
      rw [he] at h1
      have h1 : a.tmps.getD k undef = .slice none 0 0 := h1
      rw [h1]
      exact ⟨.inr rfl, (upd_same _ _ _).symm, rfl⟩
    · rw [upd_ne _ _ hk]
      exact (hS.env k).evo ev
  · show y < s.next + 1
    rcases hy with hy | rfl
    · have := hS.next y hy; omega
    · omega
/-- The same in a struct variable. -/
theorem le_rowB {s : AS} (b j : Nat) {cs : List AC} {sz : Nat} (h : s.res b = some (.box cs)) (hj : cs[j]? = some (.nil sz)) : Le false s ⟨s.env, upd (upd s.res s.next (some (.row true sz []))) b (some (.box (cs.set j (.row s.next)))), s.next + 1, s.n⟩ := fun w0 g w a hS => by
  have hnx : ¬ g.U s.next := fun hu => by have := hS.next _ hu; omega
  obtain ⟨hU, hB⟩ := hS.mod.tok b _ h
  have hbn : b ≠ s.next := fun e => hnx (e ▸ hU)
  obtain ⟨hM', ev⟩ := hS.mod.name hnx (.slice none 0 0) (.row true sz []) (.inl ⟨rfl, upd_same _ _ _⟩)
  have hr : upd s.res s.next (some (.row true sz [])) b = some (.box cs) := by rw [upd_ne _ _ hbn]; exact h
  obtain ⟨hU', hB'⟩ := hM'.tok b _ hr
  obtain ⟨k, ty, vs, hσ, hD, hw, hl, hR⟩ := hB'
  have hjl : j < cs.length := (List.getElem?_eq_some_iff.1 hj).1
  obtain ⟨hM2, ev2⟩ := hM'.set (w' := w) (r' := .box (cs.set j (.row s.next))) hr hD trivial (fun _ _ => rfl) rfl rfl rfl rfl (fun _ => Iff.rfl) (fun _ => Iff.rfl) fun _ => ⟨k, ty, vs, hσ, hD, hw, by rw [hl, List.length_set], fun i a hi => by
    rw [List.getElem?_set] at hi
    by_cases hij : j = i
    · subst hij
      rw [if_pos rfl, if_pos hjl] at hi
      cases hi
      obtain ⟨u, hu, h1, h2⟩ := hR j _ hj
      have h2 : u = .slice none 0 0 := h2
      subst h2
      exact ⟨_, hu, h1, .inr rfl, (upd_same _ _ _).symm, h1⟩
    · rw [if_neg hij] at hi
      exact hR i a hi⟩
  refine ⟨_, hM2, fun k => ((hS.env k).evo ev).evo ev2, hS.size, hS.defers, fun y hy => ?_, fun hd => (by cases hd), hS.pinF⟩
  show y < s.next + 1
  rcases hy with hy | rfl
  · have := hS.next y hy; omega
  · omega
theorem le_rowE {s : AS} (x j : Nat) {b : Nat} {cs : List AC} {sz : Nat} (_ : s.env x = .c (.ptr b 0)) (h : s.res b = some (.box cs)) (hj : cs[j]? = some (.nil sz)) : Le false s ⟨s.env, upd (upd s.res s.next (some (.row true sz []))) b (some (.box (cs.set j (.row s.next)))), s.next + 1, s.n⟩ := le_rowB b j h hj
/-! ### Functions that hand cells on -/
def rowsFrom (k : Nat) : Nat → List AC
  | 0 => []
  | n + 1 => .row k :: rowsFrom (k + 1) n
theorem rowsFrom_get : ∀ {n k j : Nat}, j < n → (rowsFrom k n)[j]? = some (.row (k + j))
  | n + 1, k, 0, _ => rfl
  | n + 1, k, j + 1, h => by
    have := rowsFrom_get (n := n) (k := k + 1) (j := j) (by omega)
    simp only [rowsFrom, List.getElem?_cons_succ, this]
    congr 2
    omega
theorem rowsFrom_len : ∀ (n k : Nat), (rowsFrom k n).length = n
  | 0, _ => rfl
  | n + 1, k => by simp [rowsFrom, rowsFrom_len]
def slotsFrom (k : Nat) : Nat → List (Nat × AV)
  | 0 => []
  | n + 1 => (k, .c (.row k)) :: slotsFrom (k + 1) n
theorem slotsFrom_mem : ∀ {n k j : Nat}, k ≤ j → j < k + n → (j, AV.c (.row j)) ∈ slotsFrom k n
  | 0, k, j, h, h2 => by omega
  | n + 1, k, j, h, h2 => by
    simp only [slotsFrom, List.mem_cons]
    by_cases e : j = k
    · subst e; exact .inl rfl
    · exact .inr (slotsFrom_mem (by omega) (by omega))
theorem slotsFrom_iff : ∀ {n k j : Nat} {v : AV}, (j, v) ∈ slotsFrom k n → k ≤ j ∧ j < k + n ∧ v = .c (.row j)
  | 0, k, j, v, h => by simp [slotsFrom] at h
  | n + 1, k, j, v, h => by
    simp only [slotsFrom, List.mem_cons] at h
    rcases h with h | h
    · cases h; exact ⟨Nat.le_refl _, by omega, rfl⟩
    · have := slotsFrom_iff h
      exact ⟨by omega, by omega, this.2.2⟩
def poC : PO → AC
  | .arg i => .row i
  | .val a => a
def poOk (k : Nat) : PO → Bool
  | .arg i => Nat.blt i k
  | .val a => zeroC a
theorem passC_of (hΓ : TGOk P Γ) {il : List Nat} {draw : Nat → Array Oper → AS → (AS → Prop) → Prop} (hdraw : DrawOk P Γ false draw) {f : FuncId} {fn : Func} {c : Code} {k : Nat} {outs : List PO} (hf : P.funcs[f]? = some fn) (hb : fn.body = some c) (hname : (fn.name == "runtime.NumGoroutine") = false)
    {n : Nat} (hnt : fn.ntmps = n) (hn : 1 ≤ n) (hk : k ≤ 64) (hz : outs.all (poOk k) = true)
    (h : codeA P Γ false il draw c ⟨fun t => match t with | 0 => .agg (rowsFrom 0 k) | _ => .c .void, fun t => bif Nat.beq t 64 then some (.env (slotsFrom 0 k)) else none, 65, n⟩ fun e s => match e with
      | .exit _ => False
      | _ => resA Γ false s fn.results.toList fn.resultTypes.toList fun vs => vs = [.agg (outs.map poC)] ∧ s.res 64 = some (.env (slotsFrom 0 k))) : PassC P f k outs := by
  refine ⟨⟨fn, hf, hname, by rw [hb]; rfl⟩, fun a ha => by have := List.all_eq_true.1 hz _ ha; exact this, fun w vs hq hvs hone => ?_⟩
  refine calls_of_wp hf hb ?_
  let F : Nat → Value := fun j => vs.getD j undef
  let g0 : G := ⟨F, fun _ _ => False, fun x => x < w.heap.size, fun t => t < 65, fun _ => F⟩
  let w0 : Base := ⟨w, fun _ => False, fun _ => none, fun _ _ h => (by cases h), fun t => bif Nat.beq t 64 then some F else none, hq, fun _ h => h.elim⟩
  let res0 : Res := fun t => bif Nat.beq t 64 then some (.env (slotsFrom 0 k)) else none
  have hres0 : ∀ t r, res0 t = some r → t = 64 ∧ r = .env (slotsFrom 0 k) := by
    intro t r hr
    have hr : (bif Nat.beq t 64 then some (ARes.env (slotsFrom 0 k)) else none) = some r := hr
    cases hb : Nat.beq t 64 with
    | true => rw [hb] at hr; cases hr; exact ⟨Nat.eq_of_beq_eq_true hb, rfl⟩
    | false => rw [hb] at hr; cases hr
  have hrow : ∀ j, j < k → RepC g0 w (.row j) (F j) := fun j hj => ⟨(by show j < 65; omega), rfl, by
    have h1 : vs[j]? = some (F j) := by
      show _ = some (vs.getD j undef)
      rw [List.getD_eq_getElem?_getD, List.getElem?_eq_getElem (by omega)]; rfl
    exact hone _ (List.mem_of_getElem? h1)⟩
  have hM : Models false w0 g0 res0 w := by
    refine ⟨⟨rfl, rfl, rfl, Nat.le_refl _, fun _ _ _ => rfl⟩, fun _ h _ => h, fun _ h => h, fun t r hr => ?_, fun t r x _ hx => hx.elim, fun t t' r r' x _ _ hx => hx.elim, fun t r x _ hx => hx.elim, fun _ t r x _ hx => hx.elim⟩
    obtain ⟨rfl, rfl⟩ := hres0 t r hr
    refine ⟨(by show 64 < 65; omega), fun j v hj => ?_⟩
    obtain ⟨_, h2, rfl⟩ := slotsFrom_iff hj
    exact hrow j (by omega)
  subst hnt
  have hS : Sim false w0 ⟨fun t => match t with | 0 => .agg (rowsFrom 0 k) | _ => .c .void, res0, 65, fn.ntmps⟩ g0 w { tmps := #[.agg vs.toArray] ++ Array.replicate (fn.ntmps - 1) undef, defers := [] } := by
    refine ⟨hM, fun t => ?_, by simp; omega, rfl, fun x h => h, fun h => (by cases h), fun t F' hF => ?_⟩
    · match t with
      | 0 =>
        have : (#[Value.agg vs.toArray] ++ Array.replicate (fn.ntmps - 1) undef).getD 0 undef = .agg vs.toArray := by
          rw [Array.getD_eq_getD_getElem?, Array.getElem?_append, if_pos (by simp)]; rfl
        show RepAV g0 w (.agg (rowsFrom 0 k)) _
        rw [this]
        refine ⟨vs, rfl, by rw [rowsFrom_len, hvs], fun j a ha => ?_⟩
        have hj : j < k := by have := (List.getElem?_eq_some_iff.1 ha).1; rwa [rowsFrom_len] at this
        rw [rowsFrom_get hj, Nat.zero_add] at ha
        cases ha
        have h1 : vs[j]? = some (F j) := by
          show _ = some (vs.getD j undef)
          rw [List.getD_eq_getElem?_getD, List.getElem?_eq_getElem (by omega)]; rfl
        exact ⟨F j, h1, (hrow j hj).2.2, hrow j hj⟩
      | t + 1 =>
        show _ = undef
        rw [Array.getD_eq_getD_getElem?, Array.getElem?_append, if_neg (by simp), Array.getElem?_replicate]
        split <;> rfl
    · have hF : (bif Nat.beq t 64 then some F else none) = some F' := hF
      cases hb : Nat.beq t 64 with
      | true => rw [hb] at hF; cases hF; rfl
      | false => rw [hb] at hF; cases hF
  refine codeA_sound hΓ hdraw c h hS fun e s g w' a hS' hK => ?_
  have key : (resA Γ false s fn.results.toList fn.resultTypes.toList fun vs => vs = [.agg (outs.map poC)] ∧ s.res 64 = some (.env (slotsFrom 0 k))) → a.defers = [] ∧ ∃ v, (results fn a.tmps).run P w' = .ok v w' ∧ ∃ us : List Value, Ending.returned v = Ending.returned (.agg us.toArray) ∧ us.length = outs.length ∧ (∀ (j i : Nat), outs[j]? = some (.arg i) → ∃ u, us[j]? = some u ∧ vs[i]? = some u) ∧ (∀ (j : Nat) a, outs[j]? = some (.val a) → us[j]? = some (zeroVal a)) ∧ Below w.heap.size w w' := by
    intro hret
    obtain ⟨rvs, ⟨rfl, henv⟩, hvl, hrun⟩ := resA_eq hΓ hret
    obtain ⟨us0, hul, hr, hrep⟩ := hrun w0 g w' a hS'
    obtain ⟨u0, hu0, us, rfl, hlen, hcs⟩ := hrep 0 _ rfl
    have hus : us0 = [.agg us.toArray] := by
      have hl1 : us0.length = 1 := by rw [hul, ← hvl]; rfl
      match us0, hl1 with
      | [x], _ => simp at hu0; rw [hu0]
    subst hus
    have htok := (hS'.mod.tok 64 _ henv).2
    have hfr : g.fr 64 = F := hS'.pinF 64 F rfl
    have hσ : ∀ j, j < k → g.σ j = F j := by
      intro j hj
      have h1 : RepAV g w' (.c (.row j)) (g.fr 64 j) := htok j _ (slotsFrom_mem (Nat.zero_le _) (by omega))
      rw [hfr] at h1
      exact h1.2.1.symm
    refine ⟨hS'.defers, _, results_run hr, us, rfl, by rw [hlen]; simp, fun j i hj => ?_, fun j ac hj => ?_, ⟨hS'.mod.below.os, hS'.mod.below.tape, hS'.mod.below.output, hS'.mod.below.size, fun k hk => hS'.mod.below.block k hk fun h => h⟩⟩
    · obtain ⟨u, hu, _, hru⟩ := hcs j (.row i) (by rw [List.getElem?_map, hj]; rfl)
      have hik : i < k := nblt (show Nat.blt i k = true from List.all_eq_true.1 hz _ (List.mem_of_getElem? hj))
      refine ⟨u, hu, ?_⟩
      have hu2 : u = F i := by rw [← hσ i hik]; exact hru.2.1
      rw [hu2]
      show _ = some (vs.getD i undef)
      rw [List.getD_eq_getElem?_getD, List.getElem?_eq_getElem (by omega)]; rfl
    · obtain ⟨u, hu, h1, hru⟩ := hcs j ac (by rw [List.getElem?_map, hj]; rfl)
      rw [hu]
      have hz1 : zeroC ac = true := List.all_eq_true.1 hz _ (List.mem_of_getElem? hj)
      cases ac with
      | pv p =>
        have hru : Rep w' g.S p u := hru
        cases hru with
        | int k n => rfl
        | bool b => rfl
        | str s => rfl
        | fn f => simp [zeroC] at hz1
        | err0 => simp [zeroC] at hz1
        | err1 => simp [zeroC] at hz1
        | any => simp [zeroC] at hz1
        | sl => simp [zeroC] at hz1
      | nil sz =>
        have hru : u = .slice none 0 0 := hru
        rw [hru]; rfl
      | _ => simp [zeroC] at hz1
  cases e with
  | normal => exact key hK
  | ret => exact key hK
  | exit i => exact hK.elim
end
end Go.Vi
