/- A call of a function that writes into what it is given: the contract; the operation. -/
import Derived.Test.YtnpcgheojijpjaaViS
set_option linter.unusedVariables false
set_option linter.unusedSimpArgs false
namespace Go.Vi
open Go.RowKit
/-- Only F was written of what was there. -/
structure Kept (F : Nat → Prop) (w w' : World) : Prop where
  os : w'.os = w.os
  tape : w'.tape = w.tape
  output : w'.output = w.output
  size : w.heap.size ≤ w'.heap.size
  block : ∀ k, k < w.heap.size → ¬ F k → w'.heap[k]? = w.heap[k]?
/-- A FUNCTION THAT MARKS: it is given a value whose memory is the giver's own, and a number; behind it the same value reads otherwise. -/
structure MarkC (P : Program) (f : FuncId) (a : VV) (n : Int) (a' : VV) (n' : Int) : Prop where
  enter : Enters P f
  calls : ∀ (w : World) (v : Value) (D : Nat → Nat → Prop), Laid w → (∀ j x, D j x → lowN ≤ x) → OwnVV w D a v → (∀ j x, D j x → x < w.heap.size) → (∀ i j x, D i x → D j x → i = j) →
    Calls P f #[v, .int .i64 n] w fun e w' => e = .returned (.int .i64 n') ∧ Kept (fun x => ∃ j, D j x) w w' ∧
      ∃ D', OwnVV w' D' a' v ∧ (∀ j x, D' j x → (∃ j, D j x) ∨ (w.heap.size ≤ x ∧ x < w'.heap.size)) ∧ (∀ i j x, D' i x → D' j x → i = j)
def psOf : VV → List PV
  | .one p => [p]
  | .agg ps => ps
  | _ => []
/-- The rows' new contents. -/
def marks : List AC → List PV → Option Upd
  | [], [] => some []
  | .row t :: l, .sl sz xs :: ps => (marks l ps).map fun u => (t, some (.row true sz xs)) :: u
  | .row _ :: _, _ => none
  | _ :: l, _ :: ps => marks l ps
  | _, _ => none
def vvR (res : Res) (v : AV) (K : VV → List Nat → Bool → Prop) : Prop :=
  match v with
  | .c a => pvsA res [a] fun ps ts own => (match ps with
    | [p] => K (.one p) ts own
    | _ => False)
  | .agg cs => pvsA res cs fun ps ts own => K (.agg ps) ts own
  | .tup _ => False
def cellsOf : AV → List AC
  | .c a => [a]
  | .agg cs => cs
  | .tup _ => []
theorem vvR_eq {res : Res} {v : AV} {K : VV → List Nat → Bool → Prop} (h : vvR res v K) : ∃ r ps ts own, K r ts own ∧ TakeOk res (cellsOf v) ps ts own ∧ ∀ (g : G) (w : World) u, RepAV g w v u → ∃ vs, RepCs g w (cellsOf v) vs ∧
    ∀ (D : Nat → Nat → Prop), (∀ (j : Nat) p, ps[j]? = some p → ∃ x, vs[j]? = some x ∧ Own w (D j) p x) → OwnVV w D r u := by
  unfold vvR at h
  split at h
  · rename_i c
    obtain ⟨ps, ts, own, ht, h⟩ := pvsA_eq h
    split at h
    · rename_i p
      have hd : defC c = true := by
        cases ht <;> rfl
      refine ⟨_, _, _, _, h, ht, fun g w u hu => ⟨[u], ⟨rfl, fun j q hq => ?_⟩, fun D hD => ?_⟩⟩
      · have hu : RepC g w c u := hu
        cases j with
        | zero => simp [cellsOf] at hq; subst hq; exact ⟨u, rfl, hu.one hd, hu⟩
        | succ j => simp [cellsOf] at hq
      · obtain ⟨x, hx, ho⟩ := hD 0 p rfl
        simp at hx
        subst hx
        exact ho
    · exact h.elim
  · rename_i cs
    obtain ⟨ps, ts, own, ht, h⟩ := pvsA_eq h
    refine ⟨_, _, _, _, h, ht, fun g w u hu => ?_⟩
    obtain ⟨vs, rfl, hr⟩ := hu
    exact ⟨vs, hr, fun D hD => ⟨vs, rfl, by rw [hr.1, ht.len], hD⟩⟩
  · exact h.elim
section
variable {P : Program} {Γ : TG} {dm : Bool} {o : Oper} {env : Nat → AV} {res : Res} {id : Nat} {K : KT}
def shapeB : VV → VV → Bool
  | .one _, .one _ => true
  | .agg ps, .agg qs => Nat.beq ps.length qs.length
  | _, _ => false
theorem vvR_eq2 {res : Res} {v : AV} {K : VV → List Nat → Bool → Prop} (h : vvR res v K) : ∃ r ps ts own, K r ts own ∧ TakeOk res (cellsOf v) ps ts own ∧ ∀ (g : G) (w : World) u, RepAV g w v u → ∃ vs, RepCs g w (cellsOf v) vs ∧
    (∀ (D : Nat → Nat → Prop), (∀ (j : Nat) p, ps[j]? = some p → ∃ x, vs[j]? = some x ∧ Own w (D j) p x) → OwnVV w D r u) ∧
    ∀ (w' : World) (D : Nat → Nat → Prop) (a' : VV), shapeB r a' = true → OwnVV w' D a' u → (psOf a').length = (cellsOf v).length ∧ ∀ (j : Nat) p, (psOf a')[j]? = some p → ∃ x, vs[j]? = some x ∧ Own w' (D j) p x := by
  unfold vvR at h
  split at h
  · rename_i c
    obtain ⟨ps, ts, own, ht, h⟩ := pvsA_eq h
    split at h
    · rename_i p
      have hd : defC c = true := by
        cases ht <;> rfl
      refine ⟨_, _, _, _, h, ht, fun g w u hu => ⟨[u], ⟨rfl, fun j q hq => ?_⟩, fun D hD => ?_, fun w' D a' hs ho => ?_⟩⟩
      · have hu : RepC g w c u := hu
        cases j with
        | zero => simp [cellsOf] at hq; subst hq; exact ⟨u, rfl, hu.one hd, hu⟩
        | succ j => simp [cellsOf] at hq
      · obtain ⟨x, hx, ho⟩ := hD 0 p rfl
        simp at hx
        subst hx
        exact ho
      · cases a' with
        | agg qs => simp [shapeB] at hs
        | ptr c => simp [shapeB] at hs
        | clo f c => simp [shapeB] at hs
        | one q =>
          refine ⟨rfl, fun j p hp => ?_⟩
          cases j with
          | zero => simp [psOf] at hp; subst hp; exact ⟨u, rfl, ho⟩
          | succ j => simp [psOf] at hp
    · exact h.elim
  · rename_i cs
    obtain ⟨ps, ts, own, ht, h⟩ := pvsA_eq h
    refine ⟨_, _, _, _, h, ht, fun g w u hu => ?_⟩
    obtain ⟨vs, rfl, hr⟩ := hu
    refine ⟨vs, hr, fun D hD => ⟨vs, rfl, by rw [hr.1, ht.len], hD⟩, fun w' D a' hs ho => ?_⟩
    cases a' with
    | one q => simp [shapeB] at hs
    | ptr c => simp [shapeB] at hs
    | clo f c => simp [shapeB] at hs
    | agg qs =>
      obtain ⟨vs2, he, hl, ho⟩ := ho
      have he : vs = vs2 := by simpa using he
      subst he
      have hl2 : ps.length = qs.length := Nat.eq_of_beq_eq_true hs
      exact ⟨(hl2.symm.trans ht.len : qs.length = cs.length), ho⟩
  · exact h.elim
/-- All of them rows that may be written. -/
def allRow (res : Res) (ts : List Nat) : Bool := ts.all fun t => match res t with
  | some (.row ..) => true
  | _ => false
theorem allRow_ok {res : Res} {ts : List Nat} (h : allRow res ts = true) {t : Nat} (ht : t ∈ ts) : ∃ o sz xs, res t = some (.row o sz xs) := by
  have := List.all_eq_true.1 h t ht
  split at this
  · exact ⟨_, _, _, ‹_›⟩
  · cases this
theorem rowToks_mem : ∀ {l : List AC} {j t : Nat}, l[j]? = some (.row t) → t ∈ rowToks l
  | [], j, t, h => by simp at h
  | a :: l, 0, t, h => by simp at h; subst h; simp [rowToks]
  | a :: l, j + 1, t, h => by
    have := rowToks_mem (l := l) (j := j) (t := t) (by simpa using h)
    cases a <;> simp [rowToks, this]
def kMark (P : Program) (Γ : TG) (dm : Bool) (env : Nat → AV) (res : Res) (f : FuncId) (args : List Operand) (ts : List TypeId) (K : KT) : Prop :=
  match dm, args, ts with
  | true, [x, y], [t, _] => forceV (rtyV Γ t (opv env x)) fun av => match opv env y with
    | .c (.pv (.int .i64 n)) => vvR res av fun a tk own => match own && nodupB tk && allRow res tk with
      | true => ∃ (a' : VV) (n' : Int), (MarkC P f a n a' n' ∧ shapeB a a' = true) ∧ (match marks (cellsOf av) (psOf a') with
        | some u => K (.c (.pv (.int .i64 n'))) u (rowToks (cellsOf av))
        | none => False)
      | false => False
    | _ => False
  | _, _, _ => False
theorem TakeOk.rowMem {l : List AC} {ps : List PV} {ts : List Nat} {own : Bool} (h : TakeOk res l ps ts own) (ho : own = true) {j t : Nat} (hj : l[j]? = some (.row t)) : t ∈ ts := by
  induction h generalizing j with
  | nil => simp at hj
  | pv p _ ih => cases j with
    | zero => simp at hj
    | succ j => exact ih (Bool.and_eq_true _ _ ▸ ho : _ ∧ _).2 (by simpa using hj)
  | nl s _ ih => cases j with
    | zero => simp at hj
    | succ j => exact ih ho (by simpa using hj)
  | row t' hr' _ ih => cases j with
    | zero => simp at hj; subst hj; simp
    | succ j => exact List.mem_cons_of_mem _ (ih (Bool.and_eq_true _ _ ▸ ho : _ ∧ _).2 (by simpa using hj))
  | ro t' hr' _ ih => cases ho
  | fro t' hr' _ ih => cases j with
    | zero => simp at hj; subst hj; simp
    | succ j => exact List.mem_cons_of_mem _ (ih ho (by simpa using hj))
theorem marks_upd : ∀ {cs : List AC} {ps : List PV} {u : Upd}, marks cs ps = some u → ∀ {res : Res} {t : Nat} {r : ARes}, updL res u t = some r →
    (∃ (j sz : Nat) (xs : List (List PV)), cs[j]? = some (.row t) ∧ ps[j]? = some (.sl sz xs) ∧ r = .row true sz xs) ∨ ((∀ j : Nat, cs[j]? ≠ some (.row t)) ∧ res t = some r)
  | [], [], u, h, res, t, r, hr => by
    simp [marks] at h
    subst h
    exact .inr ⟨by simp, hr⟩
  | [], p :: ps, u, h, res, t, r, hr => by simp [marks] at h
  | c :: cs, [], u, h, res, t, r, hr => by cases c <;> simp [marks] at h
  | c :: cs, p :: ps, u, h, res, t, r, hr => by
    have other : marks cs ps = some u → (∀ t', c ≠ .row t') → (∃ (j sz : Nat) (xs : List (List PV)), (c :: cs)[j]? = some (.row t) ∧ (p :: ps)[j]? = some (.sl sz xs) ∧ r = .row true sz xs) ∨ ((∀ j : Nat, (c :: cs)[j]? ≠ some (.row t)) ∧ res t = some r) := by
      intro h1 hc
      rcases marks_upd h1 hr with ⟨j, sz, xs, h2, h3, h4⟩ | ⟨h2, h3⟩
      · exact .inl ⟨j + 1, sz, xs, by simpa using h2, by simpa using h3, h4⟩
      · refine .inr ⟨fun j => ?_, h3⟩
        cases j with
        | zero => intro h; simp at h; exact hc t h
        | succ j => simpa using h2 j
    cases c with
    | row t1 =>
      cases p with
      | sl sz xs =>
        simp only [marks, Option.map_eq_some_iff] at h
        obtain ⟨u1, h1, rfl⟩ := h
        rcases marks_upd h1 hr with ⟨j, sz', xs', h2, h3, h4⟩ | ⟨h2, h3⟩
        · exact .inl ⟨j + 1, sz', xs', by simpa using h2, by simpa using h3, h4⟩
        · rcases upd_cases h3 with ⟨rfl, h4⟩ | ⟨hn, h4⟩
          · cases h4
            exact .inl ⟨0, sz, xs, rfl, rfl, rfl⟩
          · refine .inr ⟨fun j => ?_, h4⟩
            cases j with
            | zero => intro h; simp at h; exact hn h.symm
            | succ j => simpa using h2 j
      | _ => simp [marks] at h
    | _ => exact other (by simpa [marks] using h) (by simp)
theorem arr1' {α : Type} {a : Array α} {l : List α} (h : a.toList = l) : a = l.toArray := by rw [← h]
theorem good_mark {cx : Operand} {f : FuncId} {args : Array Operand} {ts : Array TypeId} (ho : o.op = .call { callee := .value cx, args := args, argTypes := ts }) (hcx : opv env cx = .c (.pv (.fn f))) (h : kMark P Γ dm env res f args.toList ts.toList K) : Good P dm o env res id K := by
  unfold kMark at h
  split at h
  · rename_i x y t t2 hargs hts
    have h := forceV_eq h
    generalize hav : rtyV Γ t (opv env x) = av at h
    split at h
    · rename_i n hy
      obtain ⟨a0, ps, tk, own, h, htake, hopen⟩ := vvR_eq2 h
      split at h
      · rename_i hon
        rw [Bool.and_eq_true] at hon
        obtain ⟨hon, hall⟩ := hon
        rw [Bool.and_eq_true] at hon
        obtain ⟨hown, hnd⟩ := hon
        have hnd := nodupB_ok hnd
        subst hown
        obtain ⟨a', n', ⟨hC, hshape⟩, h⟩ := h
        split at h
        · rename_i u hu
          obtain ⟨rs, hrs, hrs1⟩ := htake.rs
          refine ⟨_, _, rs, fun w0 g res' w a hM hop hr hid => ?_, hrs, by rw [hrs1]; exact h⟩
          have htake' : TakeOk res' (cellsOf av) ps tk true := htake.congr (fun t ht => rs_agree hrs hr t (by rw [hrs1]; exact ht))
          have hrow : ∀ t ∈ tk, ∃ (o : Bool) (sz : Nat) (xs : List (List PV)), res' t = some (.row o sz xs) ∧ True := fun t ht => by
            obtain ⟨_, _, _, _, j, hj⟩ := htake.mem ht
            obtain ⟨o, sz, xs, h1⟩ := allRow_ok hall ht
            exact ⟨o, sz, xs, (rs_agree hrs hr t (by rw [hrs1]; exact rowToks_mem hj)).trans h1, trivial⟩
          have hargs0 : args = #[x, y] := arr1' hargs
          have hox : x ∈ o.op.operands := by simp [ho, Op.operands, Call.operands, hargs0]
          have hoy : y ∈ o.op.operands := by simp [ho, Op.operands, Call.operands, hargs0]
          have hxr : RepAV g w av (a.eval x) := hav ▸ rtyV_rep (hop x hox)
          have hyv : a.eval y = .int .i64 n := rep_int (hy ▸ hop y hoy)
          obtain ⟨vs, hcs, hownI, hparts⟩ := hopen g w (a.eval x) hxr
          have hel := htake'.el hM hcs (fun x => g.S x ∨ g.free res' tk x) (fun x hx => .inl hx) (fun x hx => .inr hx)
          have hD0 : ∀ j x, takeD g (cellsOf av) tk j x → x < w.heap.size := by
            rintro j x ⟨t, _, ht, hx⟩
            obtain ⟨o', s', x', hr', _⟩ := htake'.mem ht
            exact (hM.dNew t _ x hr' hx).2
          have hDlow : ∀ j x, takeD g (cellsOf av) tk j x → lowN ≤ x := by
            rintro j x ⟨t, _, ht, hx⟩
            obtain ⟨o', s', x', hr', _⟩ := htake'.mem ht
            exact hM.low hr' hx
          have hDd : ∀ i j x, takeD g (cellsOf av) tk i x → takeD g (cellsOf av) tk j x → i = j := by
            rintro i j x ⟨t, hc, ht, hx⟩ ⟨t', hc', ht', hx'⟩
            obtain ⟨o1, s1, x1, hr1, _⟩ := htake'.mem ht
            obtain ⟨o2, s2, x2, hr2, _⟩ := htake'.mem ht'
            have := hM.dApart t t' _ _ x hr1 hr2 hx hx'
            subst this
            exact htake'.once hnd ht hc hc'
          have hcall := hC.calls w (a.eval x) (takeD g (cellsOf av) tk) hM.below.laid hDlow (hownI _ fun j p hp => by
            obtain ⟨v, hv, _, he⟩ := hel j p hp
            exact ⟨v, hv, he⟩) hD0 hDd
          have hcv : a.eval cx = .func (.func f) #[] #[] := by
            have h0 := hop cx (by simp [ho, Op.operands, Call.operands])
            rw [hcx] at h0
            generalize a.eval cx = v at h0
            cases h0
            rfl
          obtain ⟨fn, hf, hname, hbody⟩ := hC.enter.enter
          have hargs' : args = #[x, y] := arr1' hargs
          have hrun : (execOp a.eval o).run P w = .ok (.enter f #[a.eval x, .int .i64 n]) w := by
            have hn : fn.body.isNone = false := by cases hb : fn.body <;> simp_all
            simp only [execOp, ho, resolve, invoke, hcv, Deferred.ofValue, callFunc, Sem.run_bind, Sem.run_pure, Result.andThen_ok, program, Sem.run, hf, hname, hn, hargs']
            simp [hyv]
          intro next Q hnext
          unfold Oper.wp
          rw [hrun, Oper.upon_enter]
          refine hcall.mono fun e w' hpost => ?_
          obtain ⟨rfl, hK, D', hown', hD', hdis'⟩ := hpost
          refine hnext _ w' ?_
          obtain ⟨hlen, hpart⟩ := hparts w' D' a' hshape hown'
          have hFD : ∀ x, (∃ j, takeD g (cellsOf av) tk j x) → ∃ (t : Nat) (o : Bool) (sz : Nat) (xs : List (List PV)), t ∈ tk ∧ res' t = some (.row o sz xs) ∧ g.D t x := by
            rintro x ⟨j, t, _, ht, hx⟩
            obtain ⟨o', s', x', hr', _⟩ := hrow t ht
            exact ⟨t, o', s', x', ht, hr', hx⟩
          have hSF : ∀ x, g.S x → ¬ ∃ j, takeD g (cellsOf av) tk j x := by
            intro x hx hF
            obtain ⟨t, o', s', x', _, hr', hD⟩ := hFD x hF
            exact hM.sMut t _ x hr' hD (.inl rfl) hx
          have hoff : ∀ t r x, res' t = some r → t ∉ tk → g.D t x → ¬ ∃ j, takeD g (cellsOf av) tk j x := by
            intro t r x hrt ht hx hF
            obtain ⟨t', o', s', x', ht', hr', hD⟩ := hFD x hF
            have := hM.dApart t t' _ _ x hrt hr' hx hD
            subst this
            exact ht ht'
          let nD : Nat → Nat → Prop := fun t x => (∃ j : Nat, (cellsOf av)[j]? = some (.row t) ∧ D' j x) ∨ (t ∉ tk ∧ g.D t x)
          let g' : G := { g with D := nD }
          have ev : Evo g g' w w' := ⟨fun _ h => h, fun _ _ => rfl, fun _ h => h, fun x hx => hK.block x (hM.sLt x hx) (hSF x hx), rfl⟩
          have hin : ∀ {j : Nat} {t : Nat}, (cellsOf av)[j]? = some (.row t) → t ∈ tk := fun h => htake'.rowMem rfl h
          have hold : ∀ t r, res' t = some r → t ∉ tk → TokOk g' w' t r := by
            intro t r hrt ht
            have hDt : ∀ x, nD t x → g.D t x := by
              rintro x (⟨j, hj, _⟩ | ⟨_, hx⟩)
              · exact absurd (hin hj) ht
              · exact hx
            have hDt2 : nD t = g.D t := by
              funext x
              exact propext ⟨hDt x, fun h => .inr ⟨ht, h⟩⟩
            exact (hM.tok t r hrt).2.evo ev (hM.tok t r hrt).1 hDt2 fun x hx => hK.block x (hM.dNew t r x hrt hx).2 (hoff t r x hrt ht hx)
          have hnew : ∀ (j : Nat) t sz xs, (cellsOf av)[j]? = some (.row t) → (psOf a')[j]? = some (.sl sz xs) → TokOk g' w' t (.row true sz xs) := by
            intro j t sz xs hj hp
            obtain ⟨u', hu', ho'⟩ := hpart j _ hp
            obtain ⟨u2, hu2, _, hr2⟩ := hcs.2 j _ hj
            rw [hu'] at hu2
            cases hu2
            have hv : u' = g.σ t := hr2.2.1
            subst hv
            show RowOk w' g.S (nD t) true sz xs (g.σ t)
            exact row_of_own (ho'.mono (fun _ _ => rfl) fun x hx => .inl ⟨j, hj, hx⟩)
          have hcase : ∀ t r, updL res' u t = some r → (∃ (j sz : Nat) (xs : List (List PV)), (cellsOf av)[j]? = some (.row t) ∧ (psOf a')[j]? = some (.sl sz xs) ∧ r = .row true sz xs ∧ t ∈ tk) ∨ (t ∉ tk ∧ res' t = some r) := by
            intro t r hrt
            rcases marks_upd hu hrt with ⟨j, sz, xs, h1, h2, h3⟩ | ⟨h1, h2⟩
            · exact .inl ⟨j, sz, xs, h1, h2, h3, hin h1⟩
            · refine .inr ⟨fun ht => ?_, h2⟩
              obtain ⟨_, _, _, _, j, hj⟩ := htake'.mem ht
              exact h1 j hj
          have hold2 : ∀ t r, updL res' u t = some r → ∃ r0, res' t = some r0 ∧ (t ∈ tk → ∃ (o : Bool) (sz : Nat) (xs : List (List PV)), r0 = .row o sz xs) := by
            intro t r hrt
            rcases hcase t r hrt with ⟨j, sz, xs, h1, h2, h3, ht⟩ | ⟨ht, h2⟩
            · obtain ⟨o', s', x', hr', _⟩ := hrow t ht
              exact ⟨_, hr', fun _ => ⟨_, _, _, rfl⟩⟩
            · exact ⟨r, h2, fun h => absurd h ht⟩
          have hnDs : ∀ t x, nD t x → (∃ j : Nat, (cellsOf av)[j]? = some (.row t) ∧ D' j x ∧ ((∃ j, takeD g (cellsOf av) tk j x) ∨ (w.heap.size ≤ x ∧ x < w'.heap.size))) ∨ (t ∉ tk ∧ g.D t x) := by
            rintro t x (⟨j, hj, hx⟩ | h)
            · exact .inl ⟨j, hj, hx, hD' j x hx⟩
            · exact .inr h
          have hM' : Models true w0 g' (updL res' u) w' := by
            refine ⟨hM.below.to hK.os hK.tape hK.output hK.size (fun k hk hE => hK.block k (by have := hM.below.size; omega) (fun hF => ?_)), hM.sBase, fun x hx => by have := hM.sLt x hx; have := hK.size; omega, ?_, ?_, ?_, ?_, fun h => by cases h⟩
            · obtain ⟨t, o', s', x', _, hr', hD⟩ := hFD k hF
              rcases (hM.dNew t _ k hr' hD).1 with h1 | h1
              · exact hE h1
              · omega
            · intro t r hrt
              rcases hcase t r hrt with ⟨j, sz, xs, h1, h2, h3, ht⟩ | ⟨ht, h2⟩
              · subst h3
                obtain ⟨o', s', x', hr', _⟩ := hrow t ht
                exact ⟨(hM.tok t _ hr').1, hnew j t sz xs h1 h2⟩
              · exact ⟨(hM.tok t r h2).1, hold t r h2 ht⟩
            · intro t r x hrt hx
              obtain ⟨r0, hr0, _⟩ := hold2 t r hrt
              have hsz := hK.size
              have hsz2 := hM.below.size
              rcases hnDs t x hx with ⟨j, hj, _, hF | hF⟩ | ⟨_, hx⟩
              · obtain ⟨t', o', s', x', _, hr', hD⟩ := hFD x hF
                have := hM.dNew t' _ x hr' hD
                exact ⟨this.1, by omega⟩
              · exact ⟨.inr (by omega), hF.2⟩
              · have := hM.dNew t r0 x hr0 hx
                exact ⟨this.1, by omega⟩
            · intro t1 t2 r1 r2 x h1 h2 hx1 hx2
              obtain ⟨q1, hq1, _⟩ := hold2 t1 r1 h1
              obtain ⟨q2, hq2, _⟩ := hold2 t2 r2 h2
              rcases hnDs t1 x hx1 with ⟨j1, hj1, hd1, hF1⟩ | ⟨hn1, hx1⟩ <;> rcases hnDs t2 x hx2 with ⟨j2, hj2, hd2, hF2⟩ | ⟨hn2, hx2⟩
              · have := hdis' j1 j2 x hd1 hd2
                subst this
                rw [hj1] at hj2
                cases hj2
                rfl
              · rcases hF1 with hF1 | hF1
                · exact absurd hF1 (hoff t2 q2 x hq2 hn2 hx2)
                · have := hM.dNew t2 q2 x hq2 hx2; omega
              · rcases hF2 with hF2 | hF2
                · exact absurd hF2 (hoff t1 q1 x hq1 hn1 hx1)
                · have := hM.dNew t1 q1 x hq1 hx1; omega
              · exact hM.dApart t1 t2 q1 q2 x hq1 hq2 hx1 hx2
            · intro t r x hrt hx hm hS
              obtain ⟨r0, hr0, hrow⟩ := hold2 t r hrt
              have hS : g.S x := hS
              rcases hnDs t x hx with ⟨j, hj, _, hF | hF⟩ | ⟨ht, hx⟩
              · exact hSF x hS hF
              · have := hM.sLt x hS; omega
              · rcases hcase t r hrt with ⟨_, _, _, _, _, _, ht'⟩ | ⟨_, h2⟩
                · exact ht ht'
                · exact hM.sMut t r x h2 hx hm hS
          exact ⟨g', hM', ev, rav (.int _ _), fun x hx => .inl hx⟩
        · exact h.elim
      · exact h.elim
    · exact h.elim
  · exact h.elim
end
end Go.Vi
