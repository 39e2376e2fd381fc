/- Functions that draw: a cursor is moved on; of what is drawn a property is told alone. -/
import Derived.Test.YtnpcgheojijpjaaViOa
set_option linter.unusedVariables false
set_option linter.unusedSimpArgs false
namespace Go.Vi
open Go.RowKit
/-- A FUNCTION THAT DRAWS: its first argument leads to a cursor (bytes, a place, a number), which it alone writes; what it returns has the property Q. -/
structure CurC (P : Program) (f : FuncId) (sz : Nat) (code : List (List PV)) (args : List VV) (Q : List VV → Prop) : Prop where
  enter : Enters P f
  calls : ∀ (w : World) (b : Nat) (ty : TypeId) (u : Value) (i h : Int) (vals : List Value), Laid w → lowN ≤ b → w.heap[b]? = some (.cells #[u, .int .i64 i, .int .i64 h] ty (0, 0)) →
    Rep w (fun x => x < w.heap.size ∧ x ≠ b) (.sl sz code) u → 0 ≤ i → RepVs w (fun x => x < w.heap.size ∧ x ≠ b) args vals →
    Calls P f (Value.pointer (some ⟨b, 0, none⟩) :: vals).toArray w fun e w' => ∃ v D rs i' h' ty', e = .returned v ∧ Q rs ∧ 0 ≤ i' ∧ RetOk w' D rs v ∧
      (∀ x, D x → w.heap.size ≤ x ∧ x < w'.heap.size) ∧ Kept (fun x => x = b) w w' ∧ w'.heap[b]? = some (.cells #[u, .int .i64 i', .int .i64 h'] ty' (0, 0))
def memT (t : Nat) : List Nat → Bool
  | [] => false
  | a :: l => bif Nat.beq a t then true else memT t l
theorem memT_no {t : Nat} : ∀ {l : List Nat}, memT t l = false → t ∉ l
  | [], _ => by simp
  | a :: l, h => by
    simp only [memT] at h
    cases hb : Nat.beq a t with
    | true => rw [hb] at h; cases h
    | false =>
      rw [hb] at h
      intro hm
      rcases List.mem_cons.1 hm with rfl | hm
      · have : Nat.beq t t = true := Nat.beq_refl t
        rw [hb] at this; cases this
      · exact memT_no h hm
/-- A call that draws. -/
def kCur (P : Program) (Γ : TG) (env : Nat → AV) (res : Res) (nx n : Nat) (f : FuncId) (args : List Operand) (ts : List TypeId) (dst : Option Tmp) (K : AS → Prop) : Prop :=
  match args with
  | x0 :: rest => (match opv env x0 with
    | .c (.ptr t 0) => (match res t with
      | some (.box [a0, .pv (.int .i64 i), .pv (.int .i64 h)]) => pvA res a0 fun p r0 => (match p with
        | .sl sz code => argsA Γ env res rest ts fun as rd => (match memT t (r0 ++ rd) with
          | false => 0 ≤ i ∧ ∃ Q, CurC P f sz code as Q ∧ ∀ (rs : List VV) (i' h' : Int), Q rs → 0 ≤ i' → tokR nx rs fun v u => putA ⟨env, res, nx, n⟩ dst v ((t, some (.box [a0, .pv (.int .i64 i'), .pv (.int .i64 h')])) :: u) (nx + 1024) K
          | true => False)
        | _ => False)
      | _ => False)
    | _ => False)
  | [] => False
theorem cur_i {P : Program} {f : FuncId} {sz : Nat} {code : List (List PV)} {as : List VV} {Q : List VV → Prop} {i : Int} {X : List VV → Int → Int → Prop} (hC : CurC P f sz code as Q) (hi : 0 ≤ i) (k : ∀ (rs : List VV) (i' h' : Int), Q rs → 0 ≤ i' → X rs i' h') :
    0 ≤ i ∧ ∃ Q, CurC P f sz code as Q ∧ ∀ (rs : List VV) (i' h' : Int), Q rs → 0 ≤ i' → X rs i' h' := ⟨hi, Q, hC, k⟩
section
variable {P : Program} {Γ : TG}
theorem inl_cur {env : Nat → AV} {res : Res} {nx n : Nat} {f : FuncId} {args : List Operand} {dst : Option Tmp} {K : AS → Prop} (ts : List TypeId)
    (h : kCur P Γ env res nx n f args ts dst K) : InlA P false env res nx n f args dst K := by
  unfold kCur at h
  split at h
  · rename_i x0 rest
    split at h
    · rename_i t hx0
      split at h
      · rename_i a0 i h0 hrt
        obtain ⟨p, r0, h, rs0, hrs0, hm0, hrep0⟩ := pvA_eqS h
        split at h
        · rename_i sz code
          obtain ⟨as, rd, h, rs1, hrs1, hm1, hrep1⟩ := argsA_eqS h
          split at h
          · rename_i hmem
            obtain ⟨hi, Q, hC, h⟩ := h
            have hnot := memT_no hmem
            refine ⟨hC.enter, fun w0 g w a hS => ?_⟩
            have hM := hS.mod
            -- the cursor's box
            have hbox := (hM.tok t _ hrt)
            obtain ⟨hU, b, ty, vs, hσ, hDb, hh, hcs⟩ := hbox
            have hp0 : RepAV g w (.c (.ptr t 0)) (a.eval x0) := by rw [← hx0]; exact hS.eval x0
            obtain ⟨_, b', hσ', hv0⟩ : RepPtr g t 0 (a.eval x0) := hp0
            rw [hσ] at hσ'; cases hσ'
            have hl3 : vs.length = 3 := hcs.1
            obtain ⟨u0, u1, u2, rfl⟩ : ∃ u0 u1 u2, vs = [u0, u1, u2] := by
              match vs, hl3 with
              | [u0, u1, u2], _ => exact ⟨_, _, _, rfl⟩
            obtain ⟨c0, e0, o0, r00⟩ := hcs.2 0 a0 rfl
            obtain ⟨c1, e1, o1, r1⟩ := hcs.2 1 _ rfl
            obtain ⟨c2, e2, o2, r2⟩ := hcs.2 2 _ rfl
            simp at e0 e1 e2
            subst e0 e1 e2
            have r1 := rep_int (g := g) (w := w) r1
            have r2 := rep_int (g := g) (w := w) r2
            subst r1 r2
            have hbS : ¬ g.S b := hM.sMut t _ b hrt hDb trivial
            have hblt : b < w.heap.size := blk_lt' hh
            have hSS : ∀ x, g.S x → x < w.heap.size ∧ x ≠ b := fun x hx => ⟨hM.sLt x hx, fun he => hbS (he ▸ hx)⟩
            have hDD : ∀ t' r x, res t' = some r → t' ≠ t → g.D t' x → x < w.heap.size ∧ x ≠ b := fun t' r x hr hn hx => ⟨(hM.dNew t' r x hr hx).2, fun he => hn (hM.dApart t' t r _ x hr hrt hx (he ▸ hDb))⟩
            have q0 := hrep0 false w0 g res w hM hrs0 (fun x => x < w.heap.size ∧ x ≠ b) hSS (fun t' r x hq hx => hDD t' r x (hrs0 t' r hq) (fun he => hnot (by
              rw [List.mem_append]; left; rw [← hm0]; subst he; exact List.mem_map.2 ⟨_, hq, rfl⟩)) hx) u0 r00
            have q1 := hrep1 false w0 g res w a hM hrs1 (fun x => x < w.heap.size ∧ x ≠ b) hSS (fun t' r x hq hx => hDD t' r x (hrs1 t' r hq) (fun he => hnot (by
              rw [List.mem_append]; right; rw [← hm1]; subst he; exact List.mem_map.2 ⟨_, hq, rfl⟩)) hx) (fun x _ => hS.eval x)
            have hc := hC.calls w b ty u0 i h0 (rest.map a.eval) hM.below.laid (hM.low hrt hDb) hh q0 hi q1
            have hargs : ((x0 :: rest).map a.eval).toArray = (Value.pointer (some ⟨b, 0, none⟩) :: rest.map a.eval).toArray := by rw [List.map_cons, hv0]
            rw [hargs]
            refine hc.mono fun e w' hpost => ?_
            obtain ⟨v, D, rs, i', h', ty', rfl, hQ, hi', hret, hDnew, hK, hh'⟩ := hpost
            have h := h rs i' h' hQ hi'
            obtain ⟨av, u, hput, htok⟩ := tokR_eq h
            -- the world with the cursor moved alone
            let cs' : Array Value := #[u0, .int .i64 i', .int .i64 h']
            let w1 : World := { w with heap := w.heap.set b (.cells cs' ty' (0, 0)) hblt }
            have hw1 : ∀ x, x ≠ b → w1.heap[x]? = w.heap[x]? := fun x hx => Array.getElem?_set_ne hblt (fun e => hx e.symm)
            have hw1b : w1.heap[b]? = some (.cells cs' ty' (0, 0)) := by
              show (w.heap.set b _ hblt)[b]? = _
              simp
            have hs1 : w1.heap.size = w.heap.size := by simp [w1]
            obtain ⟨hM1, ev1⟩ := hM.set (w' := w1) (r' := .box [a0, .pv (.int .i64 i'), .pv (.int .i64 h')]) hrt hDb trivial hw1 hs1 rfl rfl rfl (fun _ => Iff.rfl) (fun _ => Iff.rfl) fun ev => by
              refine ⟨b, ty', [u0, .int .i64 i', .int .i64 h'], hσ, hDb, hw1b, rfl, fun j ac hac => ?_⟩
              match j with
              | 0 => cases hac; exact ⟨u0, rfl, o0, r00.evo ev⟩
              | 1 => cases hac; exact ⟨_, rfl, rfl, .int _ _⟩
              | 2 => cases hac; exact ⟨_, rfl, rfl, .int _ _⟩
            have hsame : ∀ x, x < w.heap.size → w'.heap[x]? = w1.heap[x]? := by
              intro x hx
              by_cases hxb : x = b
              · subst hxb; rw [hh', hw1b]
              · rw [hw1 x hxb]; exact hK.block x hx hxb
            have hsz' : w1.heap.size ≤ w'.heap.size := by rw [hs1]; exact hK.size
            have ev0 : Evo g g w1 w' := ⟨fun _ h => h, fun _ _ => rfl, fun _ h => h, fun x hx => hsame x (hM.sLt x hx), rfl⟩
            have hM0 : Models false w0 g (upd res t (some (.box [a0, .pv (.int .i64 i'), .pv (.int .i64 h')]))) w' := by
              have hs0 := hM1.below.size
              refine ⟨hM1.below.to hK.os hK.tape hK.output hsz' (fun k hk _ => hsame k (by omega)), hM1.sBase, fun x hx => by have := hM1.sLt x hx; omega,
                fun t r hr' => ⟨(hM1.tok t r hr').1, (hM1.tok t r hr').2.evo ev0 (hM1.tok t r hr').1 rfl fun x hx => hsame x (by have := (hM1.dNew t r x hr' hx).2; omega)⟩,
                fun t r x hr' hx => by have := hM1.dNew t r x hr' hx; exact ⟨this.1, by omega⟩, hM1.dApart, hM1.sMut, hM1.sFro⟩
            have hUn : ∀ x, nx ≤ x → x < nx + 1024 → ¬ g.U x := fun x h1 h2 h3 => by have h9 : x < nx := hS.next x h3; omega
            obtain ⟨g1, hM2, ev2, hU2, hr2⟩ := htok false w0 w' g (upd res t (some (.box [a0, .pv (.int .i64 i'), .pv (.int .i64 h')]))) v D hM0 hUn hret fun D' hD' => ⟨fun x hx => by have := hDnew x (hD' x hx); have := hM1.below.size; exact ⟨.inr (by omega), by omega⟩, fun x hx hS => by have := hDnew x (hD' x hx); have := hM1.sLt x hS; omega,
              fun x t r hx hr' hx' => by have := hDnew x (hD' x hx); have := hM1.dNew t r x hr' hx'; omega⟩
            obtain ⟨s2, hK2, hS2⟩ := hS.put hput (w' := w') (g' := g1) hM2 ((ev1.trans ev0).trans ev2) hr2 (fun t ht => by
              rcases hU2 t ht with h1 | h1
              · have h9 : t < nx := hS.next t h1; omega
              · omega)
            exact ⟨v, s2, g1, rfl, hS2, hK2⟩
          · exact h.elim
        · exact h.elim
      · exact h.elim
    · exact h.elim
  · exact h.elim

/-- The same, as an operation of a region: what comes of it is told for all that may be drawn. -/
def kCurO (P : Program) (Γ : TG) (env : Nat → AV) (res : Res) (id : Nat) (f : FuncId) (args : List Operand) (ts : List TypeId) (chk : List Nat → Prop) (K : AV → Upd → List Nat → Prop) : Prop :=
  match args with
  | x0 :: rest => (match opv env x0 with
    | .c (.ptr t 0) => (match res t with
      | some (.box [a0, .pv (.int .i64 i), .pv (.int .i64 h)]) => pvA res a0 fun p r0 => (match p with
        | .sl sz code => argsA Γ env res rest ts fun as rd => (match memT t (r0 ++ rd) with
          | false => chk (t :: (r0 ++ rd)) ∧ (0 ≤ i ∧ ∃ Q, CurC P f sz code as Q ∧ ∀ (rs : List VV) (i' h' : Int), Q rs → 0 ≤ i' → tokR id rs fun v u => K v ((t, some (.box [a0, .pv (.int .i64 i'), .pv (.int .i64 h')])) :: u) (t :: (r0 ++ rd)))
          | true => False)
        | _ => False)
      | _ => False)
    | _ => False)
  | [] => False
def OpC (P : Program) (o : Oper) (env : Nat → AV) (rs : List (Nat × ARes)) (id : Nat) (KK : AV → Upd → Prop) : Prop :=
  ∀ (w0 : Base) (g : G) (res : Res) (w : World) (a : Act), Models false w0 g res w → OpsAt o env g w a → (∀ t r, (t, r) ∈ rs → res t = some r) → (∀ x, id ≤ x → x < id + 1024 → ¬ g.U x) →
    Runs P o a w fun v w' => ∃ val u, KK val u ∧ ∃ g', Models false w0 g' (updL res u) w' ∧ Evo g g' w w' ∧ RepAV g' w' val v ∧ ∀ x, g'.U x → g.U x ∨ (id ≤ x ∧ x < id + 1024)
theorem opC_cur {env : Nat → AV} {res : Res} {id : Nat} {o : Oper} {cx : Operand} {f : FuncId} {args : Array Operand} {tys : Array TypeId} {chk : List Nat → Prop} {K : AV → Upd → List Nat → Prop} (ts : List TypeId) (ho : o.op = .call { callee := .value cx, args := args, argTypes := tys })
    (hcx : opv env cx = .c (.pv (.fn f))) (h : kCurO P Γ env res id f args.toList ts chk K) : ∃ rs : List (Nat × ARes), chk (rs.map Prod.fst) ∧ (∀ t r, (t, r) ∈ rs → res t = some r) ∧ OpC P o env rs id fun v u => K v u (rs.map Prod.fst) := by
  unfold kCurO at h
  split at h
  · rename_i x0 rest hargs0
    split at h
    · rename_i t hx0
      split at h
      · rename_i a0 i h0 hrt
        obtain ⟨p, r0, h, rs0, hrs0, hm0, hrep0⟩ := pvA_eqS h
        split at h
        · rename_i sz code
          obtain ⟨as, rd, h, rs1, hrs1, hm1, hrep1⟩ := argsA_eqS h
          split at h
          · rename_i hmem
            obtain ⟨hchk, hi, Q, hC, h⟩ := h
            have hnot := memT_no hmem
            have hmap : (((t, ARes.box [a0, .pv (.int .i64 i), .pv (.int .i64 h0)]) :: (rs0 ++ rs1)).map Prod.fst) = t :: (r0 ++ rd) := by simp [hm0, hm1]
            refine ⟨(t, .box [a0, .pv (.int .i64 i), .pv (.int .i64 h0)]) :: (rs0 ++ rs1), by rw [hmap]; exact hchk, fun t' r hr => ?_, ?_⟩
            · rcases List.mem_cons.1 hr with hr | hr
              · cases hr; exact hrt
              · rcases List.mem_append.1 hr with hr | hr
                · exact hrs0 t' r hr
                · exact hrs1 t' r hr
            rw [hmap]
            intro w0 g res w a hM hop hres hUn
            have hrt : res t = some (.box [a0, .pv (.int .i64 i), .pv (.int .i64 h0)]) := hres t _ (by simp)
            have hrs0 : ∀ t r, (t, r) ∈ rs0 → res t = some r := fun t r hr => hres t r (by simp [hr])
            have hrs1 : ∀ t r, (t, r) ∈ rs1 → res t = some r := fun t r hr => hres t r (by simp [hr])
            have hopx : ∀ x ∈ x0 :: rest, RepAV g w (opv env x) (a.eval x) := fun x hx => hop x (by
              simp only [ho, Op.operands, Call.operands]
              have : x ∈ args.toList := by rw [hargs0]; exact hx
              simp at this ⊢
              exact .inr this)
            have hcv : a.eval cx = .func (.func f) #[] #[] := by
              have h0 := hop cx (by simp [ho, Op.operands, Call.operands])
              rw [hcx] at h0
              generalize a.eval cx = v at h0
              cases h0
              rfl
            -- the cursor's box
            have hbox := (hM.tok t _ hrt)
            obtain ⟨hU, b, ty, vs, hσ, hDb, hh, hcs⟩ := hbox
            have hp0 : RepAV g w (.c (.ptr t 0)) (a.eval x0) := by rw [← hx0]; exact hopx x0 (List.mem_cons_self ..)
            obtain ⟨_, b', hσ', hv0⟩ : RepPtr g t 0 (a.eval x0) := hp0
            rw [hσ] at hσ'; cases hσ'
            have hl3 : vs.length = 3 := hcs.1
            obtain ⟨u0, u1, u2, rfl⟩ : ∃ u0 u1 u2, vs = [u0, u1, u2] := by
              match vs, hl3 with
              | [u0, u1, u2], _ => exact ⟨_, _, _, rfl⟩
            obtain ⟨c0, e0, o0, r00⟩ := hcs.2 0 a0 rfl
            obtain ⟨c1, e1, o1, r1⟩ := hcs.2 1 _ rfl
            obtain ⟨c2, e2, o2, r2⟩ := hcs.2 2 _ rfl
            simp at e0 e1 e2
            subst e0 e1 e2
            have r1 := rep_int (g := g) (w := w) r1
            have r2 := rep_int (g := g) (w := w) r2
            subst r1 r2
            have hbS : ¬ g.S b := hM.sMut t _ b hrt hDb trivial
            have hblt : b < w.heap.size := blk_lt' hh
            have hSS : ∀ x, g.S x → x < w.heap.size ∧ x ≠ b := fun x hx => ⟨hM.sLt x hx, fun he => hbS (he ▸ hx)⟩
            have hDD : ∀ t' r x, res t' = some r → t' ≠ t → g.D t' x → x < w.heap.size ∧ x ≠ b := fun t' r x hr hn hx => ⟨(hM.dNew t' r x hr hx).2, fun he => hn (hM.dApart t' t r _ x hr hrt hx (he ▸ hDb))⟩
            have q0 := hrep0 false w0 g res w hM hrs0 (fun x => x < w.heap.size ∧ x ≠ b) hSS (fun t' r x hq hx => hDD t' r x (hrs0 t' r hq) (fun he => hnot (by
              rw [List.mem_append]; left; rw [← hm0]; subst he; exact List.mem_map.2 ⟨_, hq, rfl⟩)) hx) u0 r00
            have q1 := hrep1 false w0 g res w a hM hrs1 (fun x => x < w.heap.size ∧ x ≠ b) hSS (fun t' r x hq hx => hDD t' r x (hrs1 t' r hq) (fun he => hnot (by
              rw [List.mem_append]; right; rw [← hm1]; subst he; exact List.mem_map.2 ⟨_, hq, rfl⟩)) hx) (fun x hx => hopx x (List.mem_cons_of_mem _ hx))
            have hc := hC.calls w b ty u0 i h0 (rest.map a.eval) hM.below.laid (hM.low hrt hDb) hh q0 hi q1
            have hargs : (args.toList.map a.eval).toArray = (Value.pointer (some ⟨b, 0, none⟩) :: rest.map a.eval).toArray := by rw [hargs0, List.map_cons, hv0]
            rw [← hargs] at hc
            obtain ⟨fn, hf, hname, hbody⟩ := hC.enter.enter
            have hrun : (execOp a.eval o).run P w = .ok (.enter f (args.toList.map a.eval).toArray) w := by
              have hn : fn.body.isNone = false := by cases hb : fn.body <;> simp_all
              simp only [execOp, ho, resolve, invoke, hcv, Deferred.ofValue, callFunc, Sem.run_bind, Sem.run_pure, Result.andThen_ok, program, Sem.run, hf, hname, hn]
              simp
              apply Array.ext'
              simp
            intro next QQ hnext
            unfold Oper.wp
            rw [hrun, Oper.upon_enter]
            refine hc.mono fun e w' hpost => ?_
            obtain ⟨v, D, rs, i', h', ty', rfl, hQ, hi', hret, hDnew, hK, hh'⟩ := hpost
            refine hnext v w' ?_
            have h := h rs i' h' hQ hi'
            obtain ⟨av, u, hput, htok⟩ := tokR_eq h
            -- the world with the cursor moved alone
            let cs' : Array Value := #[u0, .int .i64 i', .int .i64 h']
            let w1 : World := { w with heap := w.heap.set b (.cells cs' ty' (0, 0)) hblt }
            have hw1 : ∀ x, x ≠ b → w1.heap[x]? = w.heap[x]? := fun x hx => Array.getElem?_set_ne hblt (fun e => hx e.symm)
            have hw1b : w1.heap[b]? = some (.cells cs' ty' (0, 0)) := by
              show (w.heap.set b _ hblt)[b]? = _
              simp
            have hs1 : w1.heap.size = w.heap.size := by simp [w1]
            obtain ⟨hM1, ev1⟩ := hM.set (w' := w1) (r' := .box [a0, .pv (.int .i64 i'), .pv (.int .i64 h')]) hrt hDb trivial hw1 hs1 rfl rfl rfl (fun _ => Iff.rfl) (fun _ => Iff.rfl) fun ev => by
              refine ⟨b, ty', [u0, .int .i64 i', .int .i64 h'], hσ, hDb, hw1b, rfl, fun j ac hac => ?_⟩
              match j with
              | 0 => cases hac; exact ⟨u0, rfl, o0, r00.evo ev⟩
              | 1 => cases hac; exact ⟨_, rfl, rfl, .int _ _⟩
              | 2 => cases hac; exact ⟨_, rfl, rfl, .int _ _⟩
            have hsame : ∀ x, x < w.heap.size → w'.heap[x]? = w1.heap[x]? := by
              intro x hx
              by_cases hxb : x = b
              · subst hxb; rw [hh', hw1b]
              · rw [hw1 x hxb]; exact hK.block x hx hxb
            have hsz' : w1.heap.size ≤ w'.heap.size := by rw [hs1]; exact hK.size
            have ev0 : Evo g g w1 w' := ⟨fun _ h => h, fun _ _ => rfl, fun _ h => h, fun x hx => hsame x (hM.sLt x hx), rfl⟩
            have hM0 : Models false w0 g (upd res t (some (.box [a0, .pv (.int .i64 i'), .pv (.int .i64 h')]))) w' := by
              have hs0 := hM1.below.size
              refine ⟨hM1.below.to hK.os hK.tape hK.output hsz' (fun k hk _ => hsame k (by omega)), hM1.sBase, fun x hx => by have := hM1.sLt x hx; omega,
                fun t r hr' => ⟨(hM1.tok t r hr').1, (hM1.tok t r hr').2.evo ev0 (hM1.tok t r hr').1 rfl fun x hx => hsame x (by have := (hM1.dNew t r x hr' hx).2; omega)⟩,
                fun t r x hr' hx => by have := hM1.dNew t r x hr' hx; exact ⟨this.1, by omega⟩, hM1.dApart, hM1.sMut, hM1.sFro⟩
            obtain ⟨g1, hM2, ev2, hU2, hr2⟩ := htok false w0 w' g (upd res t (some (.box [a0, .pv (.int .i64 i'), .pv (.int .i64 h')]))) v D hM0 hUn hret fun D' hD' => ⟨fun x hx => by have := hDnew x (hD' x hx); have := hM1.below.size; exact ⟨.inr (by omega), by omega⟩, fun x hx hS => by have := hDnew x (hD' x hx); have := hM1.sLt x hS; omega,
              fun x t r hx hr' hx' => by have := hDnew x (hD' x hx); have := hM1.dNew t r x hr' hx'; omega⟩
            exact ⟨av, _, hput, g1, hM2, (ev1.trans ev0).trans ev2, hr2, hU2⟩
          · exact h.elim
        · exact h.elim
      · exact h.elim
    · exact h.elim
  · exact h.elim

/-! ### The contract of a function that draws: its body, interpreted -/
def curR (sz : Nat) (code : List (List PV)) (i h : Int) (t : Nat) : Option ARes :=
  match t with
  | 0 => some (.box [.row 1, .pv (.int .i64 i), .pv (.int .i64 h)])
  | 1 => some (.ro sz code)
  | 2 => some (.env [(0, .c (.ptr 0 0)), (1, .c (.row 1))])
  | _ => none
def curS (sz : Nat) (code : List (List PV)) (i h : Int) (args : List VV) (n : Nat) : AS :=
  ⟨fun t => match t with
    | 0 => .c (.ptr 0 0)
    | t + 1 => initEnv args t, curR sz code i h, 64, n⟩
/-- The cursor, at the end. -/
def endC (res : Res) (X : Prop) : Prop :=
  match res 2 with
  | some (.env l) => (match envL l 0 with
    | .c (.ptr t 0) => (match envL l 1 with
      | .c (.row t1) => (match res t with
        | some (.box [.row t2, .pv (.int .i64 i'), .pv (.int .i64 h')]) => (Nat.beq t2 t1 = true ∧ 0 ≤ i') ∧ X
        | _ => False)
      | _ => False)
    | _ => False)
  | _ => False
theorem endC_eq {res : Res} {X : Prop} (h : endC res X) : X ∧ ∃ l t t1 i' h', res 2 = some (.env l) ∧ envL l 0 = .c (.ptr t 0) ∧ envL l 1 = .c (.row t1) ∧ res t = some (.box [.row t1, .pv (.int .i64 i'), .pv (.int .i64 h')]) ∧ 0 ≤ i' := by
  unfold endC at h
  split at h
  · rename_i l hl
    split at h
    · rename_i t ht
      split at h
      · rename_i t1 ht1
        split at h
        · rename_i t2 i' h' hr
          obtain ⟨⟨hb, hi⟩, hX⟩ := h
          have := Nat.eq_of_beq_eq_true hb
          subst this
          exact ⟨hX, l, t, t2, i', h', hl, ht, ht1, hr, hi⟩
        · exact h.elim
      · exact h.elim
    · exact h.elim
  · exact h.elim
def retC (Γ : TG) (s : AS) (rv : List ResultVar) (rt : List TypeId) (Q : List VV → Prop) : Prop :=
  resA Γ false s rv rt fun vs => vvsR s.res vs fun as ts own => (own = true ∧ nodupB ts = true) ∧ endC s.res (Q as)
theorem curC_of (hΓ : TGOk P Γ) {il : List Nat} {draw : Nat → Array Oper → AS → (AS → Prop) → Prop} (hdraw : DrawOk P Γ false draw) {f : FuncId} {fn : Func} {c : Code} {sz : Nat} {code : List (List PV)} {args : List VV} {Q : List VV → Prop} (hf : P.funcs[f]? = some fn) (hb : fn.body = some c) (hname : (fn.name == "runtime.NumGoroutine") = false)
    {n : Nat} (hnt : fn.ntmps = n) (hn : args.length + 1 ≤ n)
    (h : ∀ i h0 : Int, 0 ≤ i → codeA P Γ false il draw c (curS sz code i h0 args n) fun e s => match e with
      | .exit _ => False
      | _ => retC Γ s fn.results.toList fn.resultTypes.toList Q) : CurC P f sz code args Q := by
  refine ⟨⟨fn, hf, hname, by rw [hb]; rfl⟩, fun w b ty u i h0 vals hq hlow hh hu hi hvals => ?_⟩
  have h := h i h0 hi
  refine calls_of_wp hf hb ?_
  have hblt : b < w.heap.size := blk_lt' hh
  let F : Nat → Value := fun k => match k with
    | 0 => .pointer (some ⟨b, 0, none⟩)
    | 1 => u
    | _ => undef
  let w0 : Base := ⟨w, fun x => x = b, fun _ => none, fun _ _ h => (by cases h), fun t => match t with
    | 2 => some F
    | _ => none, hq, fun x hx => hx ▸ hlow⟩
  let g0 : G := ⟨fun t => match t with
    | 0 => .pointer (some ⟨b, 0, none⟩)
    | 1 => u
    | _ => undef, fun t x => t = 0 ∧ x = b, fun x => x < w.heap.size ∧ x ≠ b, fun t => t < 64, fun t => match t with
    | 2 => F
    | _ => fun _ => undef⟩
  have huo : u.oneCell' = true := hu.one
  have hM : Models false w0 g0 (curR sz code i h0) w := by
    refine ⟨⟨rfl, rfl, rfl, Nat.le_refl _, fun _ _ _ => rfl⟩, fun x hx hE => ⟨hx, hE⟩, fun _ h => h.1, ?_, ?_, ?_, ?_, ?_⟩
    · intro t r hr
      match t with
      | 0 =>
        cases hr
        refine ⟨(by decide : 0 < 64), b, ty, [u, .int .i64 i, .int .i64 h0], rfl, ⟨rfl, rfl⟩, hh, rfl, fun j ac hac => ?_⟩
        match j with
        | 0 => cases hac; exact ⟨u, rfl, huo, (by decide : 1 < 64), rfl, huo⟩
        | 1 => cases hac; exact ⟨_, rfl, rfl, .int _ _⟩
        | 2 => cases hac; exact ⟨_, rfl, rfl, .int _ _⟩
      | 1 => cases hr; exact ⟨(by decide : 1 < 64), hu⟩
      | 2 =>
        cases hr
        refine ⟨(by decide : 2 < 64), fun k v hk => ?_⟩
        rcases List.mem_cons.1 hk with hk | hk
        · cases hk
          exact ⟨(by decide : 0 < 64), b, rfl, rfl⟩
        · rcases List.mem_cons.1 hk with hk | hk
          · cases hk
            exact ⟨(by decide : 1 < 64), rfl, huo⟩
          · cases hk
      | t + 3 => cases hr
    · rintro t r x hr ⟨rfl, rfl⟩
      exact ⟨.inl rfl, hblt⟩
    · rintro t t' r r' x _ _ ⟨rfl, _⟩ ⟨rfl, _⟩
      rfl
    · rintro t r x hr ⟨rfl, rfl⟩ _ hS
      exact hS.2 rfl
    · rintro _ t r x hr ⟨rfl, rfl⟩ hm
      cases hr
      exact absurd trivial hm
  subst hnt
  have hS : Sim false w0 (curS sz code i h0 args fn.ntmps) g0 w { tmps := (Value.pointer (some ⟨b, 0, none⟩) :: vals).toArray ++ Array.replicate (fn.ntmps - (Value.pointer (some ⟨b, 0, none⟩) :: vals).toArray.size) undef, defers := [] } := by
    refine ⟨hM, fun t => ?_, ?_, rfl, fun x h => h, fun h => (by cases h), fun t F' h => ?_⟩
    · rw [argTmps]
      match t with
      | 0 => exact ⟨(by decide : 0 < 64), b, rfl, rfl⟩
      | t + 1 =>
        show RepAV g0 w (initEnv args t) _
        unfold initEnv
        rw [nth_eq]
        cases ha : args[t]? with
        | none =>
          have ht : args.length ≤ t := by
            rcases Nat.lt_or_ge t args.length with h1 | h1
            · rw [List.getElem?_eq_getElem h1] at ha; cases ha
            · exact h1
          rw [List.getD_eq_getElem?_getD, List.getElem?_eq_none (by simp; rw [hvals.1]; omega)]
          rfl
        | some q =>
          obtain ⟨x, hx, hr⟩ := hvals.2 t q ha
          have he : (Value.pointer (some ⟨b, 0, none⟩) :: vals).getD (t + 1) undef = x := by rw [List.getD_eq_getElem?_getD, List.getElem?_cons_succ, hx]; rfl
          rw [he]
          cases q with
          | one p => exact rav hr
          | agg ps =>
            obtain ⟨vs, rfl, hl, hp⟩ := hr
            exact ⟨vs, rfl, repCs_pvs hl hp⟩
          | ptr c => exact hr
          | clo f caps => exact hr
    · have := hvals.1
      simp [curS]; omega
    · match t with
      | 2 => cases h; rfl
      | 0 => cases h
      | 1 => cases h
      | t + 3 => cases h
  refine codeA_sound hΓ hdraw c h hS fun e s g w' a hS' hK => ?_
  have key : retC Γ s fn.results.toList fn.resultTypes.toList Q → a.defers = [] ∧ ∃ v, (results fn a.tmps).run P w' = .ok v w' ∧ ∃ v' D rs i' h' ty', Ending.returned v = Ending.returned v' ∧ Q rs ∧ 0 ≤ i' ∧ RetOk w' D rs v' ∧
      (∀ x, D x → w.heap.size ≤ x ∧ x < w'.heap.size) ∧ Kept (fun x => x = b) w w' ∧ w'.heap[b]? = some (.cells #[u, .int .i64 i', .int .i64 h'] ty' (0, 0)) := by
    intro hret
    obtain ⟨vs, h1, hvl, hrun⟩ := resA_eq hΓ hret
    obtain ⟨as, ts, own, ⟨⟨ho, hnd⟩, hend⟩, hal, hmem, hown⟩ := vvsR_eq h1
    obtain ⟨hQ, l, t, t1, i', h', hl, hl0, hl1, hrt, hi'⟩ := endC_eq hend
    obtain ⟨us, hul, hr, hrep⟩ := hrun w0 g w' a hS'
    have hM' := hS'.mod
    obtain ⟨Ds, hD1, hD2, hD3⟩ := hown ho (nodupB_ok hnd) w0 g w' hM' us (by rw [hul, hvl]) hrep
    have hfr : g.fr 2 = F := hS'.pinF 2 F rfl
    have htk := (hM'.tok 2 _ hl).2
    have hmemL : ∀ k v, envL l k = v → v ≠ .c .undef → RepAV g w' v (F k) := by
      intro k v hv hne
      rcases envL_mem (l := l) (t := k) with h | h
      · exact absurd (hv.symm.trans h) hne
      · rw [hv] at h
        have := htk k v h
        rwa [hfr] at this
    have hp : RepPtr g t 0 (F 0) := hmemL 0 _ hl0 (by simp)
    have hrow : g.U t1 ∧ F 1 = g.σ t1 ∧ (F 1).oneCell' = true := hmemL 1 _ hl1 (by simp)
    obtain ⟨_, b2, hσ, hF0⟩ := hp
    have hF0 : (Value.pointer (some ⟨b, 0, none⟩)) = .pointer (some ⟨b2, 0, none⟩) := hF0
    cases hF0
    obtain ⟨hUt, b3, ty', vs3, hσ3, hDb, hh3, hcs⟩ := hM'.tok t _ hrt
    rw [hσ] at hσ3; cases hσ3
    have hl3 : vs3.length = 3 := hcs.1
    obtain ⟨u0, u1, u2, rfl⟩ : ∃ u0 u1 u2, vs3 = [u0, u1, u2] := by
      match vs3, hl3 with
      | [u0, u1, u2], _ => exact ⟨_, _, _, rfl⟩
    obtain ⟨c0, e0, o0, r0⟩ := hcs.2 0 _ rfl
    obtain ⟨c1, e1, o1, r1⟩ := hcs.2 1 _ rfl
    obtain ⟨c2, e2, o2, r2⟩ := hcs.2 2 _ rfl
    simp at e0 e1 e2
    subst e0 e1 e2
    have r1 := rep_int (g := g) (w := w') r1
    have r2 := rep_int (g := g) (w := w') r2
    have r0 : g.U t1 ∧ u0 = g.σ t1 ∧ u0.oneCell' = true := r0
    have hu0 : u0 = u := r0.2.1.trans hrow.2.1.symm
    subst r1 r2 hu0
    refine ⟨hS'.defers, retVal us, results_run hr, retVal us, g.free s.res ts, as, i', h', ty', rfl, hQ, hi', ⟨us, rfl, by rw [hul, hal, hvl], Ds, hD1, hD2, hD3⟩, ?_, ⟨hM'.below.os, hM'.below.tape, hM'.below.output, hM'.below.size, fun k hk hE => hM'.below.block k hk hE⟩, hh3⟩
    rintro x ⟨t', r, ht', hr', hx⟩
    have h9 := hM'.dNew t' r x hr' hx
    refine ⟨h9.1.resolve_left fun hE => ?_, h9.2⟩
    have hE : x = b := hE
    subst hE
    have := hM'.dApart t' t r _ x hr' hrt hx hDb
    subst this
    exact absurd hrt (hmem t' ht' _)
  cases e with
  | normal => exact key hK
  | ret => exact key hK
  | exit i => exact hK.elim
end

/-! ### What is drawn from bytes: a function whose result has a property -/
structure NdC (P : Program) (f : FuncId) (args : List VV) (Q : List VV → Prop) : Prop where
  enter : Enters P f
  calls : ∀ (w : World) (vals : List Value), Laid w → RepVs w (fun x => x < w.heap.size) args vals → Calls P f vals.toArray w fun e w' =>
    ∃ v D rs, e = .returned v ∧ Q rs ∧ RetOk w' D rs v ∧ (∀ x, D x → w.heap.size ≤ x ∧ x < w'.heap.size) ∧ Below w.heap.size w w'
def kNd (P : Program) (Γ : TG) (env : Nat → AV) (res : Res) (nx n : Nat) (f : FuncId) (args : List Operand) (ts : List TypeId) (dst : Option Tmp) (K : AS → Prop) : Prop :=
  argsA Γ env res args ts fun as rd => ∃ Q, NdC P f as Q ∧ ∀ rs : List VV, Q rs → tokR nx rs fun v u => putA ⟨env, res, nx, n⟩ dst v u (nx + 1024) K
theorem nd_i {P : Program} {f : FuncId} {as : List VV} {Q : List VV → Prop} {X : List VV → Prop} (hC : NdC P f as Q) (k : ∀ (rs : List VV), Q rs → X rs) : ∃ Q, NdC P f as Q ∧ ∀ rs : List VV, Q rs → X rs := ⟨Q, hC, k⟩
section
variable {P : Program} {Γ : TG}
theorem inl_nd {dm : Bool} {env : Nat → AV} {res : Res} {nx n : Nat} {f : FuncId} {args : List Operand} {dst : Option Tmp} {K : AS → Prop} (ts : List TypeId) (h : kNd P Γ env res nx n f args ts dst K) : InlA P dm env res nx n f args dst K := by
  obtain ⟨as, rd, ⟨Q, hC, h⟩, rs1, hrs1, hm1, hrep1⟩ := argsA_eq h
  refine ⟨hC.enter, fun w0 g w a hS => ?_⟩
  have hM := hS.mod
  have q1 := hrep1 dm w0 g res w a hM hrs1 (fun x _ => hS.eval x)
  refine (hC.calls w _ hM.below.laid q1).mono fun e w' hpost => ?_
  obtain ⟨v, D, rs, rfl, hQ, hret, hDnew, hB⟩ := hpost
  obtain ⟨av, u, hput, htok⟩ := tokR_eq (h rs hQ)
  have hSz := hB.size
  have hsame : ∀ x, x < w.heap.size → w'.heap[x]? = w.heap[x]? := fun x hx => hB.block x hx
  have ev0 : Evo g g w w' := ⟨fun _ h => h, fun _ _ => rfl, fun _ h => h, fun x hx => hsame x (hM.sLt x hx), rfl⟩
  have hM0 : Models dm w0 g res w' := by
    have hs0 := hM.below.size
    refine ⟨hM.below.to hB.os hB.tape hB.output hB.size (fun k hk _ => hB.block k (by omega)), hM.sBase, fun x hx => by have := hM.sLt x hx; omega, fun t r hr' => ⟨(hM.tok t r hr').1, (hM.tok t r hr').2.evo ev0 (hM.tok t r hr').1 rfl fun x hx => hsame x (hM.dNew t r x hr' hx).2⟩, fun t r x hr' hx => by have := hM.dNew t r x hr' hx; exact ⟨this.1, by omega⟩, hM.dApart, hM.sMut, hM.sFro⟩
  have hUn : ∀ x, nx ≤ x → x < nx + 1024 → ¬ g.U x := fun x h1 h2 h3 => by have h9 : x < nx := hS.next x h3; omega
  obtain ⟨g1, hM2, ev2, hU2, hr2⟩ := htok dm w0 w' g res v D hM0 hUn hret fun D' hD' => ⟨fun x hx => by have := hDnew x (hD' x hx); have := hM.below.size; exact ⟨.inr (by omega), by omega⟩, fun x hx hS => by have := hDnew x (hD' x hx); have := hM.sLt x hS; omega,
    fun x t r hx hr' hx' => by have := hDnew x (hD' x hx); have := hM.dNew t r x hr' hx'; omega⟩
  obtain ⟨s2, hK2, hS2⟩ := hS.put hput (w' := w') (g' := g1) hM2 (ev0.trans ev2) hr2 (fun t ht => by
    rcases hU2 t ht with h1 | h1
    · have h9 : t < nx := hS.next t h1; omega
    · omega)
  exact ⟨v, s2, g1, rfl, hS2, hK2⟩
def retN (Γ : TG) (s : AS) (rv : List ResultVar) (rt : List TypeId) (Q : List VV → Prop) : Prop :=
  resA Γ false s rv rt fun vs => vvsR s.res vs fun as ts own => (own = true ∧ nodupB ts = true) ∧ Q as
theorem ndC_of (hΓ : TGOk P Γ) {il : List Nat} {draw : Nat → Array Oper → AS → (AS → Prop) → Prop} (hdraw : DrawOk P Γ false draw) {f : FuncId} {fn : Func} {c : Code} {args : List VV} {Q : List VV → Prop} (hf : P.funcs[f]? = some fn) (hb : fn.body = some c) (hname : (fn.name == "runtime.NumGoroutine") = false)
    {n : Nat} (hnt : fn.ntmps = n) (hn : args.length ≤ n)
    (h : codeA P Γ false il draw c (initS args n) fun e s => match e with
      | .exit _ => False
      | _ => retN Γ s fn.results.toList fn.resultTypes.toList Q) : NdC P f args Q := by
  refine ⟨⟨fn, hf, hname, by rw [hb]; rfl⟩, fun w vals hq hvals => ?_⟩
  refine calls_of_wp hf hb ?_
  let g0 : G := ⟨fun _ => undef, fun _ _ => False, fun x => x < w.heap.size, fun _ => False, fun _ _ => undef⟩
  have hM : Models false (Base.of w hq) g0 (fun _ => none) w := by
    refine ⟨⟨rfl, rfl, rfl, Nat.le_refl _, fun _ _ _ => rfl⟩, fun _ h _ => h, fun _ h => h, ?_, ?_, ?_, ?_, ?_⟩
    · intro t r h; simp at h
    · intro t r x h; simp at h
    · intro t t' r r' x h; simp at h
    · intro t r x h; simp at h
    · intro _ t r x h; simp at h
  subst hnt
  have hS : Sim false (Base.of w hq) (initS args fn.ntmps) g0 w { tmps := vals.toArray ++ Array.replicate (fn.ntmps - vals.toArray.size) undef, defers := [] } := by
    refine ⟨hM, fun t => ?_, by simp [initS, hvals.1]; omega, rfl, fun x h => h.elim, fun h => (by cases h), fun t F h => by cases h⟩
    show RepAV g0 w (initEnv args t) _
    unfold initEnv
    rw [nth_eq]
    cases ha : args[t]? with
    | none =>
      show _ = undef
      have hl := hvals.1
      have ht : args.length ≤ t := by
        rcases Nat.lt_or_ge t args.length with h1 | h1
        · rw [List.getElem?_eq_getElem h1] at ha; cases ha
        · exact h1
      rw [Array.getD_eq_getD_getElem?, Array.getElem?_append, if_neg (by simp; omega), Array.getElem?_replicate]
      split <;> rfl
    | some a =>
      obtain ⟨u, hu, hr⟩ := hvals.2 t a ha
      have hv : (vals.toArray ++ Array.replicate (fn.ntmps - vals.toArray.size) undef).getD t undef = u := by
        rw [Array.getD_eq_getD_getElem?, Array.getElem?_append, if_pos (by simpa using (List.getElem?_eq_some_iff.1 hu).1)]
        simp [hu]
      rw [hv]
      cases a with
      | one p => exact rav hr
      | agg ps =>
        obtain ⟨vs, rfl, hl, hp⟩ := hr
        exact ⟨vs, rfl, repCs_pvs hl hp⟩
      | ptr c => exact hr
      | clo f caps => exact hr
  refine codeA_sound hΓ hdraw c h hS fun e s g w' a hS' hK => ?_
  have key : retN Γ s fn.results.toList fn.resultTypes.toList Q → a.defers = [] ∧ ∃ v, (results fn a.tmps).run P w' = .ok v w' ∧ ∃ v' D rs, Ending.returned v = Ending.returned v' ∧ Q rs ∧ RetOk w' D rs v' ∧ (∀ x, D x → w.heap.size ≤ x ∧ x < w'.heap.size) ∧ Below w.heap.size w w' := by
    intro hret
    obtain ⟨vs, h1, hvl, hrun⟩ := resA_eq hΓ hret
    obtain ⟨as, ts, own, ⟨⟨ho, hnd⟩, hQ⟩, hal, hmem, hown⟩ := vvsR_eq h1
    obtain ⟨us, hul, hr, hrep⟩ := hrun (Base.of w hq) g w' a hS'
    obtain ⟨Ds, hD1, hD2, hD3⟩ := hown ho (nodupB_ok hnd) (Base.of w hq) g w' hS'.mod us (by rw [hul, hvl]) hrep
    refine ⟨hS'.defers, retVal us, results_run hr, retVal us, g.free s.res ts, as, rfl, hQ, ⟨us, rfl, by rw [hul, hal, hvl], Ds, hD1, hD2, hD3⟩, ?_, ⟨hS'.mod.below.os, hS'.mod.below.tape, hS'.mod.below.output, hS'.mod.below.size, fun k hk => hS'.mod.below.block k hk fun h => h⟩⟩
    rintro x ⟨t, r, _, hr, hx⟩
    have := hS'.mod.dNew t r x hr hx
    exact ⟨this.1.resolve_left fun h => h, this.2⟩
  cases e with
  | normal => exact key hK
  | ret => exact key hK
  | exit i => exact hK.elim
/-- Results that may share memory: all of it is new or the caller's, and is read alone. -/
structure NdF (P : Program) (f : FuncId) (args : List VV) (Q : List VV → Prop) : Prop where
  enter : Enters P f
  calls : ∀ (w : World) (vals : List Value), Laid w → RepVs w (fun x => x < w.heap.size) args vals → Calls P f vals.toArray w fun e w' =>
    ∃ us rs, e = .returned (retVal us) ∧ Q rs ∧ RepVs w' (fun x => x < w'.heap.size) rs us ∧ Below w.heap.size w w'
def vvsA (res : Res) : List AV → (List VV → Prop) → Prop
  | [], K => K []
  | v :: l, K => vvA res v fun a _ => vvsA res l fun as => K (a :: as)
theorem vvsA_eq {res : Res} : ∀ {l : List AV} {K : List VV → Prop}, vvsA res l K → ∃ as, K as ∧ as.length = l.length ∧ ∀ (w0 : Base) (g : G) (w : World), Models false w0 g res w → ∀ us : List Value, us.length = l.length → (∀ (i : Nat) v, l[i]? = some v → ∃ u, us[i]? = some u ∧ RepAV g w v u) → RepVs w (fun x => x < w.heap.size) as us
  | [], K, h => ⟨_, h, rfl, fun _ _ _ _ us hl _ => ⟨hl, by simp⟩⟩
  | v :: l, K, h => by
    simp only [vvsA] at h
    obtain ⟨a, ts, h, rs, hrs, hm, hrep⟩ := vvA_eqS h
    obtain ⟨as, hK, hl, hr⟩ := vvsA_eq h
    refine ⟨_, hK, by simp [hl], fun w0 g w hM us hlen hus => ?_⟩
    cases us with
    | nil => simp at hlen
    | cons u us =>
      obtain ⟨hu1, hu2⟩ := hr w0 g w hM us (by simpa using hlen) (fun i v hv => by simpa using hus (i + 1) v (by simpa using hv))
      refine ⟨by simp [hu1], fun j b hb => ?_⟩
      cases j with
      | zero =>
        simp at hb
        subst hb
        obtain ⟨u', hu', hr'⟩ := hus 0 v rfl
        simp at hu'
        subst hu'
        exact ⟨u, rfl, hrep false w0 g res w hM hrs _ hM.sLt (fun t r x hq hx => (hM.dNew t r x (hrs t r hq) hx).2) u hr'⟩
      | succ j => simpa using hu2 j b (by simpa using hb)
def retF (Γ : TG) (s : AS) (rv : List ResultVar) (rt : List TypeId) (Q : List VV → Prop) : Prop := resA Γ false s rv rt fun vs => vvsA s.res vs Q
theorem ndF_of (hΓ : TGOk P Γ) {il : List Nat} {draw : Nat → Array Oper → AS → (AS → Prop) → Prop} (hdraw : DrawOk P Γ false draw) {f : FuncId} {fn : Func} {c : Code} {args : List VV} {Q : List VV → Prop} (hf : P.funcs[f]? = some fn) (hb : fn.body = some c) (hname : (fn.name == "runtime.NumGoroutine") = false)
    {n : Nat} (hnt : fn.ntmps = n) (hn : args.length ≤ n)
    (h : codeA P Γ false il draw c (initS args n) fun e s => match e with
      | .exit _ => False
      | _ => retF Γ s fn.results.toList fn.resultTypes.toList Q) : NdF P f args Q := by
  refine ⟨⟨fn, hf, hname, by rw [hb]; rfl⟩, fun w vals hq hvals => ?_⟩
  refine calls_of_wp hf hb ?_
  let g0 : G := ⟨fun _ => undef, fun _ _ => False, fun x => x < w.heap.size, fun _ => False, fun _ _ => undef⟩
  have hM : Models false (Base.of w hq) g0 (fun _ => none) w := by
    refine ⟨⟨rfl, rfl, rfl, Nat.le_refl _, fun _ _ _ => rfl⟩, fun _ h _ => h, fun _ h => h, ?_, ?_, ?_, ?_, ?_⟩
    · intro t r h; simp at h
    · intro t r x h; simp at h
    · intro t t' r r' x h; simp at h
    · intro t r x h; simp at h
    · intro _ t r x h; simp at h
  subst hnt
  have hS : Sim false (Base.of w hq) (initS args fn.ntmps) g0 w { tmps := vals.toArray ++ Array.replicate (fn.ntmps - vals.toArray.size) undef, defers := [] } := by
    refine ⟨hM, fun t => ?_, by simp [initS, hvals.1]; omega, rfl, fun x h => h.elim, fun h => (by cases h), fun t F h => by cases h⟩
    show RepAV g0 w (initEnv args t) _
    unfold initEnv
    rw [nth_eq]
    cases ha : args[t]? with
    | none =>
      show _ = undef
      have hl := hvals.1
      have ht : args.length ≤ t := by
        rcases Nat.lt_or_ge t args.length with h1 | h1
        · rw [List.getElem?_eq_getElem h1] at ha; cases ha
        · exact h1
      rw [Array.getD_eq_getD_getElem?, Array.getElem?_append, if_neg (by simp; omega), Array.getElem?_replicate]
      split <;> rfl
    | some a =>
      obtain ⟨u, hu, hr⟩ := hvals.2 t a ha
      have hv : (vals.toArray ++ Array.replicate (fn.ntmps - vals.toArray.size) undef).getD t undef = u := by
        rw [Array.getD_eq_getD_getElem?, Array.getElem?_append, if_pos (by simpa using (List.getElem?_eq_some_iff.1 hu).1)]
        simp [hu]
      rw [hv]
      cases a with
      | one p => exact rav hr
      | agg ps =>
        obtain ⟨vs, rfl, hl, hp⟩ := hr
        exact ⟨vs, rfl, repCs_pvs hl hp⟩
      | ptr c => exact hr
      | clo f caps => exact hr
  refine codeA_sound hΓ hdraw c h hS fun e s g w' a hS' hK => ?_
  have key : retF Γ s fn.results.toList fn.resultTypes.toList Q → a.defers = [] ∧ ∃ v, (results fn a.tmps).run P w' = .ok v w' ∧ ∃ us rs, Ending.returned v = Ending.returned (retVal us) ∧ Q rs ∧ RepVs w' (fun x => x < w'.heap.size) rs us ∧ Below w.heap.size w w' := by
    intro hret
    obtain ⟨vs, h1, hvl, hrun⟩ := resA_eq hΓ hret
    obtain ⟨as, hQ, hal, hrep⟩ := vvsA_eq h1
    obtain ⟨us, hul, hr, hr2⟩ := hrun (Base.of w hq) g w' a hS'
    exact ⟨hS'.defers, retVal us, results_run hr, us, as, rfl, hQ, hrep (Base.of w hq) g w' hS'.mod us (by rw [hul, hvl]) hr2, ⟨hS'.mod.below.os, hS'.mod.below.tape, hS'.mod.below.output, hS'.mod.below.size, fun k hk => hS'.mod.below.block k hk fun h => h⟩⟩
  cases e with
  | normal => exact key hK
  | ret => exact key hK
  | exit i => exact hK.elim
def frA : List VV → (List AV → Prop) → Prop
  | [], K => K []
  | .one p :: l, K => frA l fun vs => K (.c (.pv p) :: vs)
  | .agg ps :: l, K => frA l fun vs => K (.agg (ps.map .pv) :: vs)
  | _ :: _, _ => False
theorem frA_eq : ∀ {rs : List VV} {K : List AV → Prop}, frA rs K → ∃ vs, K vs ∧ vs.length = rs.length ∧ ∀ (g : G) (w : World) (us : List Value), RepVs w g.S rs us → ∀ (i : Nat) v, vs[i]? = some v → ∃ u, us[i]? = some u ∧ RepA1 g w v u
  | [], K, h => ⟨[], h, rfl, fun _ _ _ _ _ _ hv => by simp at hv⟩
  | r :: rs, K, h => by
    have step : ∀ v : AV, (∀ (g : G) (w : World) (u : Value), RepVV w g.S r u → RepA1 g w v u) → frA rs (fun vs => K (v :: vs)) → ∃ vs, K vs ∧ vs.length = (r :: rs).length ∧ ∀ (g : G) (w : World) (us : List Value), RepVs w g.S (r :: rs) us → ∀ (i : Nat) v, vs[i]? = some v → ∃ u, us[i]? = some u ∧ RepA1 g w v u := by
      intro v hv h
      obtain ⟨vs, hK, hl, hr⟩ := frA_eq h
      refine ⟨v :: vs, hK, by simp [hl], fun g w us hus i x hx => ?_⟩
      cases us with
      | nil => have := hus.1; simp at this
      | cons u us =>
        cases i with
        | zero =>
          simp at hx
          subst hx
          obtain ⟨u', hu', h2⟩ := hus.2 0 r rfl
          simp at hu'
          subst hu'
          exact ⟨u, rfl, hv g w u h2⟩
        | succ i => simpa using hr g w us ⟨by have := hus.1; simpa using this, fun j a ha => by simpa using hus.2 (j + 1) a (by simpa using ha)⟩ i x (by simpa using hx)
    cases r with
    | one p => exact step (.c (.pv p)) (fun g w u hu => rav hu) h
    | agg ps => exact step (.agg (ps.map .pv)) (fun g w u hu => by
        obtain ⟨vs, rfl, hl, hp⟩ := hu
        exact ⟨vs, rfl, repCs_pvs hl hp⟩) h
    | ptr c => exact h.elim
    | clo f caps => exact h.elim
/-- A call of such a function, while nothing is owned. -/
def kNdF (P : Program) (Γ : TG) (env : Nat → AV) (res : Res) (nx n : Nat) (f : FuncId) (args : List Operand) (ts : List TypeId) (dst : Option Tmp) (K : AS → Prop) : Prop :=
  argsA Γ env res args ts fun as rd => ∃ Q, NdF P f as Q ∧ ∀ rs : List VV, Q rs → Nat.blt 1 rs.length = true ∧ frA rs fun vs => putA ⟨env, res, nx, n⟩ dst (.tup vs) [] (nx + 1024) K
theorem ndf_i {P : Program} {f : FuncId} {as : List VV} {Q : List VV → Prop} {X : List VV → Prop} (hC : NdF P f as Q) (k : ∀ (rs : List VV), Q rs → X rs) : ∃ Q, NdF P f as Q ∧ ∀ rs : List VV, Q rs → X rs := ⟨Q, hC, k⟩
theorem inl_ndF {env : Nat → AV} {res : Res} {nx n : Nat} {f : FuncId} {args : List Operand} {dst : Option Tmp} {K : AS → Prop} (ts : List TypeId) (hres : res = fun _ => none) (h : kNdF P Γ env res nx n f args ts dst K) : InlA P false env res nx n f args dst K := by
  obtain ⟨as, rd, ⟨Q, hC, h⟩, rs1, hrs1, hm1, hrep1⟩ := argsA_eq h
  refine ⟨hC.enter, fun w0 g w a hS => ?_⟩
  have hM := hS.mod
  have q1 := hrep1 false w0 g res w a hM hrs1 (fun x _ => hS.eval x)
  refine (hC.calls w _ hM.below.laid q1).mono fun e w' hpost => ?_
  obtain ⟨us, rs, rfl, hQ, hret, hB⟩ := hpost
  obtain ⟨hlen, hfr⟩ := h rs hQ
  obtain ⟨vs, hput, hvl, hrep⟩ := frA_eq hfr
  have hn : ∀ t, res t = none := fun t => by rw [hres]
  let g1 : G := { g with S := fun x => x < w'.heap.size }
  have hSz := hB.size
  have hM2 : Models false w0 g1 (updL res []) w' := by
    have hs0 := hM.below.size
    have hn2 : ∀ t, updL res [] t = none := fun t => hn t
    refine ⟨hM.below.to hB.os hB.tape hB.output hB.size (fun k hk _ => hB.block k (by omega)), fun x hx hE => by show x < w'.heap.size; omega, fun x hx => hx, ?_, ?_, ?_, ?_, ?_⟩
    · intro t r hr; rw [hn2] at hr; cases hr
    · intro t r x hr; rw [hn2] at hr; cases hr
    · intro t t' r r' x hr; rw [hn2] at hr; cases hr
    · intro t r x hr; rw [hn2] at hr; cases hr
    · intro _ t r x hr; rw [hn2] at hr; cases hr
  have ev : Evo g g1 w w' := ⟨fun _ h => h, fun _ _ => rfl, fun x hx => by show x < w'.heap.size; have := hM.sLt x hx; omega, fun x hx => hB.block x (hM.sLt x hx), rfl⟩
  have hv : RepAV g1 w' (.tup vs) (retVal us) := by
    refine ⟨us, ?_, by rw [hret.1, hvl], fun j v hj => hrep g1 w' us hret j v hj⟩
    have h1 : 1 < us.length := by rw [hret.1]; unfold Nat.blt at hlen; exact Nat.le_of_ble_eq_true hlen
    unfold retVal
    split
    · simp at h1
    · rfl
  obtain ⟨s2, hK2, hS2⟩ := hS.put hput (w' := w') (g' := g1) hM2 ev hv (fun t ht => by have h9 : t < nx := hS.next t ht; omega)
  exact ⟨_, s2, g1, rfl, hS2, hK2⟩
end
theorem le_refl {dm : Bool} {s : AS} : Le dm s s := fun w0 g w a h => ⟨g, h⟩
theorem cur_leaf {a b c : Bool} {i : Int} {X : Prop} (ha : a = true) (hb : b = true) (hc : c = true) (hi : 0 ≤ i) (h : X) : (a = true ∧ b = true) ∧ ((c = true ∧ 0 ≤ i) ∧ X) := ⟨⟨ha, hb⟩, ⟨hc, hi⟩, h⟩
end Go.Vi
