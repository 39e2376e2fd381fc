/- Operation by operation: memory. -/
import Derived.Test.YtnpcgheojijpjaaViE
set_option linter.unusedVariables false
set_option linter.unusedSimpArgs false
namespace Go.Vi
open Go.RowKit
section
variable {P : Program} {Γ : TG} {dm : Bool} {o : Oper} {env : Nat → AV} {res : Res} {id : Nat} {K : KT}
theorem repCs_take {g : G} {w : World} {cs : List AC} {vs : List Value} (h : RepCs g w cs vs) (n : Nat) : RepCs g w (cs.take n) (vs.take n) := by
  refine ⟨by simp [h.1], fun j a ha => ?_⟩
  rw [List.getElem?_take] at ha
  split at ha
  · rename_i hj
    obtain ⟨u, hu, h1, hr⟩ := h.2 j a ha
    exact ⟨u, by rw [List.getElem?_take, if_pos hj]; exact hu, h1, hr⟩
  · cases ha
theorem repCs_drop {g : G} {w : World} {cs : List AC} {vs : List Value} (h : RepCs g w cs vs) (n : Nat) : RepCs g w (cs.drop n) (vs.drop n) := by
  refine ⟨by simp [h.1], fun j a ha => ?_⟩
  rw [List.getElem?_drop] at ha
  obtain ⟨u, hu, h1, hr⟩ := h.2 (n + j) a ha
  exact ⟨u, by rw [List.getElem?_drop]; exact hu, h1, hr⟩
theorem repCs_append {g : G} {w : World} {cs cs' : List AC} {vs vs' : List Value} (h : RepCs g w cs vs) (h' : RepCs g w cs' vs') : RepCs g w (cs ++ cs') (vs ++ vs') := by
  refine ⟨by simp [h.1, h'.1], fun j a ha => ?_⟩
  rw [List.getElem?_append] at ha
  split at ha
  · rename_i hj
    obtain ⟨u, hu, h1, hr⟩ := h.2 j a ha
    exact ⟨u, by rw [List.getElem?_append, if_pos (by rw [h.1]; exact hj)]; exact hu, h1, hr⟩
  · rename_i hj
    obtain ⟨u, hu, h1, hr⟩ := h'.2 (j - cs.length) a ha
    exact ⟨u, by rw [List.getElem?_append, if_neg (by rw [h.1]; exact hj), h.1]; exact hu, h1, hr⟩
theorem zero_repCs {g : G} {w : World} {cs : List AC} (h : ∀ a ∈ cs, zeroC a = true) : RepCs g w cs (cs.map zeroVal) := by
  refine ⟨by simp, fun j a ha => ⟨zeroVal a, by simp [ha], ?_⟩⟩
  have := zero_rep (g := g) (w := w) (h a (List.mem_of_getElem? ha))
  exact ⟨this.2, this.1⟩
/-- A new struct variable. -/
theorem good_new {cs : List AC} (hK : K (.c (.ptr id 0)) [(id, some (.box cs))] [])
    (hrun : ∀ (g : G) (w : World) (a : Act), OpsAt o env g w a → ∃ (vs : List Value) (ty : TypeId), (execOp a.eval o).run P w = .ok (.value (.pointer (some ⟨w.heap.size, 0, none⟩))) (w.alloc (.cells vs.toArray ty (0, 0))) ∧ RepCs g w cs vs) :
    Good P dm o env res id K := by
  refine ⟨_, _, [], fun w0 g res w a hM hop _ hid => ?_, by simp, by simpa using hK⟩
  obtain ⟨vs, ty, hr, hcs⟩ := hrun g w a hop
  obtain ⟨hM', e⟩ := hM.alloc (t := id) (hid id (Nat.le_refl _) (by omega)) (.cells vs.toArray ty (0, 0)) (.pointer (some ⟨w.heap.size, 0, none⟩)) (.box cs) Free.none trivial (fun _ h => h.elim)
    (fun e => by
      refine ⟨w.heap.size, ty, vs, upd_same _ _ _, ?_, heap_alloc_new w _, hcs.evo e⟩
      show upd g.D id _ id _
      rw [upd_same]
      exact .inl rfl)
  refine runs_value hr ⟨_, hM', e, ⟨.inr rfl, w.heap.size, upd_same _ _ _, rfl⟩, fun x hx => ?_⟩
  rcases hx with hx | rfl
  · exact .inl hx
  · exact .inr ⟨Nat.le_refl _, by omega⟩
def kAlloc (Γ : TG) (id : Nat) (t : TypeId) (K : KT) : Prop :=
  match Γ t with
  | some ti => forceL ti.zero fun cs => K (.c (.ptr id 0)) [(id, some (.box cs))] []
  | none => False
theorem good_alloc (hΓ : TGOk P Γ) {t : TypeId} (ho : o.op = .alloc t) (h : kAlloc Γ id t K) : Good P dm o env res id K := by
  unfold kAlloc at h
  split at h
  · rename_i ti ht
    have hti := hΓ t ti ht
    refine good_new (forceL_eq h) fun g w a _ => ⟨ti.zero.map zeroVal, t, ?_, zero_repCs hti.zc⟩
    obtain ⟨z, hz, hc⟩ := hti.zeroValue w
    simp [execOp, ho, Instr.alloc, hz, newVar, newRow, ← hc]
  · exact h.elim
def kBox (env : Nat → AV) (id : Nat) (x : Operand) (K : KT) : Prop :=
  match opv env x with
  | .c a => (match defC a with
    | true => forceC a fun a => K (.c (.ptr id 0)) [(id, some (.box [a]))] []
    | false => False)
  | .agg cs => forceL cs fun cs => K (.c (.ptr id 0)) [(id, some (.box cs))] []
  | .tup _ => False
theorem cells_one {v : Value} (h : v.oneCell' = true) : v.cells = #[v] := by cases v <;> first | rfl | cases h
theorem good_box {t : TypeId} {x : Operand} (ho : o.op = .box t x) (h : kBox env id x K) : Good P dm o env res id K := by
  have hox : x ∈ o.op.operands := by simp [ho, Op.operands]
  unfold kBox at h
  split at h
  · rename_i c hx
    split at h
    · rename_i hd
      refine good_new (forceC_eq (K := fun a => K (.c (.ptr id 0)) [(id, some (.box [a]))] []) h) fun g w a hop => ?_
      have h1 := hop x hox
      rw [hx] at h1
      have h1 : RepC g w c (a.eval x) := h1
      have h2 := h1.one hd
      refine ⟨[a.eval x], t, by simp [execOp, ho, Instr.box, newVar, newRow, cells_one h2], rfl, fun j q hq => ?_⟩
      cases j with
      | zero => simp at hq; subst hq; exact ⟨_, rfl, h2, h1⟩
      | succ j => simp at hq
    · exact h.elim
  · rename_i cs hx
    refine good_new (forceL_eq (K := fun cs => K (.c (.ptr id 0)) [(id, some (.box cs))] []) h) fun g w a hop => ?_
    have h1 := hop x hox
    rw [hx] at h1
    obtain ⟨vs, hv, hr⟩ := h1
    exact ⟨vs, t, by simp [execOp, ho, Instr.box, newVar, newRow, hv, Value.cells], hr⟩
  · exact h.elim

/-! ### load -/
theorem HolOk.cells {g : G} {w : World} {D : Nat → Prop} {sz i : Nat} {xs : List (List PV)} {cs : List AC} {v : Value} (h : HolOk g w D sz i xs cs v) {b q n c : Nat} (hs : v = .slice (some ⟨b, q, none⟩) n c) :
    ∃ us : List Value, us.length = sz ∧ RepCs g w cs us ∧ ∀ (j : Nat) u, us[j]? = some u → w.cell? ⟨b, q + i * sz + j, none⟩ = some u := by
  obtain ⟨b', o, c', e, ca, us, Ds, hv, hg, hh, hsz, hcc, hm, hz, ⟨hi, hcl⟩, ha, hDs, hdis, ho, hcs, _⟩ := h
  rw [hv] at hs
  simp at hs
  obtain ⟨⟨rfl, rfl⟩, _, _⟩ := hs
  have hel : (xs[i]).length = sz := hz _ (List.getElem_mem hi)
  refine ⟨(List.range sz).map (us i), by simp, ⟨by simp [hcl], fun j a hj => ?_⟩, fun j u hj => ?_⟩
  · have hlt : j < sz := by rw [← hcl]; exact (List.getElem?_eq_some_iff.1 hj).1
    exact ⟨us i j, by simp [hlt], (hcs j a hj).1, (hcs j a hj).2⟩
  · have hlt : j < sz := by simpa using (List.getElem?_eq_some_iff.1 hj).1
    have hu : u = us i j := by simpa [hlt] using hj.symm
    have hp : at2 xs i j = some (xs[i][j]'(by rw [hel]; exact hlt)) := by simp [at2, hi, hel, hlt]
    rw [hu, CellsAt.cell hh]
    exact ha i j _ hp
def kLoad (Γ : TG) (dm : Bool) (env : Nat → AV) (res : Res) (t : TypeId) (x : Operand) (K : KT) : Prop :=
  match Γ t with
  | none => False
  | some ti => match opv env x with
    | .c (.ptr tk off) => (match res tk with
      | some (.box cs) => takeA ti (cs.drop off) fun v => K v [] [tk]
      | _ => False)
    | .c (.el c) => takeA ti (c.map .pv) fun v => K v [] []
    | .c (.rel tk sz i j) => (match dm with
      | true => False
      | false => match res tk with
        | some (.row own sz' xs) => ∃ el : List PV, (sz = sz' ∧ xs[i]? = some el) ∧ takeA ti ((el.drop j).map .pv) fun v => K v [] [tk]
        | some (.ro sz' xs) => ∃ el : List PV, (sz = sz' ∧ xs[i]? = some el) ∧ takeA ti ((el.drop j).map .pv) fun v => K v [] [tk]
        | some (.opn sz' cs) => (sz = sz' ∧ i = 0) ∧ takeA ti (cs.drop j) fun v => K v [] [tk]
        | some (.hol sz' i' xs cs) => (sz = sz' ∧ i = i') ∧ takeA ti (cs.drop j) fun v => K v [] [tk]
        | _ => False)
    | _ => False
theorem takeA_eq {ti : TI} {l : List AC} {K : AV → Prop} (h : takeA ti l K) : (ti.agg = true ∧ ti.sz ≤ l.length ∧ K (.agg (l.take ti.sz))) ∨ (ti.agg = false ∧ ∃ a l', l = a :: l' ∧ K (.c a)) := by
  unfold takeA at h
  split at h
  · rename_i ha
    exact .inl ⟨ha, takeL_eq (K := fun l => K (.agg l)) h⟩
  · rename_i ha
    split at h
    · exact .inr ⟨ha, _, _, rfl, forceC_eq (K := fun a => K (.c a)) h⟩
    · exact h.elim
/-- A load, out of cells that are known. -/
theorem load_cells (hΓ : TGOk P Γ) {t : TypeId} {ti : TI} (ht : Γ t = some ti) {l : List AC} {K' : AV → Prop} (h : takeA ti l K') :
    ∃ v, K' v ∧ ∀ (g : G) (w : World) (b q : Nat) (us : List Value), RepCs g w l us → (∀ (j : Nat) u, us[j]? = some u → w.cell? ⟨b, q + j, none⟩ = some u) →
      ∃ u, (Instr.loadAt t (.pointer (some ⟨b, q, none⟩))).run P w = .ok u w ∧ RepAV g w v u := by
  have hti := hΓ t ti ht
  rcases takeA_eq h with ⟨ha, hl, hK⟩ | ⟨ha, c, l', rfl, hK⟩
  · refine ⟨_, hK, fun g w b q us hr hc => ⟨.agg (us.take ti.sz).toArray, ?_, us.take ti.sz, rfl, repCs_take hr _⟩⟩
    refine run_load_agg hti ha b q (us.take ti.sz) (by simp [hr.1]; omega) fun j u hu => ?_
    rw [List.getElem?_take] at hu
    split at hu
    · exact hc j u hu
    · cases hu
  · refine ⟨_, hK, fun g w b q us hr hc => ?_⟩
    obtain ⟨u, hu, _, hrep⟩ := hr.2 0 c rfl
    exact ⟨u, run_load_one hti ha b q u (by have := hc 0 u hu; simpa using this), hrep⟩
theorem at2_mk {xs : List (List PV)} {i j : Nat} {el : List PV} {p : PV} (h : xs[i]? = some el) (hp : el[j]? = some p) : at2 xs i j = some p := by simp [at2, h, hp]
theorem repCs_pvs {g : G} {w : World} {l : List PV} {us : List Value} (hl : us.length = l.length) (h : ∀ (j : Nat) p, l[j]? = some p → ∃ u, us[j]? = some u ∧ Rep w g.S p u) : RepCs g w (l.map .pv) us := by
  refine ⟨by simp [hl], fun j a ha => ?_⟩
  rw [List.getElem?_map] at ha
  cases hp : l[j]? with
  | none => rw [hp] at ha; cases ha
  | some p =>
    rw [hp] at ha
    cases ha
    obtain ⟨u, hu, hr⟩ := h j p hp
    exact ⟨u, hu, hr.one, hr⟩
/-- The cells behind a pointer, each of which reads as told: as a list. -/
theorem cells_list {w : World} {S : Nat → Prop} {b q : Nat} : ∀ {l : List PV}, (∀ (j : Nat) p, l[j]? = some p → ∃ u, w.cell? ⟨b, q + j, none⟩ = some u ∧ Rep w S p u) →
    ∃ us : List Value, us.length = l.length ∧ (∀ (j : Nat) p, l[j]? = some p → ∃ u, us[j]? = some u ∧ Rep w S p u) ∧ ∀ (j : Nat) u, us[j]? = some u → w.cell? ⟨b, q + j, none⟩ = some u := by
  intro l
  induction l generalizing q with
  | nil => exact fun _ => ⟨[], rfl, by simp, by simp⟩
  | cons p l ih =>
    intro h
    obtain ⟨u, hu, hr⟩ := h 0 p rfl
    obtain ⟨us, h1, h2, h3⟩ := ih (q := q + 1) (fun j p hp => by have := h (j + 1) p (by simpa using hp); rwa [show q + 1 + j = q + (j + 1) by omega])
    refine ⟨u :: us, by simp [h1], fun j p' hp => ?_, fun j u' hu' => ?_⟩
    · cases j with
      | zero => simp at hp; subst hp; exact ⟨u, rfl, hr⟩
      | succ j => exact h2 j p' (by simpa using hp)
    · cases j with
      | zero => simp at hu'; subst hu'; simpa using hu
      | succ j =>
        have := h3 j u' (by simpa using hu')
        rwa [show q + (j + 1) = q + 1 + j by omega]
theorem row_cells {w : World} {S D : Nat → Prop} {own : Bool} {sz : Nat} {xs : List (List PV)} {b q n c : Nat} (h : RowOk w S D own sz xs (.slice (some ⟨b, q, none⟩) n c)) (hfro : ∀ x, D x → x ≠ b → S x) {i : Nat} {el : List PV} (hi : xs[i]? = some el) :
    ∀ (j : Nat) p, el[j]? = some p → ∃ u, w.cell? ⟨b, q + i * sz + j, none⟩ = some u ∧ Rep w S p u := by
  intro j p hp
  rcases h with ⟨rfl, h⟩ | ⟨b', q', c', e, cs, us, Ds, hv, hg, hh, hsz, hc, hm, hz, ha, hDs, hdis, hr⟩
  · simp at hi
  · simp at hv
    obtain ⟨⟨rfl, rfl⟩, rfl, rfl⟩ := hv
    have h2 := at2_mk hi hp
    refine ⟨us i j, (CellsAt.cell hh).trans (ha i j p h2), ?_⟩
    have h3 := hr i j p h2
    unfold ElOk at h3
    cases own with
    | true => exact Own.rep h3 fun x hx => hfro x (hDs i j x hx).1 (hDs i j x hx).2
    | false => exact h3
theorem rep_cells {w : World} {S : Nat → Prop} {sz : Nat} {xs : List (List PV)} {b q n c : Nat} (h : Rep w S (.sl sz xs) (.slice (some ⟨b, q, none⟩) n c)) {i : Nat} {el : List PV} (hi : xs[i]? = some el) :
    ∀ (j : Nat) p, el[j]? = some p → ∃ u, w.cell? ⟨b, q + i * sz + j, none⟩ = some u ∧ Rep w S p u := by
  intro j p hp
  cases h with
  | sl _ _ A c us hc hm hz ha hr =>
    obtain ⟨b', q', hA, hS, hcell⟩ := ha (fun h0 => by subst h0; simp at hi)
    simp at hA
    obtain ⟨rfl, rfl⟩ := hA
    exact ⟨us i j, hcell i j p (at2_mk hi hp), hr i j p (at2_mk hi hp)⟩
theorem fro_of {w0 : Base} {w : World} {g : G} {tk : Nat} {own : Bool} {sz : Nat} {xs : List (List PV)} {b q n c : Nat} (hM : Models false w0 g res w) (hr : res tk = some (.row own sz xs)) (hs : g.σ tk = .slice (some ⟨b, q, none⟩) n c) : ∀ x, g.D tk x → x ≠ b → g.S x := by
  intro x hx hne
  refine hM.sFro rfl tk _ x hr hx fun hm => ?_
  rcases hm with hm | hm
  · cases hm
  · rw [hs] at hm
    simp [Value.ownBlock] at hm
    exact hne hm.symm
theorem good_load (hΓ : TGOk P Γ) {t : TypeId} {x : Operand} (ho : o.op = .load t x) (h : kLoad Γ dm env res t x K) : Good P dm o env res id K := by
  have hox : x ∈ o.op.operands := by simp [ho, Op.operands]
  unfold kLoad at h
  split at h
  · exact h.elim
  · rename_i ti ht
    split at h
    · rename_i tk off hx
      split at h
      · rename_i cs hres
        obtain ⟨v, hK, hrun⟩ := load_cells (P := P) hΓ ht h
        refine good_pure [(tk, .box cs)] (by simpa using hres) (by simpa using hK) fun w0 g res w a hM hop hr => ?_
        have h1 := hop x hox
        rw [hx] at h1
        obtain ⟨hU, b, hs, hv⟩ := h1
        obtain ⟨b', ty, vs, hs', hD, hh, hcs⟩ := (hM.tok tk (.box cs) (hr tk _ (by simp))).2
        rw [hs] at hs'
        simp at hs'
        subst hs'
        obtain ⟨u, hu, hrep⟩ := hrun g w b off (vs.drop off) (repCs_drop hcs off) fun j u hu => by
          rw [List.getElem?_drop] at hu
          rw [cell_of hh]
          simpa using hu
        exact ⟨u, by simp [execOp, ho, hv, hu], hrep⟩
      · exact h.elim
    · rename_i c hx
      obtain ⟨v, hK, hrun⟩ := load_cells (P := P) hΓ ht h
      refine good_pure [] (by simp) (by simpa using hK) fun w0 g res w a hM hop hr => ?_
      have h1 := hop x hox
      rw [hx] at h1
      obtain ⟨b, q, hv, hS, hc⟩ := h1
      obtain ⟨us, hl, h2, h3⟩ := cells_list hc
      obtain ⟨u, hu, hrep⟩ := hrun g w b q us (repCs_pvs hl h2) h3
      exact ⟨u, by simp [execOp, ho, hv, hu], hrep⟩
    · rename_i tk sz i j hx
      split at h
      · exact h.elim
      · split at h
        · rename_i own sz' xs hres
          obtain ⟨el, ⟨rfl, hi⟩, h⟩ := h
          obtain ⟨v, hK, hrun⟩ := load_cells (P := P) hΓ ht h
          refine good_pure [(tk, .row own sz xs)] (by simpa using hres) (by simpa using hK) fun w0 g res w a hM hop hr => ?_
          have h1 := hop x hox
          rw [hx] at h1
          obtain ⟨hU, b, q, n, c, hs, hv⟩ := h1
          have hr1 : res tk = some (.row own sz xs) := hr tk _ (by simp)
          have hrow : RowOk w g.S (g.D tk) own sz xs (g.σ tk) := (hM.tok tk _ hr1).2
          rw [hs] at hrow
          have hcell := row_cells hrow (fro_of hM hr1 hs) hi
          obtain ⟨us, hl, h2, h3⟩ := cells_list (l := el.drop j) (b := b) (q := q + i * sz + j) (w := w) (S := g.S) fun k p hp => by
            rw [List.getElem?_drop] at hp
            have := hcell (j + k) p hp
            rwa [← Nat.add_assoc] at this
          obtain ⟨u, hu, hrep⟩ := hrun g w b (q + i * sz + j) us (repCs_pvs hl h2) h3
          exact ⟨u, by simp [execOp, ho, hv, hu], hrep⟩
        · rename_i sz' xs hres
          obtain ⟨el, ⟨rfl, hi⟩, h⟩ := h
          obtain ⟨v, hK, hrun⟩ := load_cells (P := P) hΓ ht h
          refine good_pure [(tk, .ro sz xs)] (by simpa using hres) (by simpa using hK) fun w0 g res w a hM hop hr => ?_
          have h1 := hop x hox
          rw [hx] at h1
          obtain ⟨hU, b, q, n, c, hs, hv⟩ := h1
          have hr1 : res tk = some (.ro sz xs) := hr tk _ (by simp)
          have hrow : Rep w g.S (.sl sz xs) (g.σ tk) := (hM.tok tk _ hr1).2
          rw [hs] at hrow
          have hcell := rep_cells hrow hi
          obtain ⟨us, hl, h2, h3⟩ := cells_list (l := el.drop j) (b := b) (q := q + i * sz + j) (w := w) (S := g.S) fun k p hp => by
            rw [List.getElem?_drop] at hp
            have := hcell (j + k) p hp
            rwa [← Nat.add_assoc] at this
          obtain ⟨u, hu, hrep⟩ := hrun g w b (q + i * sz + j) us (repCs_pvs hl h2) h3
          exact ⟨u, by simp [execOp, ho, hv, hu], hrep⟩
        · rename_i sz' cs hres
          obtain ⟨⟨rfl, rfl⟩, h⟩ := h
          obtain ⟨v, hK, hrun⟩ := load_cells (P := P) hΓ ht h
          refine good_pure [(tk, .opn sz cs)] (by simpa using hres) (by simpa using hK) fun w0 g res w a hM hop hr => ?_
          have h1 := hop x hox
          rw [hx] at h1
          obtain ⟨hU, b, q, n, c, hs, hv⟩ := h1
          obtain ⟨b2, q2, c2, us, hs2, _, _, hcs, hcell⟩ : OpenOk g w tk sz cs := (hM.tok tk (.opn sz cs) (hr tk (.opn sz cs) (by simp))).2
          rw [hs] at hs2
          simp at hs2
          obtain ⟨⟨rfl, rfl⟩, _, _⟩ := hs2
          obtain ⟨u, hu, hrep⟩ := hrun g w b (q + j) (us.drop j) (repCs_drop hcs j) fun k u hk => by
            rw [List.getElem?_drop] at hk
            have := hcell (j + k) u hk
            rwa [← Nat.add_assoc] at this
          exact ⟨u, by simp [execOp, ho, hv, hu], hrep⟩
        · rename_i sz' i' xs cs hres
          obtain ⟨⟨rfl, rfl⟩, h⟩ := h
          obtain ⟨v, hK, hrun⟩ := load_cells (P := P) hΓ ht h
          refine good_pure [(tk, .hol sz i xs cs)] (by simpa using hres) (by simpa using hK) fun w0 g res w a hM hop hr => ?_
          have h1 := hop x hox
          rw [hx] at h1
          obtain ⟨hU, b, q, n, c, hs, hv⟩ := h1
          obtain ⟨us, hs2, hcs, hcell⟩ := HolOk.cells (hM.tok tk (.hol sz i xs cs) (hr tk (.hol sz i xs cs) (by simp))).2 hs
          obtain ⟨u, hu, hrep⟩ := hrun g w b (q + i * sz + j) (us.drop j) (repCs_drop hcs j) fun k u hk => by
            rw [List.getElem?_drop] at hk
            have := hcell (j + k) u hk
            rwa [← Nat.add_assoc] at this
          exact ⟨u, by simp [execOp, ho, hv, hu], hrep⟩
        · exact h.elim
    · exact h.elim

/-! ### store -/
def setAt (xs : List (List PV)) (i j : Nat) (p : PV) : List (List PV) := xs.modify i fun el => el.set j p
def kStore (Γ : TG) (dm : Bool) (env : Nat → AV) (res : Res) (t : TypeId) (x y : Operand) (K : KT) : Prop :=
  match Γ t with
  | none => False
  | some ti => match opv env x with
    | .c (.ptr tk off) => (match res tk with
      | some (.box cs) => cellsA ti (rtyV Γ t (opv env y)) fun l => setL off l cs fun cs => K (.c .undef) [(tk, some (.box cs))] [tk]
      | _ => False)
    | .c (.rel tk sz i j) => (match ti.agg, res tk, opv env y with
      | false, some (.row own sz' xs), .c (.pv p) => (match p.flat with
        | true => ∃ ys : List (List PV), (sz = sz' ∧ i < xs.length ∧ j < sz ∧ ys = setAt xs i j p) ∧ K (.c .undef) [(tk, some (.row own sz ys))] [tk]
        | false => False)
      | _, _, _ => False)
    | _ => False
theorem cellsA_eq {t : TypeId} {ti : TI} {v : AV} {K : List AC → Prop} (hti : TIOk P t ti) (h : cellsA ti v K) : ∃ l : List AC, l.length = ti.sz ∧ K l ∧ ∀ (g : G) (w : World) u, RepAV g w v u → RepCs g w l u.cells.toList := by
  unfold cellsA at h
  split at h
  · rename_i c ha
    have h := forceC_eq (K := fun a => match defC a with
      | true => K [a]
      | false => False) h
    split at h
    · rename_i hd
      refine ⟨[c], (hti.one ha).symm, h, fun g w u hu => ?_⟩
      have hu : RepC g w c u := hu
      have h1 := hu.one hd
      rw [cells_one h1]
      refine ⟨rfl, fun j q hq => ?_⟩
      cases j with
      | zero => simp at hq; subst hq; exact ⟨_, rfl, h1, hu⟩
      | succ j => simp at hq
    · exact h.elim
  · rename_i l ha
    split at h
    · rename_i hl
      refine ⟨l, Nat.eq_of_beq_eq_true hl, h, fun g w u hu => ?_⟩
      obtain ⟨vs, rfl, hr⟩ := hu
      simpa [Value.cells] using hr
    · exact h.elim
  · exact h.elim
theorem setRow_size (w : World) (b : Nat) (cs : Array Value) : (w.setRow b cs).heap.size = w.heap.size := by simp [World.setRow]
theorem at2_setAt {xs : List (List PV)} {i j i' j' : Nat} {p q : PV} (h : at2 (setAt xs i j p) i' j' = some q) : (i' = i ∧ j' = j ∧ q = p) ∨ (¬ (i' = i ∧ j' = j) ∧ at2 xs i' j' = some q) := by
  unfold at2 setAt at *
  rw [List.getElem?_modify] at h
  by_cases e : i = i'
  · subst e
    cases hx : xs[i]? with
    | none => simp [hx] at h
    | some el =>
      simp only [hx, if_true, Option.map_some, Option.bind_some, List.getElem?_set, Option.map_eq_map] at h
      by_cases e2 : j = j'
      · subst e2
        split at h
        · split at h
          · cases h; exact .inl ⟨rfl, rfl, rfl⟩
          · cases h
        · rename_i hn; exact absurd rfl hn
      · rw [if_neg e2] at h
        exact .inr ⟨fun hh => e2 hh.2.symm, by simpa using h⟩
  · simp only [if_neg e, Option.map_eq_map, Option.map_id', id_eq, Option.map_id] at h
    exact .inr ⟨fun hh => e hh.1.symm, by simpa using h⟩
theorem good_store (hΓ : TGOk P Γ) {t : TypeId} {x y : Operand} (ho : o.op = .store t x y) (h : kStore Γ dm env res t x y K) : Good P dm o env res id K := by
  have hox : x ∈ o.op.operands := by simp [ho, Op.operands]
  have hoy : y ∈ o.op.operands := by simp [ho, Op.operands]
  unfold kStore at h
  split at h
  · exact h.elim
  · rename_i ti ht
    have hti := hΓ t ti ht
    split at h
    · rename_i tk off hx
      split at h
      · rename_i cs hres
        obtain ⟨l, hl, h, hrepl⟩ := cellsA_eq hti h
        obtain ⟨hfit, hK⟩ := setL_eq (K := fun cs => K (.c .undef) [(tk, some (.box cs))] [tk]) h
        refine ⟨.c .undef, [(tk, some (.box (cs.take off ++ l ++ cs.drop (off + l.length))))], [(tk, .box cs)], fun w0 g res w a hM hop hr hid => ?_, by simpa using hres, hK⟩
        have h1 := hop x hox
        rw [hx] at h1
        obtain ⟨hU, b, hs, hv⟩ := h1
        have hr1 : res tk = some (.box cs) := hr tk _ (by simp)
        obtain ⟨b', ty, vs, hs', hD, hh, hcs⟩ := (hM.tok tk (.box cs) hr1).2
        rw [hs] at hs'
        simp at hs'
        subst hs'
        have hy := hrepl g w (a.eval y) (rtyV_rep (hop y hoy))
        have hyl : (a.eval y).cells.toList.length = ti.sz := by rw [hy.1, hl]
        have hone : ∀ u ∈ (a.eval y).cells.toList, u.oneCell' = true := by
          intro u hu
          obtain ⟨j, hj⟩ := List.getElem?_of_mem hu
          have hjl : j < l.length := by rw [← hy.1]; exact (List.getElem?_eq_some_iff.1 hj).1
          obtain ⟨u', hu', h1, _⟩ := hy.2 j _ (List.getElem?_eq_getElem hjl)
          rw [hj] at hu'
          cases hu'
          exact h1
        have hrun := run_store_vi (w := w) hti b off vs.toArray ty (a.eval y) (.of hh) hyl (by simp [hcs.1]; omega) hone
        simp only at hrun
        have hnew : RepCs g w (cs.take off ++ l ++ cs.drop (off + l.length)) (vs.take off ++ (a.eval y).cells.toList ++ vs.drop (off + ti.sz)) := by
          rw [hl]
          exact repCs_append (repCs_append (repCs_take hcs _) hy) (repCs_drop hcs _)
        obtain ⟨hM', e⟩ := hM.set (t := tk) (r := .box cs) (r' := .box (cs.take off ++ l ++ cs.drop (off + l.length))) (b := b) (w' := w.setRow b (vs.take off ++ (a.eval y).cells.toList ++ vs.drop (off + ti.sz)).toArray) hr1 hD trivial
          (fun x hx => setRow_other w b x _ hx) (setRow_size _ _ _) rfl rfl rfl (fun _ => Iff.rfl) (fun _ => Iff.rfl)
          (fun e => ⟨b, ty, _, hs, hD, setRow_heap w b _ _ ty _ hh, hnew.evo e⟩)
        exact runs_skip (by simp [execOp, ho, hv, hrun]) ⟨g, hM', e, trivial, fun x hx => .inl hx⟩
      · exact h.elim
    · rename_i tk sz i j hx
      split at h
      · rename_i own sz' xs p hag hres hy
        split at h
        · rename_i hflat
          obtain ⟨ys, ⟨rfl, hil, hjl, rfl⟩, hK⟩ := h
          refine ⟨.c .undef, [(tk, some (.row own sz (setAt xs i j p)))], [(tk, .row own sz xs)], fun w0 g res w a hM hop hr hid => ?_, by simpa using hres, hK⟩
          have h1 := hop x hox
          rw [hx] at h1
          obtain ⟨hU, b, q, n, c, hs, hv⟩ := h1
          have hp := hop y hoy
          rw [hy] at hp
          have hp : Rep w g.S p (a.eval y) := hp
          have hp1 := hp.one
          have hr1 : res tk = some (.row own sz xs) := hr tk _ (by simp)
          have hrow : RowOk w g.S (g.D tk) own sz xs (g.σ tk) := (hM.tok tk _ hr1).2
          have hrow0 := hrow
          rw [hs] at hrow
          rcases hrow with ⟨_, hbad⟩ | ⟨b', q', c', e, cs, us, Ds, hv', hg, hh, hsz, hc, hm, hz, ha, hDs, hdis, hrr⟩
          · cases hbad
          · simp at hv'
            obtain ⟨⟨rfl, rfl⟩, rfl, rfl⟩ := hv'
            have hwithin : i * sz + j < xs.length * sz := by
              have h3 : i * sz + sz ≤ xs.length * sz := by rw [← Nat.succ_mul]; exact Nat.mul_le_mul_right _ hil
              omega
            have hle : xs.length * sz ≤ c * sz := Nat.mul_le_mul_right _ hc
            have hst : (Instr.storeAt t (.pointer (some ⟨b, q + i * sz + j, none⟩)) (a.eval y)).run P w = .ok () (w.setRow b (cs.toList.take (q + i * sz + j) ++ [a.eval y] ++ cs.toList.drop (q + i * sz + j + ti.sz)).toArray) := by
              have h1sz := hti.one hag
              have := run_store_vi (w := w) hti b (q + i * sz + j) cs e (a.eval y) hh (by rw [cells_one hp1, h1sz]; rfl) (by rw [h1sz]; omega) (by rw [cells_one hp1]; intro u hu; simp at hu; subst hu; exact hp1)
              rw [cells_one hp1] at this
              exact this
            have h1sz := hti.one hag
            rw [h1sz] at hst
            have hcs' : ∀ k, (cs.toList.take (q + i * sz + j) ++ [a.eval y] ++ cs.toList.drop (q + i * sz + j + 1)).toArray[k]? = if k = q + i * sz + j then some (a.eval y) else cs[k]? := by
              intro k
              simp only [List.getElem?_toArray, List.append_assoc, List.singleton_append]
              rw [List.getElem?_append, List.length_take, Array.length_toList, Nat.min_eq_left (by omega)]
              by_cases h1 : k < q + i * sz + j
              · rw [if_pos h1, if_neg (by omega), List.getElem?_take, if_pos h1]
                simp
              · rw [if_neg h1]
                by_cases h2 : k = q + i * sz + j
                · subst h2; simp
                · rw [if_neg h2, List.getElem?_cons, if_neg (by omega), List.getElem?_drop, show q + i * sz + j + 1 + (k - (q + i * sz + j) - 1) = k by omega]
                  simp
            have hsize : (cs.toList.take (q + i * sz + j) ++ [a.eval y] ++ cs.toList.drop (q + i * sz + j + 1)).toArray.size = cs.size := by
              simp
              omega
            have hpos : ∀ i' j' p', at2 xs i' j' = some p' → i' < xs.length ∧ j' < sz := by
              intro i' j' p' h2
              unfold at2 at h2
              cases hx : xs[i']? with
              | none => simp [hx] at h2
              | some el =>
                have hl := hz el (List.mem_of_getElem? hx)
                simp [hx] at h2
                exact ⟨(List.getElem?_eq_some_iff.1 hx).1, by rw [← hl]; exact (List.getElem?_eq_some_iff.1 h2).1⟩
            have hinj : ∀ i' j', j' < sz → q + i' * sz + j' = q + i * sz + j → i' = i ∧ j' = j := by
              intro i' j' h2 h3
              have h4 : i' * sz + j' = i * sz + j := by omega
              have e1 : (i' * sz + j') / sz = i' := by rw [Nat.mul_comm, Nat.mul_add_div (by omega), Nat.div_eq_of_lt h2]; rfl
              have e2 : (i * sz + j) / sz = i := by rw [Nat.mul_comm, Nat.mul_add_div (by omega), Nat.div_eq_of_lt hjl]; rfl
              rw [h4, e2] at e1
              subst e1
              exact ⟨rfl, by omega⟩
            have hDown : Mut dm (g.σ tk) (.row own sz xs) b := .inr (by rw [hs]; rfl)
            obtain ⟨hM', e'⟩ := hM.set (t := tk) (r := .row own sz xs) (r' := .row own sz (setAt xs i j p)) (b := b)
              (w' := w.setRow b (cs.toList.take (q + i * sz + j) ++ [a.eval y] ++ cs.toList.drop (q + i * sz + j + 1)).toArray) hr1 hg hDown (fun x hx => setRow_other w b x _ hx) (setRow_size _ _ _) rfl rfl rfl (fun _ => Iff.rfl) (fun _ => Iff.rfl)
              (fun ev => by
                show RowOk _ g.S (g.D tk) own sz (setAt xs i j p) (g.σ tk)
                have hlen : (setAt xs i j p).length = xs.length := by simp [setAt]
                rw [hs]
                refine .inr ⟨b, q, c, e, _, fun i' j' => if i' = i ∧ j' = j then a.eval y else us i' j', Ds, by rw [hlen], hg, hh.set hsize, by rw [hsize]; exact hsz, by rw [hlen]; exact hc, hm, ?_, ?_, hDs, hdis, ?_⟩
                · intro el hel
                  unfold setAt at hel
                  obtain ⟨k, hk⟩ := List.getElem?_of_mem hel
                  rw [List.getElem?_modify] at hk
                  cases hx : xs[k]? with
                  | none => simp [hx] at hk
                  | some el0 =>
                    have hl := hz el0 (List.mem_of_getElem? hx)
                    simp only [hx, Option.map_eq_map, Option.map_some, Option.some.injEq] at hk
                    subst hk
                    split <;> simp [hl]
                · intro i' j' p' h2
                  rw [hcs']
                  rcases at2_setAt h2 with ⟨rfl, rfl, rfl⟩ | ⟨hne, h2⟩
                  · simp
                  · have := hpos i' j' p' h2
                    rw [if_neg (fun he => hne (hinj i' j' this.2 he))]
                    show _ = some (if i' = i ∧ j' = j then a.eval y else us i' j')
                    rw [if_neg hne]
                    exact ha i' j' p' h2
                · intro i' j' p' h2
                  rcases at2_setAt h2 with ⟨rfl, rfl, rfl⟩ | ⟨hne, h2⟩
                  · simp only [and_self, if_true]
                    unfold ElOk
                    cases own with
                    | true => exact (hp.mono ev.heap ev.s).flat_own hflat
                    | false => exact hp.mono ev.heap ev.s
                  · show ElOk _ _ _ _ _ (if i' = i ∧ j' = j then a.eval y else us i' j')
                    rw [if_neg hne]
                    exact (hrr i' j' p' h2).mono (fun x hx => setRow_other w b x _ (hDs i' j' x hx).2) (fun _ h => h) ev.heap ev.s)
            exact runs_skip (by simp [execOp, ho, hv, hst]) ⟨g, hM', e', trivial, fun x hx => .inl hx⟩
        · exact h.elim
      · exact h.elim
    · exact h.elim
end
end Go.Vi
