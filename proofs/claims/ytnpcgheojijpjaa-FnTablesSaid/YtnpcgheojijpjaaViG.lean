/- Operation by operation: literals of structs and slices. -/
import Derived.Test.YtnpcgheojijpjaaViF
set_option linter.unusedVariables false
set_option linter.unusedSimpArgs false
namespace Go.Vi
open Go.RowKit
section
variable {P : Program} {Γ : TG} {dm : Bool} {o : Oper} {env : Nat → AV} {res : Res} {id : Nat} {K : KT}
/-- A part's cells: as many as its place has; a nil slice as the place's zero value tells it. -/
def cellsN (s : Nat) (z : Option AC) (v : AV) (K : List AC → Prop) : Prop :=
  match v with
  | .c a => (match a, z with
    | .nil _, some (.nil q) => (match Nat.beq s 1 with
      | true => K [.nil q]
      | false => False)
    | a, _ => match Nat.beq s 1, defC a with
      | true, true => forceC a fun a => K [a]
      | _, _ => False)
  | .agg l => (match Nat.beq l.length s with
    | true => K l
    | false => False)
  | .tup _ => False
theorem cellsN_eq {s : Nat} {z : Option AC} {v : AV} {K : List AC → Prop} (h : cellsN s z v K) : ∃ l : List AC, l.length = s ∧ K l ∧ ∀ (g : G) (w : World) u, RepAV g w v u → RepCs g w l u.cells.toList := by
  have one : ∀ (g : G) (w : World) (a : AC) u, RepC g w a u → defC a = true → RepCs g w [a] u.cells.toList := by
    intro g w a u hu hd
    have h1 := hu.one hd
    rw [cells_one h1]
    refine ⟨rfl, fun j q hq => ?_⟩
    cases j with
    | zero => simp at hq; subst hq; exact ⟨_, rfl, h1, hu⟩
    | succ j => simp at hq
  unfold cellsN at h
  split at h
  · rename_i a
    split at h
    · rename_i q0 q
      split at h
      · rename_i hs
        exact ⟨[.nil q], (Nat.eq_of_beq_eq_true hs).symm, h, fun g w u hu => one g w (.nil q) u hu rfl⟩
      · exact h.elim
    · rename_i hne
      split at h
      · rename_i hs hd
        exact ⟨[a], (Nat.eq_of_beq_eq_true hs).symm, forceC_eq (K := fun a => K [a]) h, fun g w u hu => one g w a u hu hd⟩
      · exact h.elim
  · rename_i l
    split at h
    · rename_i hl
      refine ⟨l, Nat.eq_of_beq_eq_true hl, h, fun g w u hu => ?_⟩
      obtain ⟨vs, rfl, hr⟩ := hu
      simpa [Value.cells] using hr
    · exact h.elim
  · exact h.elim
/-- Parts laid over cells, place by place. -/
def foldParts (place : Nat → Option (Nat × Nat)) (env : Nat → AV) : List (Nat × Operand) → List AC → (List AC → Prop) → Prop
  | [], cs, K => K cs
  | (i, x) :: l, cs, K => match place i with
    | some (off, s) => cellsN s (nth cs off) (opv env x) fun c => setL off c cs fun cs => foldParts place env l cs K
    | none => False
theorem fold_set (vs : Array Value) (off : Nat) : ∀ (l : List Value) (k : Nat), off + k + l.length ≤ vs.size →
    ((l.zipIdx k).foldl (fun (cs : Array Value) (x : Value × Nat) => cs.setIfInBounds (off + x.2) x.1) vs).toList = vs.toList.take (off + k) ++ l ++ vs.toList.drop (off + k + l.length) := by
  intro l
  induction l generalizing vs with
  | nil => intro k h; simp
  | cons a l ih =>
    intro k h
    simp only [List.length_cons] at h
    rw [List.zipIdx_cons, List.foldl_cons, ih _ (k + 1) (by simp; omega)]
    simp only [Array.toList_setIfInBounds, List.length_cons]
    apply List.ext_getElem?
    intro j
    simp only [List.append_assoc, List.getElem?_append, List.length_take, List.length_set, Array.length_toList, List.getElem?_take, List.getElem?_drop, List.getElem?_set, List.length_cons, List.getElem?_cons]
    have e1 : min (off + (k + 1)) vs.size = off + k + 1 := by omega
    have e2 : min (off + k) vs.size = off + k := by omega
    rw [e1, e2]
    by_cases h1 : j < off + k
    · rw [if_pos (by omega), if_pos (by omega), if_neg (by omega), if_pos h1, if_pos h1]
    · by_cases h2 : j = off + k
      · subst h2
        rw [if_pos (by omega), if_pos (by omega), if_pos rfl, if_pos (by omega), if_neg (by omega), if_pos (by omega), if_pos (by omega)]
      · rw [if_neg (show ¬ j < off + k + 1 by omega), if_neg h1]
        by_cases h3 : j - (off + k + 1) < l.length
        · rw [if_pos h3, if_pos (by omega), if_neg (by omega), show j - (off + k) - 1 = j - (off + k + 1) by omega]
        · rw [if_neg h3, if_neg (show ¬ j - (off + k) < l.length + 1 by omega), if_neg (by omega)]
          congr 1
          omega
theorem foldParts_eq {place : Nat → Option (Nat × Nat)} : ∀ {parts : List (Nat × Operand)} {cs : List AC} {K : List AC → Prop}, foldParts place env parts cs K →
    ∃ cs' : List AC, cs'.length = cs.length ∧ K cs' ∧ ∀ (g : G) (w : World) (a : Act), (∀ p ∈ parts, RepAV g w (opv env p.2) (a.eval p.2)) → ∀ vs : Array Value, RepCs g w cs vs.toList →
      ∃ vs' : Array Value, Instr.fill place vs (parts.map fun p => (p.1, a.eval p.2)) = some vs' ∧ RepCs g w cs' vs'.toList
  | [], cs, K, h => ⟨cs, rfl, h, fun g w a _ vs hr => ⟨vs, rfl, hr⟩⟩
  | (i, x) :: l, cs, K, h => by
    simp only [foldParts] at h
    split at h
    · rename_i off s hp
      obtain ⟨c, hc, h, hrc⟩ := cellsN_eq h
      obtain ⟨hfit, h⟩ := setL_eq (K := fun cs => foldParts place env l cs K) h
      obtain ⟨cs', hl, hK, hrun⟩ := foldParts_eq h
      refine ⟨cs', ?_, hK, fun g w a hop vs hr => ?_⟩
      · rw [hl]
        simp
        omega
      · have h1 := hrc g w _ (hop (i, x) (by simp))
        have hcl : (a.eval x).cells.toList.length = s := by rw [h1.1, hc]
        have hcs : (a.eval x).cells.size = s := by simpa using hcl
        have hvs : vs.size = cs.length := by have := hr.1; simpa using this
        have hset := fold_set vs off (a.eval x).cells.toList 0 (by rw [hcl, hvs]; omega)
        simp only [Nat.add_zero, hcl] at hset
        obtain ⟨vs', hv, hr'⟩ := hrun g w a (fun p hp => hop p (by simp [hp])) (vs.toList.take off ++ (a.eval x).cells.toList ++ vs.toList.drop (off + s)).toArray (by
          rw [hc]
          exact repCs_append (repCs_append (repCs_take hr _) h1) (repCs_drop hr _))
        refine ⟨vs', ?_, hr'⟩
        simp only [List.map_cons, Instr.fill, hp, hcs]
        rw [if_neg (by simp; omega), ← hv]
        congr 1
        apply Array.ext'
        rw [← Array.foldl_toList, Array.toList_zipIdx]
        exact hset
    · exact h.elim
theorem mapM_opt {α β : Type} (F : α → Option β) : ∀ (l : List α) (m : List β), m.length = l.length → (∀ (k : Nat) a, l[k]? = some a → ∃ b, m[k]? = some b ∧ F a = some b) → l.mapM F = some m
  | [], [], _, _ => rfl
  | [], _ :: _, h, _ => by simp at h
  | _ :: _, [], h, _ => by simp at h
  | a :: l, b :: m, h, hk => by
    obtain ⟨b', hb, hF⟩ := hk 0 a rfl
    simp at hb
    subst hb
    have ih := mapM_opt F l m (by simpa using h) fun k a' ha => by simpa using hk (k + 1) a' (by simpa using ha)
    simp [List.mapM_cons, hF, ih]
def placeOf (ti : TI) (k : Nat) : Option (Nat × Nat) :=
  match ti.arr with
  | some (_, s) => some (k * s, s)
  | none => nth ti.fields k
def kBuild (Γ : TG) (env : Nat → AV) (t : TypeId) (parts : List (Nat × Operand)) (K : KT) : Prop :=
  match Γ t with
  | none => False
  | some ti => match ti.agg with
    | true => foldParts (placeOf ti) env parts ti.zero fun cs => forceL cs fun cs => K (.agg cs) [] []
    | false => False
theorem good_build (hΓ : TGOk P Γ) {t : TypeId} {parts : Array (Nat × Operand)} (ho : o.op = .build t parts) (h : kBuild Γ env t parts.toList K) : Good P dm o env res id K := by
  unfold kBuild at h
  split at h
  · exact h.elim
  · rename_i ti ht
    have hti := hΓ t ti ht
    split at h
    · rename_i hag
      obtain ⟨cs, hl, hK, hrun⟩ := foldParts_eq h
      have hK := forceL_eq (K := fun cs => K (.agg cs) [] []) hK
      refine good_pure [] (by simp) (by simpa using hK) fun w0 g res w a hM hop _ => ?_
      obtain ⟨i, z, hi, hs, hb, hz, hc⟩ := hti.info
      obtain ⟨vs', hv, hr⟩ := hrun g w a (fun p hp => hop p.2 (by
        simp only [ho, Op.operands, List.mem_toArray, List.mem_map]
        exact ⟨p, hp, rfl⟩)) z.cells (by rw [hc]; exact zero_repCs hti.zc)
      refine ⟨.agg vs', ?_, vs'.toList, by simp, hr⟩
      have hb : P.built t (parts.map fun (i, x) => (i, a.eval x)).toList = some vs' := by
        have hmap : (parts.map fun (i, x) => (i, a.eval x)).toList = parts.toList.map fun p => (p.1, a.eval p.2) := by simp [Array.toList_map]
        obtain ⟨d, hd, hagd, _, _, _, _, hfl⟩ := hti.desc
        obtain ⟨d2, hd2, hall, hna, harr⟩ := hti.all
        rw [hd] at hd2
        cases hd2
        rw [hmap]
        unfold Program.built
        rw [hag] at hagd
        cases d with
        | array n e =>
          cases hq : ti.arr with
          | none => exact absurd hq (hna n e rfl)
          | some q =>
            obtain ⟨n', s⟩ := q
            obtain ⟨e', i', he, hi', hs', _⟩ := harr n' s hq
            cases he
            simp only [hi, hd, hi', hz, hs']
            rw [← hv]
            congr 1
            funext k
            simp [placeOf, hq]
        | struct fs =>
          have hna : ti.arr = none := by
            cases hq : ti.arr with
            | none => rfl
            | some q =>
              obtain ⟨n', s⟩ := q
              obtain ⟨e', i', he, _⟩ := harr n' s hq
              cases he
          have hm : fs.toList.mapM (fun f => (P.info? f.type).map fun i => (f.offset, i.size)) = some ti.fields := by
            refine mapM_opt _ _ _ (by rw [hall fs rfl]; simp) fun k f hf => ?_
            have hk : k < ti.fields.length := by rw [hall fs rfl]; have := (List.getElem?_eq_some_iff.1 hf).1; simpa using this
            rcases hq : ti.fields[k] with ⟨off, s⟩
            have hq' : ti.fields[k]? = some (off, s) := by rw [List.getElem?_eq_getElem hk, hq]
            obtain ⟨h0, fs', f', he, hf', ho', _, i', hi', hs'⟩ := hfl k off s hq'
            cases he
            have : f = f' := by
              have h1 : fs[k]? = some f := by simpa using hf
              rw [h1] at hf'
              exact Option.some.inj hf'
            subst this
            exact ⟨(off, s), hq', by simp [hi', ho', hs']⟩
          simp only [hi, hd, hz, hm]
          rw [← hv]
          congr 1
          funext k
          simp [placeOf, hna, nth_eq]
        | _ => simp [aggD] at hagd
      simp only [execOp, ho, Sem.run_bind, run_build w t _ vs' hb, Result.andThen_ok]
      rfl
    · exact h.elim
end
end Go.Vi
