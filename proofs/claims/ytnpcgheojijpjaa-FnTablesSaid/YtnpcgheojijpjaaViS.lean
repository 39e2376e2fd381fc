/- A store of a whole element, or of a part of it, into a row: what it holds is handed over. -/
import Derived.Test.YtnpcgheojijpjaaViL
set_option linter.unusedVariables false
set_option linter.unusedSimpArgs false
namespace Go.Vi
open Go.RowKit
section
variable {dm : Bool} {w0 : Base} {w w' : World} {g : G} {res : Nat → Option ARes}
def G.more (g : G) (t : Nat) (F : Nat → Prop) : G := { g with D := upd g.D t fun x => g.D t x ∨ F x }
theorem Models.setG (h : Models false w0 g res w) {t : Nat} {r r' : ARes} (hr : res t = some r) {b : Nat} (hb : g.D t b) (hm : Mut false (g.σ t) r b) {F : Nat → Prop} (hF : Free false w0 g res w F)
    (hw : ∀ x, x ≠ b → w'.heap[x]? = w.heap[x]?) (hsz : w'.heap.size = w.heap.size) (ho : w'.os = w.os) (htp : w'.tape = w.tape) (hp : w'.output = w.output)
    (hMut : ∀ x, Mut false (g.σ t) r' x ↔ Mut false (g.σ t) r x) (hFM : ∀ x, F x → ¬ Mut false (g.σ t) r x) (hok : Evo g (g.more t F) w w' → TokOk (g.more t F) w' t r') :
    Models false w0 (g.more t F) (upd res t (some r')) w' ∧ Evo g (g.more t F) w w' := by
  have hbn := h.dNew t r b hr hb
  have e : Evo g (g.more t F) w w' := ⟨fun _ h => h, fun _ _ => rfl, fun _ h => h, fun x hx => hw x (fun he => h.sMut t r b hr hb hm (he ▸ hx)), rfl⟩
  have hDo : ∀ t', t' ≠ t → (g.more t F).D t' = g.D t' := fun t' hn => upd_ne _ _ hn
  have hDn : (g.more t F).D t = (fun x => g.D t x ∨ F x) := upd_same _ _ _
  have key : ∀ t' r1, upd res t (some r') t' = some r1 → (t' = t ∧ r1 = r') ∨ (t' ≠ t ∧ res t' = some r1) := by
    intro t' r1 h1
    rcases upd_cases h1 with ⟨rfl, h12⟩ | ⟨hn, h12⟩
    · cases h12; exact .inl ⟨rfl, rfl⟩
    · exact .inr ⟨hn, h12⟩
  refine ⟨⟨h.below.to ho htp hp (by rw [hsz]; exact Nat.le_refl _) (fun k hk hE => hw k (fun he => by subst he; rcases hbn.1 with h1 | h1; exact hE h1; omega)), h.sBase, fun x hx => by rw [hsz]; exact h.sLt x hx, ?_, ?_, ?_, ?_, ?_⟩, e⟩
  · intro t' r1 h1
    rcases key t' r1 h1 with ⟨rfl, rfl⟩ | ⟨hn, h1⟩
    · exact ⟨(h.tok t' r hr).1, hok e⟩
    · exact ⟨(h.tok t' r1 h1).1, (h.tok t' r1 h1).2.evo e (h.tok t' r1 h1).1 (hDo t' hn) fun x hx => hw x fun he => hn (h.dApart t' t r1 r x h1 hr hx (he ▸ hb))⟩
  · intro t' r1 x h1 hx
    rw [hsz]
    rcases key t' r1 h1 with ⟨rfl, rfl⟩ | ⟨hn, h1⟩
    · rw [hDn] at hx
      rcases hx with hx | hx
      · exact h.dNew t' r x hr hx
      · exact hF.new x hx
    · rw [hDo t' hn] at hx
      exact h.dNew t' r1 x h1 hx
  · intro t1 t2 r1 r2 x k1 k2 hx1 hx2
    rcases key t1 r1 k1 with ⟨e1, _⟩ | ⟨hn1, h1⟩ <;> rcases key t2 r2 k2 with ⟨e2, _⟩ | ⟨hn2, h2⟩
    · rw [e1, e2]
    · subst e1
      rw [hDn] at hx1
      rw [hDo t2 hn2] at hx2
      rcases hx1 with hx1 | hx1
      · exact h.dApart t1 t2 r r2 x hr h2 hx1 hx2
      · exact absurd hx2 (hF.off x t2 r2 hx1 h2)
    · subst e2
      rw [hDn] at hx2
      rw [hDo t1 hn1] at hx1
      rcases hx2 with hx2 | hx2
      · exact h.dApart t1 t2 r1 r x h1 hr hx1 hx2
      · exact absurd hx1 (hF.off x t1 r1 hx2 h1)
    · rw [hDo t1 hn1] at hx1
      rw [hDo t2 hn2] at hx2
      exact h.dApart t1 t2 r1 r2 x h1 h2 hx1 hx2
  · intro t' r1 x h1 hx hm'
    rcases key t' r1 h1 with ⟨rfl, rfl⟩ | ⟨hn, h1⟩
    · rw [hDn] at hx
      have hm' : Mut false (g.σ t') r1 x := hm'
      rcases hx with hx | hx
      · exact h.sMut t' r x hr hx ((hMut x).1 hm')
      · exact absurd ((hMut x).1 hm') (hFM x hx)
    · rw [hDo t' hn] at hx
      exact h.sMut t' r1 x h1 hx hm'
  · intro hdm t' r1 x h1 hx hm'
    rcases key t' r1 h1 with ⟨rfl, rfl⟩ | ⟨hn, h1⟩
    · rw [hDn] at hx
      rcases hx with hx | hx
      · exact h.sFro rfl t' r x hr hx (fun hq => hm' ((hMut x).2 hq))
      · exact hF.fro rfl x hx
    · rw [hDo t' hn] at hx
      exact h.sFro rfl t' r1 x h1 hx hm'
end
def setEl (xs : List (List PV)) (i j : Nat) (ps : List PV) : List (List PV) := xs.modify i fun el => el.take j ++ ps ++ el.drop (j + ps.length)
theorem setEl_all {xs : List (List PV)} {i : Nat} {ps : List PV} (h : ∀ el ∈ xs, el.length = ps.length) : setEl xs i 0 ps = xs.set i ps := by
  unfold setEl
  apply List.ext_getElem?
  intro k
  rw [List.getElem?_modify, List.getElem?_set]
  by_cases e : i = k
  · subst e
    cases hx : xs[i]? with
    | none =>
      have := List.getElem?_eq_none_iff.1 hx
      simp [Nat.not_lt.2 this]
    | some el =>
      have h1 := h el (List.mem_of_getElem? hx)
      have h2 := (List.getElem?_eq_some_iff.1 hx).1
      simp [h2, ← h1]
  · simp [e]
theorem at2_setEl {xs : List (List PV)} {i j i' j' : Nat} {ps : List PV} {q : PV} (hj : ∀ el, xs[i]? = some el → j + ps.length ≤ el.length) (h : at2 (setEl xs i j ps) i' j' = some q) :
    (i' = i ∧ j ≤ j' ∧ j' < j + ps.length ∧ ps[j' - j]? = some q) ∨ (¬ (i' = i ∧ j ≤ j' ∧ j' < j + ps.length) ∧ at2 xs i' j' = some q) := by
  unfold at2 setEl at *
  rw [List.getElem?_modify] at h
  by_cases e : i = i'
  · subst e
    cases hx : xs[i]? with
    | none => simp [hx] at h
    | some el =>
      have hjl := hj el hx
      simp only [hx, if_true, Option.map_some, Option.bind_some, Option.map_eq_map] at h
      rw [List.append_assoc, List.getElem?_append, List.length_take, Nat.min_eq_left (by omega)] at h
      by_cases h1 : j' < j
      · rw [if_pos h1, List.getElem?_take, if_pos h1] at h
        exact .inr ⟨by omega, by simpa using h⟩
      · rw [if_neg h1, List.getElem?_append] at h
        by_cases h2 : j' - j < ps.length
        · rw [if_pos h2] at h
          exact .inl ⟨rfl, by omega, by omega, h⟩
        · rw [if_neg h2, List.getElem?_drop, show j + ps.length + (j' - j - ps.length) = j' by omega] at h
          exact .inr ⟨by omega, by simpa using h⟩
  · simp only [if_neg e, Option.map_eq_map, Option.map_id', id_eq, Option.map_id] at h
    exact .inr ⟨fun hh => e hh.1.symm, by simpa using h⟩
section
variable {P : Program} {Γ : TG} {dm : Bool} {o : Oper} {env : Nat → AV} {res : Res} {id : Nat} {K : KT}
def flatV : AV → Bool
  | .c (.pv p) => p.flat
  | _ => false
def kStoreR (Γ : TG) (dm : Bool) (env : Nat → AV) (res : Res) (t : TypeId) (x y : Operand) (K : KT) : Prop :=
  match flatV (opv env y) with
  | true => kStore Γ dm env res t x y K
  | false => match opv env x with
    | .c (.rel tk sz i j) => (match dm, Γ t, res tk with
      | false, some ti, some (.row own sz' xs) => cellsA ti (rtyV Γ t (opv env y)) fun l => pvsA res l fun ps ts own' => (match nodupB ts && ts.all (fun q => !Nat.beq q tk) with
        | true => ∃ ys : List (List PV), ((sz = sz' ∧ i < xs.length ∧ j + ps.length ≤ sz) ∧ ys = setEl xs i j ps) ∧ K (.c .undef) (drops ts ++ [(tk, some (.row (own && own') sz ys))]) (tk :: rowToks l)
        | false => False)
      | _, _, _ => False)
    | _ => kStore Γ dm env res t x y K
theorem ElOk.weak' {w : World} {S D : Nat → Prop} {own own' : Bool} {p : PV} {u : Value} (h : ElOk w S D own p u) (hS : ∀ x, D x → S x) (ho : own' = true → own = true) : ElOk w S D own' p u := by
  unfold ElOk at *
  cases own' with
  | true => rw [ho rfl] at h; exact h
  | false =>
    cases own with
    | true => exact Own.rep h hS
    | false => exact h
theorem good_storeR (hΓ : TGOk P Γ) {t : TypeId} {x y : Operand} (ho : o.op = .store t x y) (h : kStoreR Γ dm env res t x y K) : Good P dm o env res id K := by
  have hox : x ∈ o.op.operands := by simp [ho, Op.operands]
  have hoy : y ∈ o.op.operands := by simp [ho, Op.operands]
  unfold kStoreR at h
  split at h
  · exact good_store hΓ ho h
  · split at h
    · rename_i tk sz i j hx
      split at h
      · rename_i ti own sz' xs ht hres
        have hti := hΓ t ti ht
        obtain ⟨l, hl, h, hrepl⟩ := cellsA_eq hti h
        obtain ⟨ps, ts, own', htake, h⟩ := pvsA_eq h
        split at h
        · rename_i hnd
          rw [Bool.and_eq_true, List.all_eq_true] at hnd
          obtain ⟨hnd, hntk⟩ := hnd
          have hnd := nodupB_ok hnd
          have hntk : tk ∉ ts := fun hm => by have := hntk tk hm; simp at this
          obtain ⟨ys, ⟨⟨rfl, hil, hjl⟩, rfl⟩, hK⟩ := h
          obtain ⟨rs, hrs, hrs1⟩ := htake.rs
          refine ⟨.c .undef, drops ts ++ [(tk, some (.row (own && own') sz (setEl xs i j ps)))], (tk, .row own sz xs) :: rs, fun w0 g res' w a hM hop hr hid => ?_, fun t' r' hm => ?_, by simpa [hrs1] using hK⟩
          · have htake' : TakeOk res' l ps ts own' := htake.congr (fun t ht => rs_agree hrs (fun t r h => hr t r (by simp [h])) t (by rw [hrs1]; exact ht))
            have h1 := hop x hox
            rw [hx] at h1
            obtain ⟨hU, b, q, n, c, hs, hv⟩ := h1
            have hr1 : res' tk = some (.row own sz xs) := hr tk _ (by simp)
            have hy := hrepl g w (a.eval y) (rtyV_rep (hop y hoy))
            generalize hvs : (a.eval y).cells.toList = vs at hy
            have hpl := htake'.len
            have hyl : vs.length = ti.sz := by rw [hy.1, hl]
            have hone : ∀ u ∈ vs, u.oneCell' = true := by
              intro u hu
              obtain ⟨k, hk⟩ := List.getElem?_of_mem hu
              have hkl : k < l.length := by rw [← hy.1]; exact (List.getElem?_eq_some_iff.1 hk).1
              obtain ⟨u', hu', h1, _⟩ := hy.2 k _ (List.getElem?_eq_getElem hkl)
              rw [hk] at hu'
              cases hu'
              exact h1
            obtain ⟨hM1, e1, hF⟩ := hM.drop ts
            have hel := htake'.el hM hy (g.drop res' ts).S (fun x hx => .inl hx) (fun x hx => .inr hx)
            have hr2 : dropL res' ts tk = some (.row own sz xs) := by
              have : ∀ (ts : List Nat), tk ∉ ts → dropL res' ts tk = res' tk := by
                intro ts
                induction ts with
                | nil => intro _; rfl
                | cons t l ih =>
                  intro hm
                  simp only [List.mem_cons, not_or] at hm
                  show upd (dropL res' l) t none tk = _
                  rw [upd_ne _ _ hm.1]
                  exact ih hm.2
              rw [this ts hntk]
              exact hr1
            have hrow : RowOk w (g.drop res' ts).S (g.D tk) own sz xs (g.σ tk) := (hM1.tok tk _ hr2).2
            rw [hs] at hrow
            rcases hrow with ⟨_, hbad⟩ | ⟨b', q', c', e, cs, us, Ds, hv', hg, hh, hsz, hc, hm, hz, ha, hDs, hdis, hrr⟩
            · cases hbad
            · simp at hv'
              obtain ⟨⟨rfl, rfl⟩, rfl, rfl⟩ := hv'
              have hwithin : i * sz + (j + ps.length) ≤ xs.length * sz := by
                have h3 : i * sz + sz ≤ xs.length * sz := by rw [← Nat.succ_mul]; exact Nat.mul_le_mul_right _ hil
                omega
              have hle : xs.length * sz ≤ c * sz := Nat.mul_le_mul_right _ hc
              have hps : ps.length = ti.sz := by rw [hpl, hl]
              have hst : (Instr.storeAt t (.pointer (some ⟨b, q + i * sz + j, none⟩)) (a.eval y)).run P w = .ok () (w.setRow b (cs.toList.take (q + i * sz + j) ++ vs ++ cs.toList.drop (q + i * sz + j + ti.sz)).toArray) := by
                have := run_store_vi (w := w) hti b (q + i * sz + j) cs e (a.eval y) hh (by rw [hvs, hyl]) (by omega) (by rw [hvs]; exact hone)
                rw [hvs] at this
                exact this
              have hcs' : ∀ k, (cs.toList.take (q + i * sz + j) ++ vs ++ cs.toList.drop (q + i * sz + j + ti.sz)).toArray[k]? = if q + i * sz + j ≤ k ∧ k < q + i * sz + j + ps.length then vs[k - (q + i * sz + j)]? else cs[k]? := by
                intro k
                simp only [List.getElem?_toArray, List.append_assoc]
                rw [List.getElem?_append, List.length_take, Array.length_toList, Nat.min_eq_left (by omega)]
                by_cases h1 : k < q + i * sz + j
                · rw [if_pos h1, if_neg (by omega), List.getElem?_take, if_pos h1]
                  simp
                · rw [if_neg h1, List.getElem?_append]
                  by_cases h2 : k - (q + i * sz + j) < vs.length
                  · rw [if_pos h2, if_pos (by omega)]
                  · rw [if_neg h2, if_neg (by omega), List.getElem?_drop, show q + i * sz + j + ti.sz + (k - (q + i * sz + j) - vs.length) = k by omega]
                    simp
              have hsize : (cs.toList.take (q + i * sz + j) ++ vs ++ cs.toList.drop (q + i * sz + j + ti.sz)).toArray.size = cs.size := by
                simp
                omega
              have hpos : ∀ i' j' p', at2 xs i' j' = some p' → i' < xs.length ∧ j' < sz := by
                intro i' j' p' h2
                unfold at2 at h2
                cases hx : xs[i']? with
                | none => simp [hx] at h2
                | some el =>
                  have hl := hz el (List.mem_of_getElem? hx)
                  simp [hx] at h2
                  exact ⟨(List.getElem?_eq_some_iff.1 hx).1, by rw [← hl]; exact (List.getElem?_eq_some_iff.1 h2).1⟩
              have hinj : ∀ i' j', j' < sz → q + i * sz + j ≤ q + i' * sz + j' → q + i' * sz + j' < q + i * sz + j + ps.length → i' = i ∧ j ≤ j' ∧ j' < j + ps.length := by
                intro i' j' h2 h3 h4
                rcases Nat.lt_trichotomy i' i with e1 | e1 | e1
                · have h5 : i' * sz + sz ≤ i * sz := by rw [← Nat.succ_mul]; exact Nat.mul_le_mul_right _ e1
                  omega
                · subst e1
                  exact ⟨rfl, by omega, by omega⟩
                · have h5 : i * sz + sz ≤ i' * sz := by rw [← Nat.succ_mul]; exact Nat.mul_le_mul_right _ e1
                  omega
              have hMb : ∀ (o : Bool) (zs : List (List PV)) (x : Nat), Mut false (g.σ tk) (.row o sz zs) x ↔ x = b := by
                intro o zs x
                rw [hs]
                simp [Mut, Value.ownBlock]
                exact eq_comm
              have hbF : ∀ x, g.free res' ts x → x ≠ b := fun x hx he => hF.off x tk _ hx hr2 (he ▸ hg)
              obtain ⟨hM', e'⟩ := hM1.setG (t := tk) (r := .row own sz xs) (r' := .row (own && own') sz (setEl xs i j ps)) (b := b)
                (w' := w.setRow b (cs.toList.take (q + i * sz + j) ++ vs ++ cs.toList.drop (q + i * sz + j + ti.sz)).toArray) hr2 hg ((hMb _ _ _).2 rfl) hF (fun x hx => setRow_other w b x _ hx) (setRow_size _ _ _) rfl rfl rfl (fun x => (hMb _ _ x).trans (hMb _ _ x).symm)
                (fun x hx hm' => hbF x hx ((hMb _ _ x).1 hm'))
                (fun ev => by
                  have hD : ((g.drop res' ts).more tk (g.free res' ts)).D tk = (fun x => g.D tk x ∨ g.free res' ts x) := upd_same _ _ _
                  show RowOk _ (g.drop res' ts).S (((g.drop res' ts).more tk (g.free res' ts)).D tk) (own && own') sz (setEl xs i j ps) (g.σ tk)
                  have hlen : (setEl xs i j ps).length = xs.length := by simp [setEl]
                  have hsub : ∀ k x, takeD g l ts k x → g.free res' ts x := by
                    rintro k x ⟨t, _, ht, hx⟩
                    obtain ⟨o', s', x', hr', _⟩ := htake'.mem ht
                    exact ⟨t, _, ht, hr', hx⟩
                  have hDsS : ∀ i' j' x, Ds i' j' x → (g.drop res' ts).S x := fun i' j' x hx => by
                    have h1 := hDs i' j' x hx
                    exact hM1.sFro rfl tk _ x hr2 h1.1 (fun hq => h1.2 ((hMb _ _ x).1 hq))
                  rw [hs, hD]
                  have hxs : ∀ el, xs[i]? = some el → j + ps.length ≤ el.length := fun el he => by rw [hz el (List.mem_of_getElem? he)]; exact hjl
                  refine .inr ⟨b, q, c, e, _, fun i' j' => if i' = i ∧ j ≤ j' ∧ j' < j + ps.length then vs.getD (j' - j) undef else us i' j', fun i' j' x => if i' = i ∧ j ≤ j' ∧ j' < j + ps.length then takeD g l ts (j' - j) x else Ds i' j' x, by rw [hlen], .inl hg, hh.set hsize, by rw [hsize]; exact hsz, by rw [hlen]; exact hc, hm, ?_, ?_, ?_, ?_, ?_⟩
                  · intro el hel
                    unfold setEl at hel
                    obtain ⟨k, hk⟩ := List.getElem?_of_mem hel
                    rw [List.getElem?_modify] at hk
                    cases hx : xs[k]? with
                    | none => simp [hx] at hk
                    | some el0 =>
                      have hl0 := hz el0 (List.mem_of_getElem? hx)
                      simp only [hx, Option.map_eq_map, Option.map_some, Option.some.injEq] at hk
                      subst hk
                      split
                      · simp
                        omega
                      · exact hl0
                  · intro i' j' p' h2
                    rw [hcs']
                    rcases at2_setEl hxs h2 with ⟨rfl, h3, h4, h5⟩ | ⟨hne, h2⟩
                    · rw [if_pos (by omega)]
                      show _ = some (if i' = i' ∧ j ≤ j' ∧ j' < j + ps.length then vs.getD (j' - j) undef else us i' j')
                      rw [if_pos ⟨rfl, h3, h4⟩, show q + i' * sz + j' - (q + i' * sz + j) = j' - j by omega]
                      obtain ⟨u, hu, _⟩ := hel (j' - j) p' h5
                      simp [hu]
                    · have := hpos i' j' p' h2
                      rw [if_neg (fun he => hne (hinj i' j' this.2 he.1 he.2))]
                      show _ = some (if i' = i ∧ j ≤ j' ∧ j' < j + ps.length then vs.getD (j' - j) undef else us i' j')
                      rw [if_neg hne]
                      exact ha i' j' p' h2
                  · intro i' j' x hx
                    show (g.D tk x ∨ g.free res' ts x) ∧ x ≠ b
                    have hx : if i' = i ∧ j ≤ j' ∧ j' < j + ps.length then takeD g l ts (j' - j) x else Ds i' j' x := hx
                    split at hx
                    · have := hsub _ x hx
                      exact ⟨.inr this, hbF x this⟩
                    · exact ⟨.inl (hDs i' j' x hx).1, (hDs i' j' x hx).2⟩
                  · intro i1 j1 i2 j2 x h1 h2
                    have h1 : if i1 = i ∧ j ≤ j1 ∧ j1 < j + ps.length then takeD g l ts (j1 - j) x else Ds i1 j1 x := h1
                    have h2 : if i2 = i ∧ j ≤ j2 ∧ j2 < j + ps.length then takeD g l ts (j2 - j) x else Ds i2 j2 x := h2
                    split at h1 <;> split at h2
                    · rename_i c1 c2
                      obtain ⟨t1, hc1, ht1, hx1⟩ := h1
                      obtain ⟨t2, hc2, ht2, hx2⟩ := h2
                      obtain ⟨o1, s1, x1, hr1', _⟩ := htake'.mem ht1
                      obtain ⟨o2, s2, x2, hr2', _⟩ := htake'.mem ht2
                      have := hM.dApart t1 t2 _ _ x hr1' hr2' hx1 hx2
                      subst this
                      have := htake'.once hnd ht1 hc1 hc2
                      omega
                    · exact absurd (hDs _ _ x h2).1 (hF.off x tk _ (hsub _ x h1) hr2)
                    · exact absurd (hDs _ _ x h1).1 (hF.off x tk _ (hsub _ x h2) hr2)
                    · exact hdis _ _ _ _ x h1 h2
                  · intro i' j' p' h2
                    rcases at2_setEl hxs h2 with ⟨rfl, h3, h4, h5⟩ | ⟨hne, h2⟩
                    · obtain ⟨u, hu, _, hok⟩ := hel (j' - j) p' h5
                      show ElOk _ _ (fun x => if i' = i' ∧ j ≤ j' ∧ j' < j + ps.length then takeD g l ts (j' - j) x else Ds i' j' x) _ _ (if i' = i' ∧ j ≤ j' ∧ j' < j + ps.length then vs.getD (j' - j) undef else us i' j')
                      rw [if_pos ⟨rfl, h3, h4⟩]
                      have hgd : vs.getD (j' - j) undef = u := by simp [hu]
                      rw [hgd]
                      refine (hok.weak' (fun x hx => .inr (hsub _ x hx)) fun h => (Bool.and_eq_true _ _ ▸ h : _ ∧ _).2).mono (fun x hx => setRow_other w b x _ (hbF x (hsub _ x hx))) (fun x hx => ?_) ev.heap ev.s
                      rw [if_pos ⟨rfl, h3, h4⟩]
                      exact hx
                    · show ElOk _ _ (fun x => if i' = i ∧ j ≤ j' ∧ j' < j + ps.length then takeD g l ts (j' - j) x else Ds i' j' x) _ _ (if i' = i ∧ j ≤ j' ∧ j' < j + ps.length then vs.getD (j' - j) undef else us i' j')
                      rw [if_neg hne]
                      refine ((hrr i' j' p' h2).weak' (hDsS i' j') fun h => (Bool.and_eq_true _ _ ▸ h : _ ∧ _).1).mono (fun x hx => setRow_other w b x _ (hDs i' j' x hx).2) (fun x hx => ?_) ev.heap ev.s
                      rw [if_neg hne]
                      exact hx)
              refine runs_skip (by simp [execOp, ho, hv, hst]) ⟨_, ?_, e1.trans e', trivial, fun x hx => .inl hx⟩
              rw [updL_append, updL_drops]
              exact hM'
          · rcases List.mem_cons.1 hm with hm | hm
            · cases hm; exact hres
            · exact hrs t' r' hm
        · exact h.elim
      · exact h.elim
    · exact good_store hΓ ho h
end
end Go.Vi
