/- A region that draws its order: the rule is sound. -/
import Derived.Test.YtieenbofbfkhpaaViQ
set_option linter.unusedVariables false
set_option linter.unusedSimpArgs false
namespace Go.Vi
open Go.RowKit
theorem aft_mem {o : Oper} {i : Nat} : aft o i = true ↔ ∃ e ∈ o.after, e.on = i ∧ Region.binds .any e = true := by
  unfold aft
  rw [List.any_eq_true]
  constructor
  · rintro ⟨e, he, h⟩
    simp only [Bool.and_eq_true] at h
    exact ⟨e, by simpa using he, Nat.eq_of_beq_eq_true h.1, h.2⟩
  · rintro ⟨e, he, h1, h2⟩
    exact ⟨e, by simpa using he, by simp [h1, h2]⟩
def Cl (ops : Array Oper) (L : Nat → Bool) (F : Oper → Nat → Bool) : Prop := ∀ o, (∀ j, aft o j = true → L j = true) → ∀ j, F o j = true → L j = true
theorem stepB_cl {ops : Array Oper} {L : Nat → Bool} {F : Oper → Nat → Bool} (hcl : ∀ k o, ops[k]? = some o → L k = true → ∀ j, aft o j = true → L j = true) (h : Cl ops L F) : Cl ops L (stepB ops F) := by
  intro o ho j hj
  unfold stepB at hj
  rw [Bool.or_eq_true] at hj
  rcases hj with hj | hj
  · exact ho j hj
  rw [List.any_eq_true] at hj
  obtain ⟨e, he, hb⟩ := hj
  rw [Bool.and_eq_true] at hb
  obtain ⟨hb, hF⟩ := hb
  cases hp : ops[e.on]? with
  | none => rw [hp] at hF; cases hF
  | some p =>
    rw [hp] at hF
    exact h p (hcl e.on p hp (ho e.on (aft_mem.2 ⟨e, by simpa using he, rfl, hb⟩))) j hF
theorem aftC_cl {ops : Array Oper} {L : Nat → Bool} (hcl : ∀ k o, ops[k]? = some o → L k = true → ∀ j, aft o j = true → L j = true) : Cl ops L (aftC ops) :=
  stepB_cl hcl (stepB_cl hcl fun o ho j hj => ho j hj)
theorem cnt_le {p q : Nat → Bool} (hpq : ∀ x, p x = true → q x = true) : ∀ l : List Nat, l.countP p ≤ l.countP q
  | [] => Nat.le_refl _
  | x :: l => by
    have := cnt_le hpq l
    rw [List.countP_cons, List.countP_cons]
    have h := hpq x
    cases hp : p x <;> cases hq : q x <;> simp_all <;> omega
theorem cnt_lt {p q : Nat → Bool} {i : Nat} (hq : q i = true) (hp : p i = false) (hpq : ∀ x, p x = true → q x = true) : ∀ {l : List Nat}, i ∈ l → l.countP p < l.countP q
  | [], h => by cases h
  | x :: l, h => by
    rw [List.countP_cons, List.countP_cons]
    rcases List.mem_cons.1 h with rfl | h
    · have := cnt_le hpq l
      rw [hq, hp]
      simp
      omega
    · have := cnt_lt hq hp hpq h
      have h2 := hpq x
      cases hp : p x <;> cases hq : q x <;> simp_all <;> omega
section
variable {P : Program} {Γ : TG} {dm : Bool}
theorem drawR0_ok (hΓ : TGOk P Γ) (hm : P.follows .mixedOrders = true) : DrawOk P Γ dm (drawR0 P Γ dm) := by
  intro id ops s K h w0 g0 w a Q hS hQ
  obtain ⟨env, res, nx, n⟩ := s
  obtain ⟨recs, hlen, ⟨hc, hK⟩, hfact⟩ := dOps_eq hΓ h
  simp only [Bool.and_eq_true] at hc
  obtain ⟨hpairs, hedges⟩ := hc
  simp only [List.append_nil, List.reverse_reverse] at hpairs
  refine wp_region_any hm ?_
  have hrec : ∀ {i : Nat} {o : Oper}, ops[i]? = some o → ∃ r, recs[i]? = some r := by
    intro i o ho
    have hi : i < ops.size := (Array.getElem?_eq_some_iff.1 ho).1
    have : i < recs.length := by rw [hlen, Array.length_toList]; exact hi
    exact ⟨_, List.getElem?_eq_getElem this⟩
  have hget : ∀ {i : Nat} {o : Oper} {r : Rec}, ops[i]? = some o → recs[i]? = some r → (zipT ops.toList (recs.map fun r => (r.rs.map Prod.fst, keys r.u)))[i]? = some (o, r.rs.map Prod.fst, keys r.u) := by
    intro i o r ho hr
    exact zipT_get (t := (r.rs.map Prod.fst, keys r.u)) (by rw [Array.getElem?_toList]; exact ho) (by rw [List.getElem?_map, hr]; rfl)
  have hconf : ∀ {i j : Nat} {x y : Oper} {rx ry : Rec}, i < j → ops[i]? = some x → ops[j]? = some y → recs[i]? = some rx → recs[j]? = some ry → confB ops (x, rx.rs.map Prod.fst, keys rx.u) (y, ry.rs.map Prod.fst, keys ry.u) = true → aftC ops y i = true := by
    intro i j x y rx ry hij hx hy hrx hry hcf
    have := pairsB_ok hpairs hij (hget hx hrx) (hget hy hry) hcf
    rwa [Nat.zero_add] at this
  have hedge : ∀ {i : Nat} {o : Oper}, ops[i]? = some o → (∀ e ∈ o.after, Region.binds .any e = true → e.on < i) ∧ ∀ j q, o.guard = some (j, q) → aft o j = true := by
    intro i o ho
    have := edgesB_ok hedges (i := i) (o := o) (by rw [Array.getElem?_toList]; exact ho)
    rwa [Nat.zero_add] at this
  let E : (Nat → Bool) → Nat → AV := fun L => foldU (envsU ops.toList recs) 0 L env
  let R : (Nat → Bool) → Res := fun L => foldU (recs.map (·.u)) 0 L res
  let LL : Array Bool → Nat → Bool := fun listed k => listed.getD k false
  have main : ∀ (fuel : Nat) (listed : Array Bool) (g : G) (a : Act) (w : World), listed.size = ops.size → (List.range ops.size).countP (fun i => !listed.getD i true) ≤ fuel → (∀ k o, ops[k]? = some o → LL listed k = true → ∀ j, aft o j = true → LL listed j = true) →
      Models dm w0 g (R (LL listed)) w → (∀ t, RepAV g w (E (LL listed) t) (a.tmps.getD t undef)) → a.tmps.size = n → a.defers = [] → (∀ x, g.U x → x < nx ∨ ∃ k, LL listed k = true ∧ nx + 1024 * k ≤ x ∧ x < nx + 1024 * k + 1024) → ((dm = true → ∀ t v, w0.pin t = some v → g.U t ∧ g.σ t = v) ∧ ∀ t F, w0.pinF t = some F → g.fr t = F) →
      wpAny P .any ops Q fuel listed a w := by
    intro fuel
    -- nothing is ready: all is done
    have hdone : ∀ (listed : Array Bool) (g : G) (a : Act) (w : World), listed.size = ops.size → Models dm w0 g (R (LL listed)) w → (∀ t, RepAV g w (E (LL listed) t) (a.tmps.getD t undef)) → a.tmps.size = n → a.defers = [] → (∀ x, g.U x → x < nx ∨ ∃ k, LL listed k = true ∧ nx + 1024 * k ≤ x ∧ x < nx + 1024 * k + 1024) → ((dm = true → ∀ t v, w0.pin t = some v → g.U t ∧ g.σ t = v) ∧ ∀ t F, w0.pinF t = some F → g.fr t = F) →
        Region.ready .any ops listed = [] → Q .normal a w := by
      intro listed g a w hsz hM hE hn hd hU hpin hr
      have hall : ∀ i, i < ops.size → LL listed i = true := by
        intro i
        induction i using Nat.strongRecOn with
        | _ i ih =>
          intro hi
          cases hli : LL listed i with
          | true => rfl
          | false =>
            have ho : ops[i]? = some ops[i] := Array.getElem?_eq_getElem hi
            have hmem : i ∈ Region.ready .any ops listed := by
              rw [mem_ready]
              refine ⟨?_, _, ho, fun e he hb => ih e.on ((hedge ho).1 e he hb) (by have := (hedge ho).1 e he hb; omega)⟩
              have : i < listed.size := by omega
              show listed.getD i true = false
              have h1 : listed.getD i false = false := hli
              rw [Array.getD_eq_getD_getElem?, Array.getElem?_eq_getElem this] at h1 ⊢
              simpa using h1
            rw [hr] at hmem
            cases hmem
      have hR : R (LL listed) = foldU (recs.map (·.u)) 0 (fun _ => true) res := by
        funext t
        refine foldU_agree (fun k u hu _ => ?_) rfl
        rw [Nat.zero_add]
        have : k < (recs.map (·.u)).length := (List.getElem?_eq_some_iff.1 hu).1
        rw [List.length_map, hlen, Array.length_toList] at this
        exact hall k this
      have hEE : E (LL listed) = foldU (envsU ops.toList recs) 0 (fun _ => true) env := by
        funext t
        refine foldU_agree (fun k u hu _ => ?_) rfl
        rw [Nat.zero_add]
        obtain ⟨o, r, h1, h2, h3⟩ := envsU_get hu
        have : k < ops.toList.length := (List.getElem?_eq_some_iff.1 h1).1
        rw [Array.length_toList] at this
        exact hall k this
      refine hQ _ g w a ⟨?_, fun t => ?_, hn, hd, fun x hx => ?_, hpin.1, hpin.2⟩ hK
      · show Models dm w0 g (foldU (recs.map (·.u)) 0 (fun _ => true) res) w
        rw [← hR]; exact hM
      · show RepAV g w (foldU (envsU ops.toList recs) 0 (fun _ => true) env t) _
        rw [← hEE]; exact hE t
      · show x < nx + 1024 * ops.toList.length
        rw [Array.length_toList]
        rcases hU x hx with h1 | ⟨k, hk, h1, h2⟩
        · omega
        · have : k < listed.size := by
            rcases Nat.lt_or_ge k listed.size with h' | h'
            · exact h'
            · have hk : listed.getD k false = true := hk
              simp [Array.getElem?_eq_none h'] at hk
          omega
    induction fuel with
    | zero =>
      intro listed g a w hsz hcnt hcl hM hE hn hd hU hpin
      have hr : Region.ready .any ops listed = [] := by
        rw [List.eq_nil_iff_forall_not_mem]
        intro i hi
        obtain ⟨h0, o, ho, _⟩ := mem_ready.1 hi
        have hi : i < ops.size := (Array.getElem?_eq_some_iff.1 ho).1
        have : 0 < (List.range ops.size).countP (fun i => !listed.getD i true) := List.countP_pos_iff.2 ⟨i, List.mem_range.2 hi, by simp [h0]⟩
        omega
      exact ⟨hr, hdone listed g a w hsz hM hE hn hd hU hpin hr⟩
    | succ fuel ih =>
      intro listed g a w hsz hcnt hcl hM hE hn hd hU hpin
      refine ⟨hdone listed g a w hsz hM hE hn hd hU hpin, fun i hi => ?_⟩
      obtain ⟨h0, o, ho, hdep⟩ := mem_ready.1 hi
      have hisz : i < ops.size := (Array.getElem?_eq_some_iff.1 ho).1
      have hil : i < listed.size := by omega
      have hLi : LL listed i = false := by
        show listed.getD i false = false
        rw [Array.getD_eq_getD_getElem?, Array.getElem?_eq_getElem hil] at h0 ⊢
        simpa using h0
      have haft : ∀ j, aft o j = true → LL listed j = true := fun j hj => by
        obtain ⟨e, he, rfl, hb⟩ := aft_mem.1 hj
        exact hdep e he hb
      have haft2 : ∀ j, aftC ops o j = true → LL listed j = true := aftC_cl hcl o haft
      have hcl2 : ∀ k o, ops[k]? = some o → LL listed k = true → ∀ j, aftC ops o j = true → LL listed j = true := fun k o ho hk => aftC_cl hcl o (hcl k o ho hk)
      obtain ⟨r, hr⟩ := hrec ho
      have hf := hfact i o r (by rw [Array.getElem?_toList]; exact ho) hr
      -- what it looks at is as it is in the text's order
      have hEi : ∀ t, t ∈ looks ops o → E (LL listed) t = foldU (envsU ops.toList recs) 0 (fun x => decide (x < i)) env t := by
        intro t ht
        refine foldU_agree (fun k u hu htk => ?_) rfl
        rw [Nat.zero_add]
        obtain ⟨ok, rk, hok, hrk, rfl⟩ := envsU_get hu
        rw [Array.getElem?_toList] at hok
        have hdst : ok.dst = some t := keys_dstU.1 htk
        have hmem : t ∈ ok.dst.toList := by rw [hdst]; simp
        rcases Nat.lt_trichotomy k i with hki | hki | hki
        · rw [haft2 k (hconf hki hok ho hrk hr (by
            have := meets_of hmem (List.mem_append_left o.dst.toList ht)
            simp [confB, this]))]
          simp [hki]
        · subst hki
          rw [hLi]; simp
        · have : LL listed k = false := by
            cases hk : LL listed k with
            | false => rfl
            | true =>
              have := hcl2 k ok hok hk i (hconf hki ho hok hr hrk (by
                have := meets_of hmem ht
                simp [confB, this]))
              rw [hLi] at this
              cases this
          rw [this]
          simp; omega
      have hRi : ∀ t, t ∈ r.rs.map Prod.fst → R (LL listed) t = foldU (recs.map (·.u)) 0 (fun x => decide (x < i)) res t := by
        intro t ht
        refine foldU_agree (fun k u hu htk => ?_) rfl
        rw [Nat.zero_add]
        rw [List.getElem?_map] at hu
        cases hrk : recs[k]? with
        | none => rw [hrk] at hu; cases hu
        | some rk =>
          rw [hrk] at hu
          cases hu
          have hks : k < ops.size := by
            have := (List.getElem?_eq_some_iff.1 hrk).1
            rw [hlen, Array.length_toList] at this
            exact this
          have hok : ops[k]? = some ops[k] := Array.getElem?_eq_getElem hks
          rcases Nat.lt_trichotomy k i with hki | hki | hki
          · rw [haft2 k (hconf hki hok ho hrk hr (by
              have := meets_of (l := keys rk.u) htk (List.mem_append_left (keys r.u) ht)
              simp [confB, this]))]
            simp [hki]
          · subst hki
            rw [hLi]; simp
          · have : LL listed k = false := by
              cases hk : LL listed k with
              | false => rfl
              | true =>
                have := hcl2 k _ hok hk i (hconf hki ho hok hr hrk (by
                  have := meets_of (l := keys rk.u) htk ht
                  simp [confB, this]))
                rw [hLi] at this
                cases this
            rw [this]
            simp; omega
      -- one more is listed
      have hL' : LL (listed.setIfInBounds i true) = fun x => x == i || LL listed x := by
        funext x
        show (listed.setIfInBounds i true).getD x false = _
        by_cases hx : x = i
        · subst hx; simp [hil]
        · rw [Go.getD_set_ne false (Ne.symm hx)]
          have : (x == i) = false := by simpa using hx
          rw [this, Bool.false_or]
      have hEadd : E (LL (listed.setIfInBounds i true)) = putL (E (LL listed)) (dstU o r.val) := by
        rw [hL']
        have := foldU_add (us := envsU ops.toList recs) (i := 0) (j := i) (L := LL listed) (f := env) (envsU_at (by rw [Array.getElem?_toList]; exact ho) hr) (fun k u' hk hu t ht ht' => by
          rw [Nat.zero_add]
          obtain ⟨ok, rk, hok, hrk, rfl⟩ := envsU_get hu
          rw [Array.getElem?_toList] at hok
          cases hkL : LL listed k with
          | false => rfl
          | true =>
            have := hcl2 k ok hok hkL i (hconf hk ho hok hr hrk (by
              have h1 : t ∈ o.dst.toList := by rw [keys_dstU.1 ht]; simp
              have h2 : t ∈ ok.dst.toList := by rw [keys_dstU.1 ht']; simp
              have := meets_of h1 (List.mem_append_right (looks ops ok) h2)
              simp [confB, this]))
            rw [hLi] at this
            cases this) (by rw [Nat.zero_add]; exact hLi)
        rw [Nat.zero_add] at this
        exact this
      have hRadd : R (LL (listed.setIfInBounds i true)) = putL (R (LL listed)) r.u := by
        rw [hL']
        have := foldU_add (us := recs.map (·.u)) (i := 0) (j := i) (L := LL listed) (f := res) (u := r.u) (by rw [List.getElem?_map, hr]; rfl) (fun k u' hk hu t ht ht' => by
          rw [Nat.zero_add]
          rw [List.getElem?_map] at hu
          cases hrk : recs[k]? with
          | none => rw [hrk] at hu; cases hu
          | some rk =>
            rw [hrk] at hu
            cases hu
            have hks : k < ops.size := by
              have := (List.getElem?_eq_some_iff.1 hrk).1
              rw [hlen, Array.length_toList] at this
              exact this
            have hok : ops[k]? = some ops[k] := Array.getElem?_eq_getElem hks
            cases hkL : LL listed k with
            | false => rfl
            | true =>
              have := hcl2 k _ hok hkL i (hconf hk ho hok hr hrk (by
                have := meets_of (l := keys r.u) ht (List.mem_append_right (rk.rs.map Prod.fst) ht')
                simp [confB, this]))
              rw [hLi] at this
              cases this) (by rw [Nat.zero_add]; exact hLi)
        rw [Nat.zero_add] at this
        exact this
      have hcl' : ∀ k o', ops[k]? = some o' → LL (listed.setIfInBounds i true) k = true → ∀ j, aft o' j = true → LL (listed.setIfInBounds i true) j = true := by
        intro k o' ho' hk j hj
        have hmono : LL listed j = true → LL (listed.setIfInBounds i true) j = true := fun h => getD_set_true h
        by_cases hki : k = i
        · subst hki
          rw [ho] at ho'
          cases ho'
          exact hmono (haft j hj)
        · refine hmono (hcl k o' ho' ?_ j hj)
          have h2 : (listed.setIfInBounds i true).getD k false = true := hk
          rw [Go.getD_set_ne false (Ne.symm hki)] at h2
          exact h2
      have hcnt' : (List.range ops.size).countP (fun x => !(listed.setIfInBounds i true).getD x true) ≤ fuel := by
        have := cnt_lt (p := fun x => !(listed.setIfInBounds i true).getD x true) (q := fun x => !listed.getD x true) (i := i) (by simp [h0]) (by simp [hil]) (fun x hx => by
          by_cases hxi : x = i
          · subst hxi; simp [hil] at hx
          · rwa [Go.getD_set_ne true (Ne.symm hxi)] at hx) (List.mem_range.2 hisz)
        omega
      have hput : ∀ (g' : G) (w' : World) (v : Value), Evo g g' w w' → RepAV g' w' r.val v → ∀ t, RepAV g' w' (putL (E (LL listed)) (dstU o r.val) t) ((a.put o.dst v).tmps.getD t undef) := by
        intro g' w' v e hv t
        unfold dstU
        cases hd : o.dst with
        | none => exact (hE t).evo e
        | some d =>
          have hlt : d < a.tmps.size := by rw [hn]; exact hf.dst d hd
          show RepAV g' w' (upd (E (LL listed)) d r.val t) ((a.tmps.setIfInBounds d v).getD t undef)
          by_cases ht : t = d
          · subst ht
            rw [upd_same, Vi.getD_set_same hlt]
            exact hv
          · rw [upd_ne _ _ ht, Vi.getD_set_ne ht]
            exact (hE t).evo e
      have hsz' : ∀ v, (a.put o.dst v).tmps.size = n := by
        intro v
        unfold Act.put
        cases o.dst with
        | none => exact hn
        | some d => show (a.tmps.setIfInBounds d v).size = n; rw [Array.size_setIfInBounds]; exact hn
      have hd' : ∀ v, (a.put o.dst v).defers = [] := by
        intro v
        unfold Act.put
        cases o.dst <;> exact hd
      unfold wpOp
      rw [ho]
      have hw : Region.wanted o (yielded ops a.tmps) = r.ex := guard_wanted (g := g) (w := w) hf.guard (fun t ht => by
        rw [← hEi t (List.mem_append_right _ ht)]
        exact hE t)
      dsimp only
      rw [hw]
      cases hex : r.ex with
      | true =>
        rw [if_pos rfl]
        obtain ⟨hop, hrs⟩ := hf.yes hex
        refine .inl (hop w0 g (R (LL listed)) w a hM (fun x hx => ?_) (fun t x hx => ?_) (fun x h1 h2 h3 => ?_) _ _ fun v w' hp => ?_)
        · cases x with
          | tmp t =>
            show RepAV g w (foldU (envsU ops.toList recs) 0 (fun x => decide (x < i)) env t) _
            rw [← hEi t (List.mem_append_left _ (List.mem_filterMap.2 ⟨.tmp t, by simpa using hx, rfl⟩))]
            exact hE t
          | const v => exact constC_rep g w v
          | func f => exact .fn f
          | global m => trivial
        · rw [hRi t (List.mem_map.2 ⟨(t, x), hx, rfl⟩)]
          exact hrs t x hx
        · rcases hU x h3 with h4 | ⟨k, hk, h4, h5⟩
          · omega
          · have : k = i := by omega
            subst this
            rw [hLi] at hk
            cases hk
        · obtain ⟨g', hM', e, hv, hU'⟩ := hp
          refine ih (listed.setIfInBounds i true) g' _ w' (by simp [hsz]) hcnt' hcl' ?_ ?_ (hsz' v) (hd' v) (fun x hx => ?_) ⟨fun hd t v hp => ⟨e.u t (hpin.1 hd t v hp).1, (e.σ t (hpin.1 hd t v hp).1).trans (hpin.1 hd t v hp).2⟩, fun t F hF => by rw [e.fr]; exact hpin.2 t F hF⟩
          · rw [hRadd, ← updL_putL]; exact hM'
          · intro t
            rw [hEadd]
            exact hput g' w' v e hv t
          · rcases hU' x hx with h1 | h1
            · rcases hU x h1 with h2 | ⟨k, hk, h2⟩
              · exact .inl h2
              · exact .inr ⟨k, getD_set_true hk, h2⟩
            · exact .inr ⟨i, by show (listed.setIfInBounds i true).getD i false = true; simp [hil], h1.1, h1.2⟩
      | false =>
        rw [if_neg (by simp)]
        obtain ⟨h1, h2, h3⟩ := hf.no hex
        refine ih (listed.setIfInBounds i true) g _ w (by simp [hsz]) hcnt' hcl' ?_ ?_ (hsz' _) (hd' _) (fun x hx => ?_) hpin
        · rw [hRadd, h2]; exact hM
        · intro t
          rw [hEadd]
          exact hput g w undef (Evo.refl _ _) (by rw [h1]; rfl) t
        · rcases hU x hx with h2 | ⟨k, hk, h2⟩
          · exact .inl h2
          · exact .inr ⟨k, getD_set_true hk, h2⟩
  have hL0 : ∀ k, LL (Array.replicate ops.size false) k = false := by
    intro k
    show (Array.replicate ops.size false).getD k false = false
    simp only [Array.getD_eq_getD_getElem?, Array.getElem?_replicate]
    split <;> rfl
  have hR0 : R (LL (Array.replicate ops.size false)) = res := by
    funext t
    exact foldU_none (fun k u _ _ => by rw [Nat.zero_add]; exact hL0 k)
  have hE0 : E (LL (Array.replicate ops.size false)) = env := by
    funext t
    exact foldU_none (fun k u _ _ => by rw [Nat.zero_add]; exact hL0 k)
  obtain ⟨hM1, he1⟩ := hS.mod.draw (w' := { w with drawn := w.drawn + 1 }) rfl rfl rfl rfl
  refine main ops.size _ g0 a _ (by simp) ?_ (fun k o _ h => by rw [hL0] at h; cases h) (by rw [hR0]; exact hM1) (fun t => by rw [hE0]; exact (hS.env t).evo he1) hS.size hS.defers (fun x hx => .inl (hS.next x hx)) ⟨hS.pin, hS.pinF⟩
  exact Nat.le_trans (List.countP_le_length) (by simp)
theorem drawR_ok (hΓ : TGOk P Γ) (hm : P.follows .mixedOrders = true) : DrawOk P Γ dm (drawR P Γ dm) := by
  intro id ops s K h
  unfold drawR at h
  split at h
  · exact drawR0_ok hΓ hm id ops s K h
  · obtain ⟨s', hle, h⟩ := h
    intro w0 g w a Q hS hQ
    obtain ⟨g', hS'⟩ := hle w0 g w a hS
    exact drawR0_ok hΓ hm id ops s' K h w0 g' w a Q hS' hQ
end
end Go.Vi
