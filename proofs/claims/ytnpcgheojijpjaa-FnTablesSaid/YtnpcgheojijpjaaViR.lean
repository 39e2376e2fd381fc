/- A region that draws its order: the rule is sound. -/
import Derived.Test.YtnpcgheojijpjaaViQ
set_option linter.unusedVariables false
set_option linter.unusedSimpArgs false
namespace Go.Vi
open Go.RowKit
theorem aft_mem {o : Oper} {i : Nat} : aft o i = true ↔ ∃ e ∈ o.after, e.on = i ∧ Region.binds .any e = true := by
  unfold aft
  rw [List.any_eq_true]
  constructor
  · rintro ⟨e, he, h⟩
    simp only [Bool.and_eq_true] at h
    exact ⟨e, by simpa using he, Nat.eq_of_beq_eq_true h.1, h.2⟩
  · rintro ⟨e, he, h1, h2⟩
    exact ⟨e, by simpa using he, by simp [h1, h2]⟩
def Cl (ops : Array Oper) (L : Nat → Bool) (F : Oper → Nat → Bool) : Prop := ∀ o, (∀ j, aft o j = true → L j = true) → ∀ j, F o j = true → L j = true
theorem stepB_cl {ops : Array Oper} {L : Nat → Bool} {F : Oper → Nat → Bool} (hcl : ∀ k o, ops[k]? = some o → L k = true → ∀ j, aft o j = true → L j = true) (h : Cl ops L F) : Cl ops L (stepB ops F) := by
  intro o ho j hj
  unfold stepB at hj
  rw [Bool.or_eq_true] at hj
  rcases hj with hj | hj
  · exact ho j hj
  rw [List.any_eq_true] at hj
  obtain ⟨e, he, hb⟩ := hj
  rw [Bool.and_eq_true] at hb
  obtain ⟨hb, hF⟩ := hb
  cases hp : ops[e.on]? with
  | none => rw [hp] at hF; cases hF
  | some p =>
    rw [hp] at hF
    exact h p (hcl e.on p hp (ho e.on (aft_mem.2 ⟨e, by simpa using he, rfl, hb⟩))) j hF
theorem aftC_cl {ops : Array Oper} {L : Nat → Bool} (hcl : ∀ k o, ops[k]? = some o → L k = true → ∀ j, aft o j = true → L j = true) : Cl ops L (aftC ops) :=
  stepB_cl hcl (stepB_cl hcl fun o ho j hj => ho j hj)
theorem cnt_le {p q : Nat → Bool} (hpq : ∀ x, p x = true → q x = true) : ∀ l : List Nat, l.countP p ≤ l.countP q
  | [] => Nat.le_refl _
  | x :: l => by
    have := cnt_le hpq l
    rw [List.countP_cons, List.countP_cons]
    have h := hpq x
    cases hp : p x <;> cases hq : q x <;> simp_all <;> omega
theorem cnt_lt {p q : Nat → Bool} {i : Nat} (hq : q i = true) (hp : p i = false) (hpq : ∀ x, p x = true → q x = true) : ∀ {l : List Nat}, i ∈ l → l.countP p < l.countP q
  | [], h => by cases h
  | x :: l, h => by
    rw [List.countP_cons, List.countP_cons]
    rcases List.mem_cons.1 h with rfl | h
    · have := cnt_le hpq l
      rw [hq, hp]
      simp
      omega
    · have := cnt_lt hq hp hpq h
      have h2 := hpq x
      cases hp : p x <;> cases hq : q x <;> simp_all <;> omega
section
variable {P : Program} {Γ : TG} {dm : Bool}
theorem drawR0_any (hΓ : TGOk P Γ) {id : Nat} {ops : Array Oper} {s : AS} {K : AS → Prop} (h : drawR0 P Γ dm id ops s K) {w0 : Base} {g0 : G} {w : World} {a : Act} {Q : Exit → Act → World → Prop} (hS : Sim dm w0 s g0 w a) (hQ : ∀ (s' : AS) (g' : G) (w' : World) (a' : Act), Sim dm w0 s' g' w' a' → K s' → Q .normal a' w') :
    wpAny P .any ops Q ops.size (Array.replicate ops.size false) a { w with drawn := w.drawn + 1 } := by
  obtain ⟨env, res, nx, n⟩ := s
  have hszT : ops.toList.length = ops.size := Array.length_toList
  obtain ⟨recs0, hst0⟩ := dOps_stage (K := K) (env := env) (res := res) (nx := nx) (n := n) hΓ (recs := []) (C := []) (l := ops.toList) rfl (by simp) (fun k o r _ hr => by simp at hr) (by
    have e1 : eE ops env [] (fun _ => true) = env := by unfold eE; cases ops.toList <;> rfl
    rw [e1]
    exact h)
  rw [List.nil_append] at hst0
  let LL : Array Bool → Nat → Bool := fun listed k => listed.getD k false
  have main : ∀ (fuel : Nat) (C : List Nat) (recs : List Rec) (hst : Stage P dm ops env res nx n K C recs) (listed : Array Bool) (g : G) (a : Act) (w : World), listed.size = ops.size → (List.range ops.size).countP (fun i => !listed.getD i true) ≤ fuel → (∀ k o, ops[k]? = some o → LL listed k = true → ∀ j, aft o j = true → LL listed j = true) →
      ((∀ c, c ∈ C → LL listed c = true) ∧ ∀ k, LL listed k = true → k < recs.length) →
      Models dm w0 g (eR res recs (LL listed)) w → (∀ t, RepAV g w (eE ops env recs (LL listed) t) (a.tmps.getD t undef)) → a.tmps.size = n → a.defers = [] → (∀ x, g.U x → x < nx ∨ ∃ k, LL listed k = true ∧ nx + 1024 * k ≤ x ∧ x < nx + 1024 * k + 1024) → ((dm = true → ∀ t v, w0.pin t = some v → g.U t ∧ g.σ t = v) ∧ ∀ t F, w0.pinF t = some F → g.fr t = F) →
      wpAny P .any ops Q fuel listed a w := by
    intro fuel
    -- the first that is not listed is ready
    have hready : ∀ (listed : Array Bool) (m : Nat), listed.size = ops.size → m < ops.size → (∀ i, i ≤ m → EdgeOk ops i) → LL listed m = false → Region.ready .any ops listed ≠ [] := by
      intro listed m hsz hms hedge hm hr
      have hall : ∀ i, i ≤ m → LL listed i = true := by
        intro i
        induction i using Nat.strongRecOn with
        | _ i ih =>
          intro hi
          cases hli : LL listed i with
          | true => rfl
          | false =>
            have ho : ops[i]? = some ops[i] := Array.getElem?_eq_getElem (by omega)
            have hmem : i ∈ Region.ready .any ops listed := by
              rw [mem_ready]
              refine ⟨?_, _, ho, fun e he hb => ih e.on ((hedge i hi _ ho).1 e he hb) (by have := (hedge i hi _ ho).1 e he hb; omega)⟩
              have : i < listed.size := by omega
              show listed.getD i true = false
              have h1 : listed.getD i false = false := hli
              rw [Array.getD_eq_getD_getElem?, Array.getElem?_eq_getElem this] at h1 ⊢
              simpa using h1
            rw [hr] at hmem
            cases hmem
      rw [hall m (Nat.le_refl _)] at hm
      cases hm
    -- nothing is ready: all is done
    have hdone : ∀ (C : List Nat) (recs : List Rec) (hst : Stage P dm ops env res nx n K C recs) (listed : Array Bool) (g : G) (a : Act) (w : World), listed.size = ops.size → ((∀ c, c ∈ C → LL listed c = true) ∧ ∀ k, LL listed k = true → k < recs.length) → Models dm w0 g (eR res recs (LL listed)) w → (∀ t, RepAV g w (eE ops env recs (LL listed) t) (a.tmps.getD t undef)) → a.tmps.size = n → a.defers = [] → (∀ x, g.U x → x < nx ∨ ∃ k, LL listed k = true ∧ nx + 1024 * k ≤ x ∧ x < nx + 1024 * k + 1024) → ((dm = true → ∀ t v, w0.pin t = some v → g.U t ∧ g.σ t = v) ∧ ∀ t F, w0.pinF t = some F → g.fr t = F) →
        Region.ready .any ops listed = [] → Q .normal a w := by
      intro C recs hst listed g a w hsz hC hM hE hn hd hU hpin hr
      cases hst with
      | cur C recs oc rsC KK more hdm ho hg hconf hconfC hedge hlate hfact hrs hop hdd next =>
        have hms : recs.length < ops.size := (Array.getElem?_eq_some_iff.1 ho).1
        refine absurd hr (hready listed recs.length hsz hms hedge ?_)
        cases hl : LL listed recs.length with
        | false => rfl
        | true => have := hC.2 _ hl; omega
      | fin C recs hlen hconf hedge hfact hK =>
        have hall : ∀ i, i < ops.size → LL listed i = true := by
          intro i hi
          cases hl : LL listed i with
          | true => rfl
          | false => exact absurd hr (hready listed i hsz hi (fun j _ => hedge j) hl)
        have hR : eR res recs (LL listed) = eR res recs (fun _ => true) := eR_same fun k hk => hall k (by omega)
        have hEE : eE ops env recs (LL listed) = eE ops env recs (fun _ => true) := eE_same (by omega) fun k hk => hall k (by omega)
        refine hQ _ g w a ⟨?_, fun t => ?_, hn, hd, fun x hx => ?_, hpin.1, hpin.2⟩ hK
        · show Models dm w0 g (eR res recs fun _ => true) w
          rw [← hR]; exact hM
        · show RepAV g w (eE ops env recs (fun _ => true) t) _
          rw [← hEE]; exact hE t
        · show x < nx + 1024 * ops.size
          rcases hU x hx with h1 | ⟨k, hk, h1, h2⟩
          · omega
          · have := hC.2 k hk
            omega
    induction fuel with
    | zero =>
      intro C recs hst listed g a w hsz hcnt hcl hC hM hE hn hd hU hpin
      have hr : Region.ready .any ops listed = [] := by
        rw [List.eq_nil_iff_forall_not_mem]
        intro i hi
        obtain ⟨h0, o, ho, _⟩ := mem_ready.1 hi
        have hi : i < ops.size := (Array.getElem?_eq_some_iff.1 ho).1
        have : 0 < (List.range ops.size).countP (fun i => !listed.getD i true) := List.countP_pos_iff.2 ⟨i, List.mem_range.2 hi, by simp [h0]⟩
        omega
      exact ⟨hr, hdone C recs hst listed g a w hsz hC hM hE hn hd hU hpin hr⟩
    | succ fuel ih =>
      intro C recs hst listed g a w hsz hcnt hcl hC hM hE hn hd hU hpin
      refine ⟨hdone C recs hst listed g a w hsz hC hM hE hn hd hU hpin, fun i hi => ?_⟩
      obtain ⟨h0, o, ho, hdep⟩ := mem_ready.1 hi
      have hisz : i < ops.size := (Array.getElem?_eq_some_iff.1 ho).1
      have hil : i < listed.size := by omega
      have hLi : LL listed i = false := by
        show listed.getD i false = false
        rw [Array.getD_eq_getD_getElem?, Array.getElem?_eq_getElem hil] at h0 ⊢
        simpa using h0
      have haft : ∀ j, aft o j = true → LL listed j = true := fun j hj => by
        obtain ⟨e, he, rfl, hb⟩ := aft_mem.1 hj
        exact hdep e he hb
      have haft2 : ∀ j, aftC ops o j = true → LL listed j = true := aftC_cl hcl o haft
      have hcl2 : ∀ k o, ops[k]? = some o → LL listed k = true → ∀ j, aftC ops o j = true → LL listed j = true := fun k o ho hk => aftC_cl hcl o (hcl k o ho hk)
      have hlenr := hst.len
      -- one more is listed
      have hL' : LL (listed.setIfInBounds i true) = fun x => x == i || LL listed x := by
        funext x
        show (listed.setIfInBounds i true).getD x false = _
        by_cases hx : x = i
        · subst hx; simp [hil]
        · rw [Go.getD_set_ne false (Ne.symm hx)]
          have : (x == i) = false := by simpa using hx
          rw [this, Bool.false_or]
      have hcl' : ∀ k o', ops[k]? = some o' → LL (listed.setIfInBounds i true) k = true → ∀ j, aft o' j = true → LL (listed.setIfInBounds i true) j = true := by
        intro k o' ho' hk j hj
        have hmono : LL listed j = true → LL (listed.setIfInBounds i true) j = true := fun h => getD_set_true h
        by_cases hki : k = i
        · subst hki
          rw [ho] at ho'
          cases ho'
          exact hmono (haft j hj)
        · refine hmono (hcl k o' ho' ?_ j hj)
          have h2 : (listed.setIfInBounds i true).getD k false = true := hk
          rw [Go.getD_set_ne false (Ne.symm hki)] at h2
          exact h2
      have hcnt' : (List.range ops.size).countP (fun x => !(listed.setIfInBounds i true).getD x true) ≤ fuel := by
        have := cnt_lt (p := fun x => !(listed.setIfInBounds i true).getD x true) (q := fun x => !listed.getD x true) (i := i) (by simp [h0]) (by simp [hil]) (fun x hx => by
          by_cases hxi : x = i
          · subst hxi; simp [hil] at hx
          · rwa [Go.getD_set_ne true (Ne.symm hxi)] at hx) (List.mem_range.2 hisz)
        omega
      have hsz' : ∀ v, (a.put o.dst v).tmps.size = n := by
        intro v
        unfold Act.put
        cases o.dst with
        | none => exact hn
        | some d => show (a.tmps.setIfInBounds d v).size = n; rw [Array.size_setIfInBounds]; exact hn
      have hd' : ∀ v, (a.put o.dst v).defers = [] := by
        intro v
        unfold Act.put
        cases o.dst <;> exact hd
      have hput : ∀ (g' : G) (w' : World) (val : AV) (v : Value), (∀ d, o.dst = some d → d < n) → Evo g g' w w' → RepAV g' w' val v → ∀ t, RepAV g' w' (putL (eE ops env recs (LL listed)) (dstU o val) t) ((a.put o.dst v).tmps.getD t undef) := by
        intro g' w' val v hdl e hv t
        unfold dstU
        cases hd : o.dst with
        | none => exact (hE t).evo e
        | some d =>
          have hlt : d < a.tmps.size := by rw [hn]; exact hdl d hd
          show RepAV g' w' (upd (eE ops env recs (LL listed)) d val t) ((a.tmps.setIfInBounds d v).getD t undef)
          by_cases ht : t = d
          · subst ht
            rw [upd_same, Vi.getD_set_same hlt]
            exact hv
          · rw [upd_ne _ _ ht, Vi.getD_set_ne ht]
            exact (hE t).evo e
      have hUp : ∀ (g' : G) (x : Nat), (g.U x ∨ (nx + 1024 * i ≤ x ∧ x < nx + 1024 * i + 1024)) → x < nx ∨ ∃ k, LL (listed.setIfInBounds i true) k = true ∧ nx + 1024 * k ≤ x ∧ x < nx + 1024 * k + 1024 := by
        intro g' x h1
        rcases h1 with h1 | h1
        · rcases hU x h1 with h2 | ⟨k, hk, h2⟩
          · exact .inl h2
          · exact .inr ⟨k, getD_set_true hk, h2⟩
        · exact .inr ⟨i, by show (listed.setIfInBounds i true).getD i false = true; simp [hil], h1.1, h1.2⟩
      have hfree : ∀ x, nx + 1024 * i ≤ x → x < nx + 1024 * i + 1024 → ¬ g.U x := by
        intro x h1 h2 h3
        rcases hU x h3 with h4 | ⟨k, hk, h4, h5⟩
        · omega
        · have : k = i := by omega
          subst this
          rw [hLi] at hk
          cases hk
      rcases Nat.lt_or_ge i recs.length with him | him
      · -- an operation whose record is known
        have hconf := hst.conf
        obtain ⟨r, hr⟩ : ∃ r, recs[i]? = some r := ⟨_, List.getElem?_eq_getElem him⟩
        have hiC : i ∉ C := fun hc => by
          have := hC.1 i hc
          rw [hLi] at this
          cases this
        have hf := hst.facts i o r ho hr hiC
        -- what it looks at is as it is in the text's order
        have hEi : ∀ t, t ∈ looks ops o → eE ops env recs (LL listed) t = eE ops env recs (fun x => decide (x < i)) t := by
          intro t ht
          refine foldU_agree (fun k u hu htk => ?_) rfl
          rw [Nat.zero_add]
          obtain ⟨ok, rk, hok, hrk, rfl⟩ := envsU_get hu
          rw [Array.getElem?_toList] at hok
          have hdst : ok.dst = some t := keys_dstU.1 htk
          have hmem : t ∈ ok.dst.toList := by rw [hdst]; simp
          rcases Nat.lt_trichotomy k i with hki | hki | hki
          · rw [haft2 k (hconf k i ok o rk r hki hok ho hrk hr (by
              have := meets_of hmem (List.mem_append_left o.dst.toList ht)
              simp [confB, this]))]
            simp [hki]
          · subst hki
            rw [hLi]; simp
          · have : LL listed k = false := by
              cases hk : LL listed k with
              | false => rfl
              | true =>
                have := hcl2 k ok hok hk i (hconf i k o ok r rk hki ho hok hr hrk (by
                  have := meets_of hmem ht
                  simp [confB, this]))
                rw [hLi] at this
                cases this
            rw [this]
            simp; omega
        have hRi : ∀ t, t ∈ r.rs.map Prod.fst → eR res recs (LL listed) t = eR res recs (fun x => decide (x < i)) t := by
          intro t ht
          refine foldU_agree (fun k u hu htk => ?_) rfl
          rw [Nat.zero_add]
          rw [List.getElem?_map] at hu
          cases hrk : recs[k]? with
          | none => rw [hrk] at hu; cases hu
          | some rk =>
            rw [hrk] at hu
            cases hu
            have hks : k < ops.size := by
              have := (List.getElem?_eq_some_iff.1 hrk).1
              omega
            have hok : ops[k]? = some ops[k] := Array.getElem?_eq_getElem hks
            rcases Nat.lt_trichotomy k i with hki | hki | hki
            · rw [haft2 k (hconf k i _ o rk r hki hok ho hrk hr (by
                have := meets_of (l := keys rk.u) htk (List.mem_append_left (keys r.u) ht)
                simp [confB, this]))]
              simp [hki]
            · subst hki
              rw [hLi]; simp
            · have : LL listed k = false := by
                cases hk : LL listed k with
                | false => rfl
                | true =>
                  have := hcl2 k _ hok hk i (hconf i k o _ r rk hki ho hok hr hrk (by
                    have := meets_of (l := keys rk.u) htk ht
                    simp [confB, this]))
                  rw [hLi] at this
                  cases this
              rw [this]
              simp; omega
        have hEadd : eE ops env recs (LL (listed.setIfInBounds i true)) = putL (eE ops env recs (LL listed)) (dstU o r.val) := by
          rw [hL']
          have := foldU_add (us := envsU ops.toList recs) (i := 0) (j := i) (L := LL listed) (f := env) (envsU_at (by rw [Array.getElem?_toList]; exact ho) hr) (fun k u' hk hu t ht ht' => by
            rw [Nat.zero_add]
            obtain ⟨ok, rk, hok, hrk, rfl⟩ := envsU_get hu
            rw [Array.getElem?_toList] at hok
            cases hkL : LL listed k with
            | false => rfl
            | true =>
              have := hcl2 k ok hok hkL i (hconf i k o ok r rk hk ho hok hr hrk (by
                have h1 : t ∈ o.dst.toList := by rw [keys_dstU.1 ht]; simp
                have h2 : t ∈ ok.dst.toList := by rw [keys_dstU.1 ht']; simp
                have := meets_of h1 (List.mem_append_right (looks ops ok) h2)
                simp [confB, this]))
              rw [hLi] at this
              cases this) (by rw [Nat.zero_add]; exact hLi)
          rw [Nat.zero_add] at this
          exact this
        have hRadd : eR res recs (LL (listed.setIfInBounds i true)) = putL (eR res recs (LL listed)) r.u := by
          rw [hL']
          have := foldU_add (us := recs.map (·.u)) (i := 0) (j := i) (L := LL listed) (f := res) (u := r.u) (by rw [List.getElem?_map, hr]; rfl) (fun k u' hk hu t ht ht' => by
            rw [Nat.zero_add]
            rw [List.getElem?_map] at hu
            cases hrk : recs[k]? with
            | none => rw [hrk] at hu; cases hu
            | some rk =>
              rw [hrk] at hu
              cases hu
              have hks : k < ops.size := by
                have := (List.getElem?_eq_some_iff.1 hrk).1
                omega
              have hok : ops[k]? = some ops[k] := Array.getElem?_eq_getElem hks
              cases hkL : LL listed k with
              | false => rfl
              | true =>
                have := hcl2 k _ hok hkL i (hconf i k o _ r rk hk ho hok hr hrk (by
                  have := meets_of (l := keys r.u) ht (List.mem_append_right (rk.rs.map Prod.fst) ht')
                  simp [confB, this]))
                rw [hLi] at this
                cases this) (by rw [Nat.zero_add]; exact hLi)
          rw [Nat.zero_add] at this
          exact this
        have hC' : (∀ c, c ∈ C → LL (listed.setIfInBounds i true) c = true) ∧ ∀ k, LL (listed.setIfInBounds i true) k = true → k < recs.length := by
          refine ⟨fun c hc => getD_set_true (hC.1 c hc), fun k hk => ?_⟩
          rw [hL'] at hk
          rw [Bool.or_eq_true] at hk
          rcases hk with hk | hk
          · have : k = i := by simpa using hk
            omega
          · exact hC.2 k hk
        unfold wpOp
        rw [ho]
        have hw : Region.wanted o (yielded ops a.tmps) = r.ex := guard_wanted (g := g) (w := w) hf.guard (fun t ht => by
          rw [← hEi t (List.mem_append_right _ ht)]
          exact hE t)
        dsimp only
        rw [hw]
        cases hex : r.ex with
        | true =>
          rw [if_pos rfl]
          obtain ⟨hop, hrs⟩ := hf.yes hex
          refine .inl (hop w0 g (eR res recs (LL listed)) w a hM (fun x hx => ?_) (fun t x hx => ?_) hfree _ _ fun v w' hp => ?_)
          · cases x with
            | tmp t =>
              show RepAV g w (eE ops env recs (fun x => decide (x < i)) t) _
              rw [← hEi t (List.mem_append_left _ (List.mem_filterMap.2 ⟨.tmp t, by simpa using hx, rfl⟩))]
              exact hE t
            | const v => exact constC_rep g w v
            | func f => exact .fn f
            | global m => trivial
          · rw [hRi t (List.mem_map.2 ⟨(t, x), hx, rfl⟩)]
            exact hrs t x hx
          · obtain ⟨g', hM', e, hv, hU'⟩ := hp
            refine ih C recs hst (listed.setIfInBounds i true) g' _ w' (by simp [hsz]) hcnt' hcl' hC' ?_ ?_ (hsz' v) (hd' v) (fun x hx => hUp g' x (hU' x hx)) ⟨fun hd t v hp => ⟨e.u t (hpin.1 hd t v hp).1, (e.σ t (hpin.1 hd t v hp).1).trans (hpin.1 hd t v hp).2⟩, fun t F hF => by rw [e.fr]; exact hpin.2 t F hF⟩
            · rw [hRadd, ← updL_putL]; exact hM'
            · intro t
              rw [hEadd]
              exact hput g' w' r.val v hf.dst e hv t
        | false =>
          rw [if_neg (by simp)]
          obtain ⟨h1, h2, h3⟩ := hf.no hex
          refine ih C recs hst (listed.setIfInBounds i true) g _ w (by simp [hsz]) hcnt' hcl' hC' ?_ ?_ (hsz' _) (hd' _) (fun x hx => hUp g x (.inl hx)) hpin
          · rw [hRadd, h2]; exact hM
          · intro t
            rw [hEadd]
            exact hput g w r.val undef hf.dst (Evo.refl _ _) (by rw [h1]; rfl) t
      · -- the call that moves the cursor
        cases hst with
        | fin C recs hlen => omega
        | cur C recs oc rsC KK more hdm hoc hg hconf hconfC hedge hlate hfact hrs hop hdd next =>
          subst hdm
          have hi : i = recs.length := by
            rcases Nat.lt_or_ge recs.length i with h1 | h1
            · have := haft2 _ (hlate i o h1 ho)
              have := hC.2 _ this
              omega
            · omega
          subst hi
          rw [hoc] at ho
          cases ho
          have hEi : ∀ t, t ∈ looks ops o → eE ops env recs (LL listed) t = eE ops env recs (fun _ => true) t := by
            intro t ht
            refine foldU_agree (fun k u hu htk => ?_) rfl
            rw [Nat.zero_add]
            obtain ⟨ok, rk, hok, hrk, rfl⟩ := envsU_get hu
            rw [Array.getElem?_toList] at hok
            have hdst : ok.dst = some t := keys_dstU.1 htk
            have hmem : t ∈ ok.dst.toList := by rw [hdst]; simp
            exact haft2 k (hconfC k ok rk hok hrk (by
              have := meets_of hmem (List.mem_append_left o.dst.toList ht)
              simp [confB, this]))
          have hRi : ∀ t, t ∈ rsC.map Prod.fst → eR res recs (LL listed) t = eR res recs (fun _ => true) t := by
            intro t ht
            refine foldU_agree (fun k u hu htk => ?_) rfl
            rw [Nat.zero_add]
            rw [List.getElem?_map] at hu
            cases hrk : recs[k]? with
            | none => rw [hrk] at hu; cases hu
            | some rk =>
              rw [hrk] at hu
              cases hu
              have hks : k < ops.size := by
                have := (List.getElem?_eq_some_iff.1 hrk).1
                omega
              have hok : ops[k]? = some ops[k] := Array.getElem?_eq_getElem hks
              exact haft2 k (hconfC k _ rk hok hrk (by
                have := meets_of (l := keys rk.u) htk ht
                simp [confB, this]))
          have hsnoc : ∀ (r : Rec) (more : List Rec), eE ops env (recs ++ (r :: more)) (LL (listed.setIfInBounds recs.length true)) = putL (eE ops env recs (LL listed)) (dstU o r.val) ∧ eR res (recs ++ (r :: more)) (LL (listed.setIfInBounds recs.length true)) = putL (eR res recs (LL listed)) r.u := by
            intro r more
            have hoff : ∀ k, recs.length + 1 ≤ k → LL (listed.setIfInBounds recs.length true) k = false := by
              intro k hk
              rw [hL']
              have h1 : (k == recs.length) = false := by simp; omega
              show (k == recs.length || LL listed k) = false
              rw [h1, Bool.false_or]
              cases hl : LL listed k with
              | false => rfl
              | true => have := hC.2 k hl; omega
            have hon : LL (listed.setIfInBounds recs.length true) recs.length = true := by rw [hL']; simp
            have hsm : ∀ k, k < recs.length → LL (listed.setIfInBounds recs.length true) k = LL listed k := by
              intro k hk
              rw [hL']
              have h1 : (k == recs.length) = false := by simp; omega
              show (k == recs.length || LL listed k) = LL listed k
              rw [h1, Bool.false_or]
            have hle : recs.length ≤ ops.toList.length := by omega
            have hdr : ops.toList.drop recs.length = o :: ops.toList.drop (recs.length + 1) := by
              have h1 : (ops.toList.drop recs.length)[0]? = some o := by rw [List.getElem?_drop, Nat.add_zero, Array.getElem?_toList]; exact hoc
              cases hd : ops.toList.drop recs.length with
              | nil => rw [hd] at h1; cases h1
              | cons x l =>
                rw [hd] at h1
                cases h1
                rw [← List.drop_drop, hd]
                rfl
            constructor
            · unfold eE
              rw [envsU_app hle, hdr, foldU_cut, foldU_same (us := envsU ops.toList recs) (L' := LL listed) (fun k hk => by rw [envsU_len hle] at hk; rw [Nat.zero_add]; exact hsm k hk), envsU_len hle, Nat.zero_add]
              show foldU (envsU (ops.toList.drop (recs.length + 1)) more) (recs.length + 1) _ (if LL (listed.setIfInBounds recs.length true) recs.length = true then _ else _) = _
              rw [if_pos hon, foldU_id fun k _ => hoff _ (by omega)]
            · unfold eR
              rw [List.map_append, foldU_cut, foldU_same (us := recs.map (·.u)) (L' := LL listed) (fun k hk => by rw [List.length_map] at hk; rw [Nat.zero_add]; exact hsm k hk), List.length_map, Nat.zero_add]
              show foldU (more.map (·.u)) (recs.length + 1) _ (if LL (listed.setIfInBounds recs.length true) recs.length = true then _ else _) = _
              rw [if_pos hon, foldU_id fun k _ => hoff _ (by omega)]
          unfold wpOp
          rw [hoc]
          have hw : Region.wanted o (yielded ops a.tmps) = true := by simp [Region.wanted, hg]
          dsimp only
          rw [hw, if_pos rfl]
          refine .inl (hop w0 g (eR res recs (LL listed)) w a hM (fun x hx => ?_) (fun t x hx => ?_) hfree _ _ fun v w' hp => ?_)
          · cases x with
            | tmp t =>
              show RepAV g w (eE ops env recs (fun _ => true) t) _
              rw [← hEi t (List.mem_append_left _ (List.mem_filterMap.2 ⟨.tmp t, by simpa using hx, rfl⟩))]
              exact hE t
            | const v => exact constC_rep g w v
            | func f => exact .fn f
            | global m => trivial
          · rw [hRi t (List.mem_map.2 ⟨(t, x), hx, rfl⟩)]
            exact hrs t x hx
          · obtain ⟨val, u, hkk, g', hM', e, hv, hU'⟩ := hp
            obtain ⟨hs1, hs2⟩ := hsnoc ⟨true, val, u, rsC⟩ (more val u)
            refine ih (recs.length :: C) _ (next val u hkk) (listed.setIfInBounds recs.length true) g' _ w' (by simp [hsz]) hcnt' hcl' ⟨fun c hc => ?_, fun k hk => ?_⟩ ?_ ?_ (hsz' v) (hd' v) (fun x hx => hUp g' x (hU' x hx)) ⟨fun hd => (by cases hd), fun t F hF => by rw [e.fr]; exact hpin.2 t F hF⟩
            · rcases List.mem_cons.1 hc with rfl | hc
              · show (listed.setIfInBounds recs.length true).getD recs.length false = true
                simp [hil]
              · exact getD_set_true (hC.1 c hc)
            · rw [hL', Bool.or_eq_true] at hk
              rw [List.length_append, List.length_cons]
              rcases hk with hk | hk
              · have : k = recs.length := by simpa using hk
                omega
              · have := hC.2 k hk
                omega
            · rw [hs2, ← updL_putL]; exact hM'
            · intro t
              rw [hs1]
              exact hput g' w' val v (hdd val u hkk) e hv t
  have hL0 : ∀ k, LL (Array.replicate ops.size false) k = false := by
    intro k
    show (Array.replicate ops.size false).getD k false = false
    simp only [Array.getD_eq_getD_getElem?, Array.getElem?_replicate]
    split <;> rfl
  have hR0 : eR res recs0 (LL (Array.replicate ops.size false)) = res := by
    funext t
    exact foldU_none (fun k u _ _ => by rw [Nat.zero_add]; exact hL0 k)
  have hE0 : eE ops env recs0 (LL (Array.replicate ops.size false)) = env := by
    funext t
    exact foldU_none (fun k u _ _ => by rw [Nat.zero_add]; exact hL0 k)
  obtain ⟨hM1, he1⟩ := hS.mod.draw (w' := { w with drawn := w.drawn + 1 }) rfl rfl rfl rfl
  refine main ops.size [] recs0 hst0 (Array.replicate ops.size false) g0 a _ (by simp) ?_ (fun k o _ h => by rw [hL0] at h; cases h) ⟨fun c hc => (by cases hc), fun k hk => (by rw [hL0] at hk; cases hk)⟩ (by rw [hR0]; exact hM1) (fun t => by rw [hE0]; exact (hS.env t).evo he1) hS.size hS.defers (fun x hx => .inl (hS.next x hx)) ⟨hS.pin, hS.pinF⟩
  exact Nat.le_trans (List.countP_le_length) (by simp)
theorem drawR0_ok (hΓ : TGOk P Γ) (hm : P.follows .mixedOrders = true) : DrawOk P Γ dm (drawR0 P Γ dm) :=
  fun id ops s K h w0 g0 w a Q hS hQ => wp_region_any hm (drawR0_any hΓ h hS hQ)
theorem posOf_notin {p : List Nat} {x : Nat} (h : x ∉ p) : posOf p x = p.length := by
  induction p with
  | nil => rfl
  | cons a l ih =>
    have h1 : Nat.beq a x = false := by
      cases hb : Nat.beq a x with
      | false => rfl
      | true => exact absurd (Nat.eq_of_beq_eq_true hb) fun e => h (by rw [e]; exact List.mem_cons_self ..)
    simp only [posOf, h1, List.length_cons, ih fun hm => h (List.mem_cons_of_mem _ hm)]
structure PermOk (p : List Nat) (ops : Array Oper) : Prop where
  len : p.length = ops.size
  at_ : ∀ i, i < ops.size → p[posOf p i]? = some i
  of_ : ∀ k, k < ops.size → ∃ i, p[k]? = some i ∧ posOf p i = k ∧ i < ops.size
theorem perm_ok {p : List Nat} {ops : Array Oper} (h : permB p ops = true) : PermOk p ops := by
  unfold permB at h
  rw [Bool.and_eq_true, Bool.and_eq_true, List.all_eq_true, List.all_eq_true] at h
  obtain ⟨⟨h1, h2⟩, h3⟩ := h
  refine ⟨Nat.eq_of_beq_eq_true h1, fun i hi => ?_, fun k hk => ?_⟩
  · have := h2 i (List.mem_range.2 hi)
    split at this
    · rename_i j hj
      rw [hj, Nat.eq_of_beq_eq_true this]
    · cases this
  · have := h3 k (List.mem_range.2 hk)
    split at this
    · rename_i i hi
      rw [Bool.and_eq_true] at this
      exact ⟨i, hi, Nat.eq_of_beq_eq_true this.1, by have := this.2; unfold Nat.blt at this; exact Nat.le_of_ble_eq_true this⟩
    · cases this
section
variable {p : List Nat} {ops : Array Oper}
theorem PermOk.size (h : PermOk p ops) : (permOps p ops).size = ops.size := by
  unfold permOps
  simp [h.len]
theorem PermOk.lt (h : PermOk p ops) {i : Nat} (hi : i < ops.size) : posOf p i < ops.size := by
  have := (List.getElem?_eq_some_iff.1 (h.at_ i hi)).1
  rw [h.len] at this
  exact this
theorem PermOk.ge (h : PermOk p ops) {i : Nat} (hi : ops.size ≤ i) : posOf p i = ops.size := by
  rw [posOf_notin, h.len]
  intro hm
  obtain ⟨k, hk⟩ := List.getElem?_of_mem hm
  obtain ⟨j, hj, _, hlt⟩ := h.of_ k (by have := (List.getElem?_eq_some_iff.1 hk).1; rw [h.len] at this; exact this)
  rw [hk] at hj
  cases hj
  omega
theorem PermOk.get (h : PermOk p ops) {i : Nat} {o : Oper} (ho : ops[i]? = some o) : (permOps p ops)[posOf p i]? = some (renO p o) := by
  have hi : i < ops.size := (Array.getElem?_eq_some_iff.1 ho).1
  unfold permOps
  rw [List.getElem?_toArray, List.getElem?_map, h.at_ i hi]
  simp [ho]
theorem PermOk.dst (h : PermOk p ops) (i : Nat) : ((permOps p ops)[posOf p i]?).bind (·.dst) = (ops[i]?).bind (·.dst) := by
  rcases Nat.lt_or_ge i ops.size with hi | hi
  · rw [h.get (Array.getElem?_eq_getElem hi), Array.getElem?_eq_getElem hi]
    rfl
  · rw [Array.getElem?_eq_none hi, h.ge hi, Array.getElem?_eq_none (by rw [h.size]; exact Nat.le_refl _)]
theorem PermOk.ready (h : PermOk p ops) {l l' : Array Bool} (hl : l.size = ops.size) (hl' : l'.size = ops.size) (hg : ∀ i, i < ops.size → l'.getD (posOf p i) false = l.getD i false) {i : Nat} (hi : i < ops.size) : i ∈ Region.ready .any ops l ↔ posOf p i ∈ Region.ready .any (permOps p ops) l' := by
  have hgt : l'.getD (posOf p i) true = l.getD i true := by
    have h1 := hg i hi
    have h2 := h.lt hi
    simp only [Array.getD_eq_getD_getElem?] at h1 ⊢
    rw [Array.getElem?_eq_getElem (by omega), Array.getElem?_eq_getElem (by omega)] at h1 ⊢
    simpa using h1
  have hga : ∀ j, l'.getD (posOf p j) false = l.getD j false := fun j => by
    rcases Nat.lt_or_ge j ops.size with hj | hj
    · exact hg j hj
    · simp only [Array.getD_eq_getD_getElem?]
      rw [Array.getElem?_eq_none (by rw [hl', h.ge hj]; exact Nat.le_refl _), Array.getElem?_eq_none (by omega)]
  rw [mem_ready, mem_ready, hgt]
  constructor
  · rintro ⟨h0, o, ho, hd⟩
    refine ⟨h0, _, h.get ho, fun e he hb => ?_⟩
    unfold renO at he
    simp only [List.mem_toArray, List.mem_map] at he
    obtain ⟨e0, he0, rfl⟩ := he
    show l'.getD (posOf p e0.on) false = true
    rw [hga]
    exact hd e0 (by simpa using he0) hb
  · rintro ⟨h0, o, ho, hd⟩
    have hoi : ops[i]? = some ops[i] := Array.getElem?_eq_getElem hi
    rw [h.get hoi] at ho
    cases ho
    refine ⟨h0, _, hoi, fun e he hb => ?_⟩
    have := hd { e with on := posOf p e.on } (by
      unfold renO
      simp only [List.mem_toArray, List.mem_map]
      exact ⟨e, by simpa using he, rfl⟩) hb
    rw [← hga]
    exact this
theorem PermOk.wpOp (h : PermOk p ops) {Q : Exit → Act → World → Prop} {i : Nat} (hi : i < ops.size) {K : Act → World → Prop} {a : Act} {w : World} (hh : wpOp P (permOps p ops) Q (posOf p i) K a w) : wpOp P ops Q i K a w := by
  have hoi : ops[i]? = some ops[i] := Array.getElem?_eq_getElem hi
  unfold Go.wpOp at hh ⊢
  rw [h.get hoi] at hh
  rw [hoi]
  dsimp only at hh ⊢
  have hw : Region.wanted (renO p ops[i]) (yielded (permOps p ops) a.tmps) = Region.wanted ops[i] (yielded ops a.tmps) := by
    unfold Region.wanted renO
    dsimp only
    cases hg : ops[i].guard with
    | none => rfl
    | some q =>
      obtain ⟨j, b⟩ := q
      show (yielded (permOps p ops) a.tmps (posOf p j) == some b) = (yielded ops a.tmps j == some b)
      unfold yielded
      rw [h.dst]
  rw [hw] at hh
  exact hh
theorem PermOk.wpAny (h : PermOk p ops) {Q : Exit → Act → World → Prop} : ∀ (fuel : Nat) (l l' : Array Bool) (a : Act) (w : World), l.size = ops.size → l'.size = ops.size → (∀ i, i < ops.size → l'.getD (posOf p i) false = l.getD i false) → wpAny P .any (permOps p ops) Q fuel l' a w → wpAny P .any ops Q fuel l a w := by
  have hnil : ∀ {l l' : Array Bool}, l.size = ops.size → l'.size = ops.size → (∀ i, i < ops.size → l'.getD (posOf p i) false = l.getD i false) → (Region.ready .any ops l = [] ↔ Region.ready .any (permOps p ops) l' = []) := by
    intro l l' hl hl' hg
    rw [List.eq_nil_iff_forall_not_mem, List.eq_nil_iff_forall_not_mem]
    constructor
    · intro hn k hk
      obtain ⟨_, o, ho, _⟩ := mem_ready.1 hk
      have hks : k < ops.size := by have := (Array.getElem?_eq_some_iff.1 ho).1; rw [h.size] at this; exact this
      obtain ⟨i, _, rfl, hi⟩ := h.of_ k hks
      exact hn i ((h.ready hl hl' hg hi).2 hk)
    · intro hn i hi
      obtain ⟨_, o, ho, _⟩ := mem_ready.1 hi
      exact hn _ ((h.ready hl hl' hg (Array.getElem?_eq_some_iff.1 ho).1).1 hi)
  intro fuel
  induction fuel with
  | zero =>
    intro l l' a w hl hl' hg hh
    exact ⟨(hnil hl hl' hg).2 hh.1, hh.2⟩
  | succ fuel ih =>
    intro l l' a w hl hl' hg hh
    refine ⟨fun hr => hh.1 ((hnil hl hl' hg).1 hr), fun i hi => ?_⟩
    obtain ⟨_, o, ho, _⟩ := mem_ready.1 hi
    have his : i < ops.size := (Array.getElem?_eq_some_iff.1 ho).1
    refine h.wpOp his (wpOp_mono (fun a w hh2 => ih _ _ a w (by simpa using hl) (by simpa using hl') (fun j hj => ?_) hh2) (hh.2 _ ((h.ready hl hl' hg his).1 hi)))
    by_cases hji : j = i
    · subst hji
      have h1 := h.lt his
      simp only [Array.getD_eq_getD_getElem?]
      rw [Array.getElem?_setIfInBounds_self_of_lt (by omega), Array.getElem?_setIfInBounds_self_of_lt (by omega)]
    · have hne : posOf p i ≠ posOf p j := fun e => by
        have h1 := h.at_ i his
        have h2 := h.at_ j hj
        rw [e, h2] at h1
        exact hji (Option.some.inj h1)
      rw [Go.getD_set_ne false hne, Go.getD_set_ne false (Ne.symm hji)]
      exact hg j hj
end
theorem drawR_ok (hΓ : TGOk P Γ) (hm : P.follows .mixedOrders = true) : DrawOk P Γ dm (drawR P Γ dm) := by
  intro id ops s K h
  unfold drawR at h
  split at h
  · cases dm with
    | true => exact drawR0_ok hΓ hm id ops s K h
    | false =>
      dsimp only at h
      split at h
      · split at h
        · exact drawR0_ok hΓ hm id ops s K h
        · intro w0 g w a Q hS hQ
          exact drawR0_ok hΓ hm id ops s _ h w0 g w a Q hS fun s1 g1 w1 a1 hS1 ⟨s2, hle, hK⟩ => by
            obtain ⟨g2, hS2⟩ := hle w0 g1 w1 a1 hS1
            exact hQ s2 g2 w1 a1 hS2 hK
      · obtain ⟨p, hp, h⟩ := h
        have hp := perm_ok hp
        intro w0 g w a Q hS hQ
        have h2 := drawR0_any hΓ h hS hQ
        rw [hp.size] at h2
        refine wp_region_any hm (hp.wpAny _ _ _ _ _ (by simp) (by simp) (fun i hi => ?_) h2)
        have h1 := hp.lt hi
        simp [Array.getD_eq_getD_getElem?, Array.getElem?_replicate, h1, hi]
  · obtain ⟨s', hle, h⟩ := h
    intro w0 g w a Q hS hQ
    obtain ⟨g', hS'⟩ := hle w0 g w a hS
    exact drawR0_ok hΓ hm id ops s' K h w0 g' w a Q hS' hQ
end
end Go.Vi
