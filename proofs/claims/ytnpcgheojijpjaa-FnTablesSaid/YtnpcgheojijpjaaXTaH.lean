/- Drawn tables. -/
import Derived.Test.YtnpcgheojijpjaaXTaG
namespace Go.Proofs.Ytnpcgheojijpjaa
open Go Go.Vi
set_option linter.unusedVariables false
set_option linter.unusedSimpArgs false
set_option maxRecDepth 100000
theorem go_small (l : List XRule) (u sp : Int) (q : XReq) (hq : smallQ q) : ∀ (fuel : Nat) (f : Int) (out out2 : List XPart), 0 ≤ f → (∀ p ∈ out, smallQ p.Req) → partsGo l u sp q.At (cntOf q) q fuel f out = some out2 → ∀ p ∈ out2, smallQ p.Req
  | 0, _, _, _, _, _, h => by cases h
  | fuel + 1, f, out, out2, hf, ho, h => by
    unfold partsGo at h
    split at h
    · cases h; exact ho
    rename_i hn
    split at h
    · cases h
    rename_i hr0
    split at h
    · cases h
    rename_i r hr
    rcases ruleAt_cases l u sp (q.At + f) with ⟨h1, _⟩ | ⟨k, hk, h1, h2, _⟩
    · omega
    rw [h1] at hr
    have hrr : l[k] = r := by
      rw [show ((k : Int)).toNat = k from rfl, List.getElem?_eq_getElem hk] at hr
      exact Option.some.inj hr
    rw [hrr] at h2
    have hh := hit_facts h2
    have ht : 1 ≤ takeN r q.At (cntOf q) f ∧ takeN r q.At (cntOf q) f ≤ cntOf q - f := by
      unfold takeN
      split <;> omega
    refine go_small l u sp q hq fuel _ _ _ (by omega) (fun p hp => ?_) h
    rcases List.mem_append.1 hp with hp | hp
    · exact ho p hp
    · simp at hp
      subst hp
      obtain ⟨⟨hN, hN2⟩, hW, hB⟩ := hq
      have h1 := cut_bound q.Words f (f + takeN r q.At (cntOf q) f)
      have h2 := cut_bound q.Bits f (f + takeN r q.At (cntOf q) f)
      refine ⟨?_, ?_, ?_⟩
      · show 0 ≤ (if q.N > 0 then takeN r q.At (cntOf q) f else 0) ∧ (if q.N > 0 then takeN r q.At (cntOf q) f else 0) ≤ 6
        split
        · have : cntOf q = q.N := by unfold cntOf; rw [if_pos (by omega)]
          omega
        · omega
      · show (if q.Kind = 22 then q.Words else cutL q.Words f (f + takeN r q.At (cntOf q) f)).length ≤ 6
        split <;> omega
      · show (cutL q.Bits f (f + takeN r q.At (cntOf q) f)).length ≤ 13
        omega
theorem parts_small (l : List XRule) (u : Int) (q : XReq) (hq : smallQ q) : (parts l u q).1.length ≤ 8 ∧ ∀ p ∈ (parts l u q).1, smallQ p.Req := by
  have e : ([] : List XPart).length ≤ 8 ∧ ∀ p ∈ ([] : List XPart), smallQ p.Req := ⟨by decide, fun p hp => by cases hp⟩
  unfold parts
  split
  · exact e
  split
  · exact e
  split
  · unfold bothOf
    split
    · exact e
    split
    · exact e
    · split
      · exact e
      · exact ⟨by show 1 ≤ 8; omega, fun p hp => by simp at hp; subst hp; exact hq⟩
  · cases hg : partsGo l u (spOf q.Kind) q.At (cntOf q) q ((cntOf q).toNat + 1) 0 [] with
    | none => exact e
    | some out =>
      unfold partsOf
      dsimp only
      split
      · exact e
      · exact ⟨by show out.length ≤ 8; omega, go_small l u _ q hq _ _ _ _ (by decide) (fun p hp => by cases hp) hg⟩
structure KP (p : XPend) : Prop where
  req : smallQ p.Req
  len : 1 ≤ p.Parts.length ∧ p.Parts.length ≤ 8
  parts : ∀ x ∈ p.Parts, smallQ x.Req
  has : p.Has.length = p.Parts.length
  told : p.Told.length = p.Parts.length
  tot : ∀ a ∈ p.Told, a.tot ≤ 40
def KT (t : XTable) : Prop := t.List_.length ≤ 16 ∧ ∀ p ∈ t.List_, KP p
theorem smallQ_tot {q : XReq} (h : smallQ q) : q.tot ≤ 19 := by
  have := h.2
  have e : q.tot = q.Words.length + q.Bits.length := rfl
  omega
theorem parts_tot19 {l : List XPart} (h : ∀ x ∈ l, smallQ x.Req) : XPart.sTot l ≤ 20 * l.length := by
  have h1 := sum_all XPart.tot 19 l (fun x hx => smallQ_tot (h x hx))
  have := parts_tot l
  omega
theorem kp_tot {p : XPend} (h : KP p) : p.tot ≤ 600 := by
  have h1 := smallQ_tot h.req
  have h2 := parts_tot19 h.parts
  have h3 := sum_all XResp.tot 40 p.Told h.tot
  have h4 := resps_tot p.Told
  have := pend_tot p
  have := h.len
  have := h.has
  have := h.told
  omega
theorem kt_tot {t : XTable} (h : KT t) : t.tot ≤ 10000 := by
  have h1 := sum_all XPend.tot 600 t.List_ (fun x hx => kp_tot (h.2 x hx))
  have h2 := table_tot t
  have h3 := pends_tot t.List_
  have := h.1
  omega
theorem kp_fill {p : XPend} (h : KP p) (k : Nat) {a : XResp} (ha : a.tot ≤ 40) : KP (fillP p k a) :=
  ⟨h.req, h.len, h.parts, by show (p.Has.set k true).length = _; rw [List.length_set]; exact h.has, by show (p.Told.set k a).length = _; rw [List.length_set]; exact h.told, fun x hx => by
    rcases List.mem_or_eq_of_mem_set (show x ∈ p.Told.set k a from hx) with hx | rfl
    · exact h.tot x hx
    · exact ha⟩
theorem kt_fill {t : XTable} (h : KT t) (id part : Int) {a : XResp} (ha : a.tot ≤ 40) : KT (tableFill t id part a).1 := by
  unfold tableFill
  split
  · split
    · exact h
    · rename_i h0
      rcases find_cases t id with h1 | ⟨k, hk, h1⟩
      · omega
      rw [h1, show ((k : Int)).toNat = k from rfl, show t.List_.getD k XPend.zero = t.List_[k] by simp [List.getD, List.getElem?_eq_getElem hk]]
      have hp := h.2 _ (List.getElem_mem hk)
      split
      · split
        · refine ⟨?_, fun p hp => h.2 p ?_⟩
          · show (rmv k t.List_).length ≤ 16
            unfold rmv
            rw [List.length_append, List.length_take, List.length_drop]
            have := h.1
            omega
          · rcases List.mem_append.1 (show p ∈ t.List_.take k ++ t.List_.drop (k + 1) from hp) with h2 | h2
            · exact List.mem_of_mem_take h2
            · exact List.mem_of_mem_drop h2
        · refine ⟨by show (t.List_.set k _).length ≤ 16; rw [List.length_set]; exact h.1, fun p h2 => ?_⟩
          rcases List.mem_or_eq_of_mem_set (show p ∈ t.List_.set k _ from h2) with h2 | rfl
          · exact h.2 p h2
          · exact kp_fill hp _ ha
      · exact h
  · exact h
theorem kt_open {t : XTable} (h : KT t) (s g u : Int) {q : XReq} (hq : smallQ q) {ps : List XPart} (hp : ∀ x ∈ ps, smallQ x.Req) : KT (tableOpen t s g u q ps).1 := by
  unfold tableOpen
  split
  · exact h
  · rename_i hc
    simp only [Bool.or_eq_true, Bool.not_eq_true', decide_eq_true_eq, not_or, Bool.not_eq_false] at hc
    obtain ⟨⟨⟨h1, h2⟩, h3⟩, h4⟩ := hc
    obtain ⟨_, _, _, _, _, h5, h6⟩ := pendSmall h4
    have ht := h.1
    refine ⟨by show (t.List_ ++ [_]).length ≤ 16; rw [List.length_append]; simp; omega, fun p h7 => ?_⟩
    rcases List.mem_append.1 (show p ∈ t.List_ ++ [openP t s g u q ps] from h7) with h7 | h7
    · exact h.2 p h7
    · simp at h7
      subst h7
      refine ⟨hq, ⟨h5, h6⟩, hp, ?_, ?_, fun a ha => ?_⟩
      · show (List.replicate ps.length false).length = ps.length; simp
      · show (List.replicate ps.length XResp.zero).length = ps.length; simp
      · rw [List.eq_of_mem_replicate (show a ∈ List.replicate ps.length XResp.zero from ha)]
        exact Nat.zero_le _
set_option maxHeartbeats 4000000 in
theorem d_Tab (code : List Int) (hl : code.length ≤ 9223372036854775807) (most : Int) (hm : 0 < most) (hm2 : most ≤ 60) : CurC Try.prog 19 1 (code.map byteEl) [i64v most] (fun rs => ∃ t : XTable, rs = [t.v] ∧ KT t) := by
  refine curC_of (Γ := lookT tbl) (il := ilist) tg dr Try.func19 rfl (by kernel_rfl) rfl (Nat.le_of_ble_eq_true rfl) ?_
  intro i h hi
  have hB := d_Below code hl
  have hO := d_Once code hl 2 (by decide)
  have hR := d_One code hl
  have hQ := d_Req code hl 0 (by decide) (by decide)
  have hT := d_Tell code hl
  generalize code.map byteEl = L at *
  conv => whnf
  refine inl_cur (Γ := lookT tbl) [3] ?_
  conv => whnf
  refine cur_i (hB 3 (by decide)) hi ?_
  rintro _ i h ⟨nx, rfl, hn, hn2⟩ hi
  conv => whnf
  refine inl_cur (Γ := lookT tbl) [] ?_
  conv => whnf
  refine cur_i hR hi ?_
  rintro _ i h ⟨rules, rfl, hrl⟩ hi
  conv => whnf
  refine inl_cur (Γ := lookT tbl) [3] ?_
  conv => whnf
  refine cur_i (hB most hm) hi ?_
  rintro _ i h ⟨x, rfl, hx, hx2⟩ hi
  conv => whnf
  refine loop_i (fun s : Nat × XTable × Int × Int => ⟨envL [(0, .c (.ptr 0 0)), (4, .c (.ptr 6 0)), (5, .c (.ptr 3 0)), (6, .c (.row 5)), (7, .c (.pv (.int .i64 s.1)))],
      resL [(0, .box [.row 1, .pv (.int .i64 s.2.2.1), .pv (.int .i64 s.2.2.2)]), (1, .ro 1 L), (2, .env [(0, .c (.ptr 0 0)), (1, .c (.row 1))]),
        (3, .box [.pv (.int .i64 s.2.1.Next), .row 4]), (4, .row true 13 (s.2.1.List_.map XPend.ps)), (5, .row true 7 (rules.map XRule.ps)), (6, .box [.pv (.int .i64 0), .nil 13])], 7, 83⟩)
    (fun s => (s.1 ≤ x.toNat ∧ KT s.2.1) ∧ 0 ≤ s.2.2.1) (fun s => s.1) (x.toNat, ⟨nx, []⟩, i, h) ⟨⟨Nat.le_refl _, Nat.zero_le _, fun p hp => by cases hp⟩, hi⟩
    ((le_rowE 5 1 rfl rfl rfl).trans (le_mk [(3, _), (4, _), (5, _), (6, _)] rfl ⟨⟨rfl, rfl⟩, ⟨rfl, rfl⟩, ⟨rfl, rfl⟩, ⟨rfl, rfl⟩, ⟨i64_eq (by show x = (x.toNat : Int); omega), rfl⟩, trivial⟩ ⟨⟨rfl, rfl⟩, ⟨rfl, rfl⟩, ⟨⟨rfl, rfl⟩, _, rfl, ⟨rfl, rfl⟩, ⟨rfl, rfl⟩, trivial⟩, ⟨rfl, rfl⟩, ⟨rfl, rfl⟩, ⟨rfl, rfl⟩, ⟨rfl, rfl⟩, trivial⟩ rfl)) ?_
  rintro ⟨k, t, i, h⟩ ⟨⟨hk, hd⟩, hi⟩
  dsimp only at hk hd hi
  have htot := kt_tot hd
  conv => whnf
  refine br_i (fun hb => ?_) (fun hb => ?_)
  · have hk0 : 0 < k := by simpa using hb
    have hle : ((k : Int) - 1) = ((k - 1 : Nat) : Int) := by omega
    have hwr : IntKind.i64.wrap ((k : Int) - 1) = ((k - 1 : Nat) : Int) := by rw [hle]; exact wrap_ok (by omega) (by omega)
    clear hb
    conv => whnf
    refine br_i (fun hb => ?_) (fun hb => ?_)
    · have hlen : 0 < t.List_.length := by simpa using hb
      conv => whnf
      refine inl_cur (Γ := lookT tbl) [3] ?_
      conv => whnf
      refine cur_i hO hi ?_
      rintro _ i h ⟨y, rfl⟩ hi
      conv => whnf
      refine br_i (fun hb => ?_) (fun hb => ?_)
      · conv => whnf
        refine ⟨[0, 1, 2, 3, 4, 5, 9, 6, 7, 8, 10], rfl, ?_⟩
        conv => whnf
        refine And.intro rfl ?_
        conv => whnf
        refine cur_i (hB _ (by rw [List.length_map]; show (0 : Int) < (t.List_.length : Int); omega)) hi ?_
        rintro _ i h ⟨y, rfl, hy, hy2⟩ hi
        rw [List.length_map] at hy2
        have hy2 : y < (t.List_.length : Int) := hy2
        obtain ⟨m, rfl⟩ : ∃ m : Nat, y = m := ⟨y.toNat, by omega⟩
        have hm3 : m < t.List_.length := by omega
        conv => whnf
        refine ⟨m, ⟨⟨rfl, by rw [List.length_map]; exact hm3⟩, rfl⟩, ?_⟩
        conv => whnf
        refine ⟨_, ⟨rfl, hi_get hm3⟩, ?_⟩
        have hp := hd.2 _ (List.getElem_mem hm3)
        generalize t.List_[m] = p at *
        conv => whnf
        refine And.intro rfl ?_
        conv => whnf
        refine inl_cur (Γ := lookT tbl) [3] ?_
        conv => whnf
        refine cur_i (hB _ (by rw [List.length_map]; have := hp.len; omega)) hi ?_
        rintro _ i h ⟨y, rfl, hz, hz2⟩ hi
        rw [List.length_map] at hz2
        obtain ⟨j, rfl⟩ : ∃ j : Nat, y = j := ⟨y.toNat, by omega⟩
        have hj : j < p.Parts.length := by omega
        have ix := idx_map p.Parts XPart.ps j hj 8
        have hxq := hp.parts _ (List.getElem_mem hj)
        generalize p.Parts[j] = pt at *
        conv => whnf
        refine ⟨_, ix, ?_⟩
        conv => whnf
        refine And.intro rfl ?_
        conv => whnf
        refine cur_i (hT pt.Req hxq) hi ?_
        rintro _ i h ⟨a, rfl, ha⟩ hi
        conv => whnf
        refine call_i (s_TableFill t p.Id j a (by omega)) ?_
        have hd2 := kt_fill hd p.Id j ha
        generalize tableFill t p.Id j a = R at *
        obtain ⟨t2, b2⟩ := R
        conv => whnf
        refine And.intro rfl ?_
        conv => whnf
        exact ⟨(k - 1, t2, i, h), ⟨⟨⟨by show k - 1 ≤ x.toNat; omega, hd2⟩, hi⟩, by show k - 1 < k; omega⟩, le_mk [(3, _), (4, _), (5, _), (6, _)] rfl ⟨⟨rfl, rfl⟩, ⟨rfl, rfl⟩, ⟨rfl, rfl⟩, ⟨rfl, rfl⟩, ⟨i64_eq hwr, rfl⟩, trivial⟩ ⟨⟨rfl, rfl⟩, ⟨rfl, rfl⟩, ⟨⟨rfl, rfl⟩, _, rfl, ⟨rfl, rfl⟩, ⟨rfl, rfl⟩, trivial⟩, ⟨rfl, rfl⟩, ⟨rfl, rfl⟩, ⟨rfl, rfl⟩, ⟨rfl, rfl⟩, trivial⟩ rfl⟩
      · conv => whnf
        refine inl_cur (Γ := lookT tbl) [3] ?_
        conv => whnf
        refine cur_i hQ hi ?_
        rintro _ i h ⟨q, rfl, hg⟩ hi
        have hq := small_of hg
        have hps := parts_small rules 1 q hq
        conv => whnf
        refine call_i (s_Parts rules 1 q (fun a b c => s_Both rules 1 q a b c)) ?_
        generalize parts rules 1 q = R at *
        obtain ⟨ps, pf⟩ := R
        conv => whnf
        refine ⟨[0, 1, 3, 4, 5, 2, 6, 7, 8, 9, 10, 11], rfl, ?_⟩
        conv => whnf
        refine And.intro rfl ?_
        conv => whnf
        refine cur_i (hB 3 (by decide)) hi ?_
        rintro _ i h ⟨y, rfl, hy, hy2⟩ hi
        conv => whnf
        refine call_i (s_TableOpen t y k 1 q ps (by omega) (by have := smallQ_tot hq; omega) (by have := parts_tot19 hps.2; have := hps.1; dsimp only at *; omega)) ?_
        have hd2 := kt_open hd y k 1 hq hps.2
        generalize tableOpen t y k 1 q ps = R at *
        obtain ⟨t2, b2⟩ := R
        conv => whnf
        refine And.intro rfl ?_
        conv => whnf
        exact ⟨(k - 1, t2, i, h), ⟨⟨⟨by show k - 1 ≤ x.toNat; omega, hd2⟩, hi⟩, by show k - 1 < k; omega⟩, le_mk [(3, _), (4, _), (5, _), (6, _)] rfl ⟨⟨rfl, rfl⟩, ⟨rfl, rfl⟩, ⟨rfl, rfl⟩, ⟨rfl, rfl⟩, ⟨i64_eq hwr, rfl⟩, trivial⟩ ⟨⟨rfl, rfl⟩, ⟨rfl, rfl⟩, ⟨⟨rfl, rfl⟩, _, rfl, ⟨rfl, rfl⟩, ⟨rfl, rfl⟩, trivial⟩, ⟨rfl, rfl⟩, ⟨rfl, rfl⟩, ⟨rfl, rfl⟩, ⟨rfl, rfl⟩, trivial⟩ rfl⟩
    · conv => whnf
      refine inl_cur (Γ := lookT tbl) [3] ?_
      conv => whnf
      refine cur_i hQ hi ?_
      rintro _ i h ⟨q, rfl, hg⟩ hi
      have hq := small_of hg
      have hps := parts_small rules 1 q hq
      conv => whnf
      refine call_i (s_Parts rules 1 q (fun a b c => s_Both rules 1 q a b c)) ?_
      generalize parts rules 1 q = R at *
      obtain ⟨ps, pf⟩ := R
      conv => whnf
      refine ⟨[0, 1, 3, 4, 5, 2, 6, 7, 8, 9, 10, 11], rfl, ?_⟩
      conv => whnf
      refine And.intro rfl ?_
      conv => whnf
      refine cur_i (hB 3 (by decide)) hi ?_
      rintro _ i h ⟨y, rfl, hy, hy2⟩ hi
      conv => whnf
      refine call_i (s_TableOpen t y k 1 q ps (by omega) (by have := smallQ_tot hq; omega) (by have := parts_tot19 hps.2; have := hps.1; dsimp only at *; omega)) ?_
      have hd2 := kt_open hd y k 1 hq hps.2
      generalize tableOpen t y k 1 q ps = R at *
      obtain ⟨t2, b2⟩ := R
      conv => whnf
      refine And.intro rfl ?_
      conv => whnf
      exact ⟨(k - 1, t2, i, h), ⟨⟨⟨by show k - 1 ≤ x.toNat; omega, hd2⟩, hi⟩, by show k - 1 < k; omega⟩, le_mk [(3, _), (4, _), (5, _), (6, _)] rfl ⟨⟨rfl, rfl⟩, ⟨rfl, rfl⟩, ⟨rfl, rfl⟩, ⟨rfl, rfl⟩, ⟨i64_eq hwr, rfl⟩, trivial⟩ ⟨⟨rfl, rfl⟩, ⟨rfl, rfl⟩, ⟨⟨rfl, rfl⟩, _, rfl, ⟨rfl, rfl⟩, ⟨rfl, rfl⟩, trivial⟩, ⟨rfl, rfl⟩, ⟨rfl, rfl⟩, ⟨rfl, rfl⟩, ⟨rfl, rfl⟩, trivial⟩ rfl⟩
  · conv => whnf
    refine cur_leaf rfl rfl rfl hi ?_
    exact ⟨t, rfl, hd⟩
def KA (t : XTable) : Prop := t.tot ≤ 30000 ∧ t.List_.length ≤ 17
theorem kt_ka {t : XTable} (h : KT t) : KA t := ⟨by have := kt_tot h; omega, by have := h.1; omega⟩
set_option maxHeartbeats 4000000 in
theorem d_TabAny (code : List Int) (hl : code.length ≤ 9223372036854775807) (most : Int) (hm : 0 < most) (hm2 : most ≤ 60) : CurC Try.prog 16 1 (code.map byteEl) [i64v most] (fun rs => ∃ t : XTable, rs = [t.v] ∧ KA t) := by
  refine curC_ofL (Γ := lookT tbl) (il := ilist) tg dr Try.func16 rfl (by kernel_rfl) rfl (Nat.le_of_ble_eq_true rfl) ?_
  intro i h hi
  have hB := d_Below code hl
  have hI := d_Int code hl
  have hT := d_Tab code hl most hm hm2
  generalize code.map byteEl = L at *
  conv => whnf
  refine inl_curR (Γ := lookT tbl) [3] ?_
  conv => whnf
  refine cur_i hT hi ?_
  rintro _ i h ⟨t, rfl, ht⟩ hi
  conv => whnf
  refine inl_post ?_
  refine inl_cur (Γ := lookT tbl) [3] ?_
  conv => whnf
  refine cur_i (hB 10 (by decide)) hi ?_
  rintro _ i h ⟨y, rfl, hy, hy2⟩ hi
  conv => whnf
  by_cases hc : y = 1 ∧ 0 < t.List_.length
  case pos =>
    obtain ⟨rfl, hlen⟩ := hc
    have hi0 := hi_get hlen
    have hp := ht.2 _ (List.getElem_mem hlen)
    have hpl := hp.len
    have hph := hp.has
    have hK : ∀ b : Bool, KA ⟨t.Next, t.List_.set 0 { t.List_[0] with Has := t.List_[0].Has.set 0 b }⟩ := fun b => by
      have h1 := sum_all XPend.tot 600 (t.List_.set 0 { t.List_[0] with Has := t.List_[0].Has.set 0 b }) (fun x hx => by
        rcases List.mem_or_eq_of_mem_set hx with hx | rfl
        · exact kp_tot (ht.2 x hx)
        · have h1 := kp_tot hp
          rw [pend_tot] at h1 ⊢
          dsimp only
          rw [List.length_set]
          exact h1)
      have h2 := table_tot ⟨t.Next, t.List_.set 0 { t.List_[0] with Has := t.List_[0].Has.set 0 b }⟩
      have h3 := pends_tot (t.List_.set 0 { t.List_[0] with Has := t.List_[0].Has.set 0 b })
      rw [List.length_set] at h1 h3
      have h4 := ht.1
      exact ⟨by show XPend.sTot (t.List_.set 0 { t.List_[0] with Has := t.List_[0].Has.set 0 b }) ≤ 30000; omega, by show (t.List_.set 0 _).length ≤ 17; rw [List.length_set]; omega⟩
    have hlen2 : 0 < (t.List_.map XPend.ps).length := by rw [List.length_map]; exact hlen
    generalize t.List_[0] = p at *
    have hj : 0 < p.Has.length := by omega
    refine ⟨⟨envL [(0, .c (.ptr 0 0)), (4, .c (.ptr 6 0)), (5, .c (.ptr 3 0)), (10, .c (.pv (.int .i64 1)))], resL [(0, .box [.row 1, .pv (.int .i64 i), .pv (.int .i64 h)]), (1, .ro 1 L), (2, .env [(0, .c (.ptr 0 0)), (1, .c (.row 1))]), (3, .box [.pv (.int .i64 t.Next), .row 5]), (5, .hol 13 0 (t.List_.map XPend.ps) (holC p 0)), (6, .box [.pv (.int .i64 0), .nil 13]), (7, .row true 1 (p.Req.Words.map intEl)), (8, .row true 1 (p.Req.Bits.map boolEl)), (10, .row true 8 (p.Parts.map XPart.ps)), (11, .row true 1 (p.Has.map boolEl)), (12, .row true 6 (p.Told.map XResp.ps))], 16, 54⟩, (le_rawHol 3137 0 (ac := holC p 8256) (u := holU p 8256) rfl hi0 ⟨rfl, rfl⟩ rfl).trans (le_mk [(3, 4160), (5, 3137), (6, 64), (7, 8263), (8, 8264), (10, 8266), (11, 8267), (12, 8268)] rfl ⟨⟨rfl, rfl⟩, ⟨rfl, rfl⟩, ⟨rfl, rfl⟩, ⟨rfl, rfl⟩, trivial⟩ ⟨⟨rfl, rfl⟩, ⟨rfl, rfl⟩, ⟨⟨rfl, rfl⟩, _, rfl, ⟨rfl, rfl⟩, ⟨rfl, rfl⟩, trivial⟩, ⟨rfl, rfl⟩, ⟨rfl, rfl⟩, ⟨rfl, rfl⟩, ⟨rfl, rfl⟩, ⟨rfl, rfl⟩, ⟨rfl, rfl⟩, ⟨rfl, rfl⟩, ⟨rfl, rfl⟩, trivial⟩ rfl), ?_⟩
    conv => whnf
    refine br_i (fun h => ?_) (fun h => by exfalso; simp at h; simp [h] at hlen)
    conv => whnf
    refine ⟨0, ⟨⟨rfl, hlen2⟩, rfl⟩, ?_⟩
    conv => whnf
    refine And.intro ⟨rfl, rfl⟩ ?_
    conv => whnf
    refine ⟨0, ⟨⟨rfl, hlen2⟩, rfl⟩, ?_⟩
    conv => whnf
    refine And.intro ⟨rfl, rfl⟩ ?_
    conv => whnf
    refine ⟨0, ⟨⟨rfl, by rw [List.length_map]; exact hj⟩, rfl⟩, ?_⟩
    conv => whnf
    have hgt : (p.Has.map boolEl)[0]? = some (boolEl p.Has[0]) := by rw [List.getElem?_map, List.getElem?_eq_getElem hj]; rfl
    refine ⟨_, ⟨rfl, hgt⟩, ?_⟩
    conv => whnf
    refine ⟨0, ⟨⟨rfl, by rw [List.length_map]; exact hj⟩, rfl⟩, ?_⟩
    conv => whnf
    refine ⟨(p.Has.set 0 (!p.Has[0])).map boolEl, ⟨rfl, by rw [List.length_map]; exact hj, by decide, set_map PV.bool p.Has 0 (!p.Has[0])⟩, ?_⟩
    conv => whnf
    refine And.intro rfl ?_
    conv => whnf
    refine ⟨_, le_hol 5 [(7, 1, p.Req.Words.map intEl), (8, 1, p.Req.Bits.map boolEl), (10, 8, p.Parts.map XPart.ps), (11, 1, (p.Has.set 0 (!p.Has[0])).map boolEl), (12, 6, p.Told.map XResp.ps)] (cs := holC p 0) (el := XPend.ps { p with Has := p.Has.set 0 (!p.Has[0]) }) rfl ⟨⟨rfl, rfl⟩, rfl⟩ ⟨rfl, rfl, rfl, rfl, rfl, trivial⟩ rfl, ?_⟩
    refine cur_leaf rfl rfl rfl hi ?_
    refine ⟨_, ?_, hK (!p.Has[0])⟩
    show [VV.agg [PV.int .i64 t.Next, .sl 13 ((t.List_.map XPend.ps).set 0 (XPend.ps { p with Has := p.Has.set 0 (!p.Has[0]) }))]] = _
    rw [← List.map_set]
    rfl
  case neg =>
    refine ⟨⟨envL [(0, .c (.ptr 0 0)), (4, .c (.ptr 6 0)), (5, .c (.ptr 3 0)), (10, .c (.pv (.int .i64 y)))], resL [(0, .box [.row 1, .pv (.int .i64 i), .pv (.int .i64 h)]), (1, .ro 1 L), (2, .env [(0, .c (.ptr 0 0)), (1, .c (.row 1))]), (3, .box [.pv (.int .i64 t.Next), .row 4]), (4, .row true 13 (t.List_.map XPend.ps)), (6, .box [.pv (.int .i64 0), .nil 13])], 7, 54⟩, (le_raw 3137 rfl).trans (le_mk [(3, 4160), (4, 3137), (6, 64)] rfl ⟨⟨rfl, rfl⟩, ⟨rfl, rfl⟩, ⟨rfl, rfl⟩, ⟨rfl, rfl⟩, trivial⟩ ⟨⟨rfl, rfl⟩, ⟨rfl, rfl⟩, ⟨⟨rfl, rfl⟩, _, rfl, ⟨rfl, rfl⟩, ⟨rfl, rfl⟩, trivial⟩, ⟨rfl, rfl⟩, ⟨rfl, rfl⟩, ⟨rfl, rfl⟩, trivial⟩ rfl), ?_⟩
    conv => whnf
    refine br_i (fun h => ?_) (fun h => ?_)
    · conv => whnf
      refine inl_cur (Γ := lookT tbl) [27] ?_
      conv => whnf
      refine cur_i (hI [0, -1, 1000000000, 1000000001] (Nat.succ_pos _)) hi ?_
      rintro _ i h ⟨nx, rfl, hnx⟩ hi
      conv => whnf
      refine ⟨_, le_refl, cur_leaf rfl rfl rfl hi ?_⟩
      exact ⟨⟨nx, t.List_⟩, rfl, kt_ka ht⟩
    conv => whnf
    refine br_i (fun h => ?_) (fun h => ?_)
    · conv => whnf
      refine br_i (fun h2 => ?_) (fun h2 => ?_)
      · exact absurd ⟨by simpa using h, by simpa using h2⟩ hc
      conv => whnf
      refine ⟨_, le_refl, cur_leaf rfl rfl rfl hi ?_⟩
      exact ⟨t, rfl, kt_ka ht⟩
    conv => whnf
    refine br_i (fun h => ?_) (fun h => ?_)
    · conv => whnf
      refine br_i (fun h2 => ?_) (fun h2 => ?_)
      · have hlen : 0 < t.List_.length := by simpa using h2
        have hp := ht.2 _ (List.getElem_mem hlen)
        conv => whnf
        refine ⟨0, ⟨⟨rfl, by rw [List.length_map]; exact hlen⟩, rfl⟩, ?_⟩
        conv => whnf
        refine ⟨_, ⟨rfl, hi_get hlen⟩, ?_⟩
        have htt := kp_tot hp
        have hKA : KA ⟨t.Next, t.List_ ++ [t.List_[0]]⟩ := by
          have h1 := sum_all XPend.tot 600 (t.List_ ++ [t.List_[0]]) (fun x hx => by
            rcases List.mem_append.1 hx with hx | hx
            · exact kp_tot (ht.2 x hx)
            · simp at hx; rw [hx]; exact htt)
          have h3 := pends_tot (t.List_ ++ [t.List_[0]])
          have h4 := ht.1
          have h5 : (t.List_ ++ [t.List_[0]]).length = t.List_.length + 1 := by simp
          exact ⟨by show XPend.sTot (t.List_ ++ [t.List_[0]]) ≤ 30000; omega, by show (t.List_ ++ [t.List_[0]]).length ≤ 17; omega⟩
        have hla := ht.1
        generalize t.List_[0] = p at *
        conv => whnf
        refine call_i (s_l13CopyPend p (by omega)) ?_
        conv => whnf
        refine And.intro rfl ?_
        conv => whnf
        refine ⟨_, open_app t p (by omega), ?_⟩
        conv => whnf
        refine And.intro rfl ?_
        conv => whnf
        refine ⟨_, le_refl, cur_leaf rfl rfl rfl hi ?_⟩
        exact ⟨⟨t.Next, t.List_ ++ [p]⟩, rfl, hKA⟩
      conv => whnf
      refine ⟨_, le_refl, cur_leaf rfl rfl rfl hi ?_⟩
      exact ⟨t, rfl, kt_ka ht⟩
    conv => whnf
    refine ⟨_, le_refl, cur_leaf rfl rfl rfl hi ?_⟩
    exact ⟨t, rfl, kt_ka ht⟩
def sizeF (n : Nat) (most : Int) : Int := if (3 + ((n / 12 : Nat) : Int)) > most then most else 3 + ((n / 12 : Nat) : Int)
theorem size_b {n : Nat} {most : Int} (h : 3 ≤ most) : 3 ≤ sizeF n most ∧ sizeF n most ≤ most := by
  unfold sizeF
  split <;> omega
theorem s_Size (code : List Int) (hl : code.length ≤ 1048576) (most : Int) : PureC Try.prog 17 [bytesV code, i64v most] [i64v (sizeF code.length most)] := by
  refine pureC_of (Γ := lookT tbl) (il := ilist) tg dr Try.func17 rfl (by kernel_rfl) rfl (Nat.le_of_ble_eq_true rfl) ?_
  have e : IntKind.i64.wrap (3 + IntKind.i64.wrap (((code.map byteEl).length : Int).tdiv 12)) = 3 + ((code.length / 12 : Nat) : Int) := by
    rw [List.length_map, Int.tdiv_eq_ediv_of_nonneg (by omega)]
    rw [wrap_ok (x := (code.length : Int) / 12) (by omega) (by omega), wrap_ok (by omega) (by omega)]
    omega
  (repeat' ((conv => whnf); first | refine br_i (fun _ => ?_) (fun _ => ?_) | (refine cur_leaf rfl rfl rfl ?_ ?_; · first | assumption | omega | exact hw ‹_›) | refine leaf_i rfl rfl ?_ | refine And.intro rfl ?_ | (refine And.intro (show (12 : Int) ≠ 0 by decide) ?_) | (refine And.intro ?_ ?_; · decide)))
  · rename_i h
    rw [e] at h
    rw [show sizeF code.length most = most by unfold sizeF; rw [if_pos (by simpa using h)]]
    rfl
  · rename_i h
    rw [e] at h
    rw [e, show sizeF code.length most = 3 + ((code.length / 12 : Nat) : Int) by unfold sizeF; rw [if_neg (by simpa using h)]]
    rfl
theorem part_app (l : List XPart) (p : XPart) (h : l.length ≤ 1048576) : ((l.map XPart.ps).length + 1) * 96 ≤ 140737488355328 ∧ (l ++ [p]).map XPart.ps = l.map XPart.ps ++ [p.ps] := by
  refine ⟨?_, by simp⟩
  rw [List.length_map]
  have : (l.length + 1) * 96 ≤ 1048577 * 96 := Nat.mul_le_mul_right _ (by omega)
  exact Nat.le_trans this (by decide)
def Opn (rs : List VV) : Prop := ∃ (t : XTable) (s g : Int) (q : XReq) (ps : List XPart), rs = [t.v, i64v s, i64v g, i64v 1, q.v, XPart.sV ps] ∧ KA t ∧ smallQ q ∧ ps.length ≤ 9 ∧ ∀ x ∈ ps, smallQ x.Req
theorem opn_parts {ps : List XPart} {q : XReq} {a b : Int} (h : ps.length ≤ 8 ∧ ∀ p ∈ ps, smallQ p.Req) (hq : smallQ q) : (ps ++ [(⟨a, b, q⟩ : XPart)]).length ≤ 9 ∧ ∀ x ∈ ps ++ [(⟨a, b, q⟩ : XPart)], smallQ x.Req := by
  refine ⟨by simp; exact h.1, fun x hx => ?_⟩
  rcases List.mem_append.1 hx with hx | hx
  · exact h.2 x hx
  · simp at hx; subst hx; exact hq
set_option maxHeartbeats 4000000 in
theorem d_DrawOpen (code : List Int) (hl : code.length ≤ 1048576) : NdF Try.prog 5 [bytesV code] Opn := by
  refine ndF_of (Γ := lookT tbl) (il := ilist) tg dr Try.func5 rfl (by kernel_rfl) rfl (Nat.le_of_ble_eq_true rfl) ?_
  have hS := s_Size code hl 12
  have hs := size_b (n := code.length) (most := 12) (by decide)
  have hA := d_TabAny code (by omega) (sizeF code.length 12) (by omega) (by omega)
  have hT := d_Tab code (by omega) 60 (by decide) (by decide)
  have hO := d_Once code (by omega)
  have hI := d_Int code (by omega)
  have hR := d_One code (by omega)
  have hQ := d_Req code (by omega) 0 (by decide) (by decide)
  have newI := fun {k : Nat} (hb : (k : Int) < (code.map byteEl).length) => newI (L := code.map byteEl) (code := code) hb rfl
  have hL : (code.map byteEl).length ≤ 1048576 := by rw [List.length_map]; exact hl
  unfold bytesV bytesP at *
  generalize code.map byteEl = L at *
  conv => whnf
  refine inl_of (Γ := lookT tbl) (il := ilist) tg dr Try.func15 rfl (by kernel_rfl) rfl (ts := [22]) (Nat.le_of_ble_eq_true rfl) ?_
  conv => whnf
  refine loop_i (fun s : Nat × Int => ⟨envL [(0, .c (.pv (.sl 1 L))), (3, .c (.pv (.int .i64 s.2))), (4, .c (.pv (.int .i64 s.1)))], resL [(0, .box [.pv (.int .i64 0), .nil 13]), (4096, .box [.pv (.int .i64 0), .pv (.int .i64 0), .pv (.int .i64 0), .nil 1, .nil 1, .pv (.int .i64 0)]), (7168, .env [(0, .c (.pv (.sl 1 L))), (2, .c (.ptr 0 0)), (6, .c (.ptr 4096 0))])], 7168 + 1, 32⟩) (fun s => s.1 ≤ L.length) (fun s => L.length - s.1) (0, _) (Nat.zero_le _) (le_mk [] rfl ⟨⟨rfl, rfl⟩, ⟨rfl, rfl⟩, ⟨rfl, rfl⟩, trivial⟩ ⟨⟨rfl, rfl⟩, ⟨rfl, rfl⟩, ⟨⟨rfl, rfl⟩, _, rfl, ⟨rfl, rfl⟩, ⟨rfl, rfl⟩, ⟨rfl, rfl⟩, trivial⟩, trivial⟩ rfl) ?_
  rintro ⟨k, h⟩ hk
  dsimp only at hk
  conv => whnf
  refine br_i (fun hb => ?_) (fun hb => ?_)
  focus
    have hb : (k : Int) < L.length := by simpa using hb
    conv => whnf
    refine br_i (fun hb2 => ?_) (fun hb2 => ?_)
    focus
      conv => whnf
      refine ⟨_, ⟨⟨by omega, newI hb⟩, rfl⟩, ?_⟩
      conv => whnf
      exact ⟨(k + 1, _), ⟨by show k + 1 ≤ L.length; omega, by show L.length - (k + 1) < L.length - k; omega⟩, le_mk [] rfl ⟨⟨rfl, rfl⟩, ⟨rfl, rfl⟩, ⟨ctr (by omega), rfl⟩, trivial⟩ ⟨⟨rfl, rfl⟩, ⟨rfl, rfl⟩, ⟨⟨rfl, rfl⟩, _, rfl, ⟨rfl, rfl⟩, ⟨rfl, rfl⟩, ⟨rfl, rfl⟩, trivial⟩, trivial⟩ rfl⟩
  all_goals
    conv => whnf
    refine call_i hS ?_
    conv => whnf
    refine inl_cur (Γ := lookT tbl) [3] ?_
    conv => whnf
    refine cur_i hA (by decide) ?_
    rintro _ i h ⟨t, rfl, ht⟩ hi
    conv => whnf
    refine inl_cur (Γ := lookT tbl) [3] ?_
    conv => whnf
    refine cur_i (hO 20 (by decide)) hi ?_
    rintro _ i h ⟨y0, rfl⟩ hi
    conv => whnf
    refine br_i (fun hb => ?_) (fun hb => ?_)
    · conv => whnf
      refine inl_cur (Γ := lookT tbl) [3] ?_
      conv => whnf
      refine cur_i hT hi ?_
      rintro _ i h ⟨t, rfl, ht⟩ hi
      have ht := kt_ka ht
      conv => whnf
      refine inl_post ?_
      refine inl_cur (Γ := lookT tbl) [3] ?_
      conv => whnf
      refine cur_i hQ hi ?_
      rintro _ i h ⟨q, rfl, hg⟩ hi
      have hq := small_of hg
      conv => whnf
      first
        | refine ⟨⟨envL [(2, .c (.ptr 0 0)), (6, .c (.ptr 5 0)), (8, .c (.ptr 1 0)), (9, .c (.ptr 3 0)), (24, .agg [.pv (.int .i64 q.Kind), .pv (.int .i64 q.At), .pv (.int .i64 q.N), .row 6, .row 7, .pv (.int .i64 q.WAt)])], resL [(0, .box [.pv (.int .i64 0), .nil 13]), (1, .box [.pv (.sl 1 L), .pv (.int .i64 i), .pv (.int .i64 h)]), (3, .box [.pv (.int .i64 t.Next), .row 4]), (4, .row true 13 (t.List_.map XPend.ps)), (5, .box [.pv (.int .i64 0), .pv (.int .i64 0), .pv (.int .i64 0), .nil 1, .nil 1, .pv (.int .i64 0)]), (6, .ro 1 (q.Words.map intEl)), (7, .ro 1 (q.Bits.map boolEl))], 8, 54⟩, (le_ro 33796 rfl).trans ((le_ro 33797 rfl).trans (le_mk [(0, 0), (1, 18433), (3, 25601), (4, 30722), (5, 4096), (6, 33796), (7, 33797)] rfl ⟨⟨rfl, rfl⟩, ⟨rfl, rfl⟩, ⟨rfl, rfl⟩, ⟨rfl, rfl⟩, ⟨rfl, rfl⟩, trivial⟩ ⟨⟨rfl, rfl⟩, ⟨rfl, rfl⟩, ⟨rfl, rfl⟩, ⟨rfl, rfl⟩, ⟨rfl, rfl⟩, ⟨rfl, rfl⟩, ⟨rfl, rfl⟩, trivial⟩ rfl)), ?_⟩
        | refine ⟨⟨envL [(2, .c (.ptr 0 0)), (6, .c (.ptr 5 0)), (8, .c (.ptr 1 0)), (9, .c (.ptr 3 0)), (24, .agg [.pv (.int .i64 q.Kind), .pv (.int .i64 q.At), .pv (.int .i64 q.N), .row 6, .row 7, .pv (.int .i64 q.WAt)])], resL [(0, .box [.pv (.int .i64 0), .nil 13]), (1, .box [.pv (.sl 1 L), .pv (.int .i64 i), .pv (.int .i64 h)]), (3, .box [.pv (.int .i64 t.Next), .row 4]), (4, .row true 13 (t.List_.map XPend.ps)), (5, .box [.pv (.int .i64 0), .pv (.int .i64 0), .pv (.int .i64 0), .nil 1, .nil 1, .pv (.int .i64 0)]), (6, .ro 1 (q.Words.map intEl)), (7, .ro 1 (q.Bits.map boolEl))], 8, 54⟩, (le_ro 31748 rfl).trans ((le_ro 31749 rfl).trans (le_mk [(0, 0), (1, 16385), (3, 23553), (4, 28674), (5, 4096), (6, 31748), (7, 31749)] rfl ⟨⟨rfl, rfl⟩, ⟨rfl, rfl⟩, ⟨rfl, rfl⟩, ⟨rfl, rfl⟩, ⟨rfl, rfl⟩, trivial⟩ ⟨⟨rfl, rfl⟩, ⟨rfl, rfl⟩, ⟨rfl, rfl⟩, ⟨rfl, rfl⟩, ⟨rfl, rfl⟩, ⟨rfl, rfl⟩, ⟨rfl, rfl⟩, trivial⟩ rfl)), ?_⟩
      conv => whnf
      refine ⟨[0, 2, 1, 3, 4, 5, 6, 7, 8], rfl, ?_⟩
      conv => whnf
      refine And.intro rfl ?_
      conv => whnf
      refine cur_i hR hi ?_
      rintro _ i h ⟨rules, rfl, hrl⟩ hi
      have hps := parts_small rules 1 q hq
      conv => whnf
      refine call_i (s_Parts rules 1 q (fun a b c => s_Both rules 1 q a b c)) ?_
      generalize parts rules 1 q = R at *
      obtain ⟨ps, pf⟩ := R
      dsimp only at hps
      conv => whnf
      refine And.intro rfl ?_
      conv => whnf
      refine inl_cur (Γ := lookT tbl) [3] ?_
      conv => whnf
      refine cur_i (hO 10 (by decide)) hi ?_
      rintro _ i h ⟨y, rfl⟩ hi
      conv => whnf
      refine br_i (fun hb => ?_) (fun hb => ?_)
      · conv => whnf
        refine ⟨[0, 1, 2, 4, 5, 7, 3, 6, 8, 9, 10, 11], rfl, ?_⟩
        conv => whnf
        refine And.intro rfl ?_
        conv => whnf
        refine cur_i (hI [6, 0] (Nat.succ_pos _)) hi ?_
        rintro _ i h ⟨y1, rfl, hy1⟩ hi
        conv => whnf
        refine And.intro rfl ?_
        conv => whnf
        refine cur_i (hI [0, 1] (Nat.succ_pos _)) hi ?_
        rintro _ i h ⟨y2, rfl, hy2⟩ hi
        conv => whnf
        refine And.intro rfl ?_
        conv => whnf
        refine ⟨_, part_app ps ⟨y1, y2, q⟩ (by omega), ?_⟩
        conv => whnf
        refine And.intro rfl ?_
        conv => whnf
        refine ⟨[0, 1, 2, 4, 5, 7, 8, 3, 6, 9, 10, 11, 12, 13, 14], rfl, ?_⟩
        conv => whnf
        refine And.intro rfl ?_
        conv => whnf
        refine cur_i (hI [0, 5, -1, 1000000000, 1000000001, 5] (Nat.succ_pos _)) hi ?_
        rintro _ i h ⟨y1, rfl, hy1⟩ hi
        conv => whnf
        refine And.intro rfl ?_
        conv => whnf
        refine cur_i (hI [0, 5, 5, -1] (Nat.succ_pos _)) hi ?_
        rintro _ i h ⟨y2, rfl, hy2⟩ hi
        conv => whnf
        refine And.intro rfl ?_
        conv => whnf
        exact ⟨t, y1, y2, q, ps ++ [⟨_, _, q⟩], rfl, ht, hq, opn_parts hps hq⟩
      · conv => whnf
        refine ⟨[0, 1, 2, 4, 5, 7, 8, 3, 6, 9, 10, 11, 12, 13, 14], rfl, ?_⟩
        conv => whnf
        refine And.intro rfl ?_
        conv => whnf
        refine cur_i (hI [0, 5, -1, 1000000000, 1000000001, 5] (Nat.succ_pos _)) hi ?_
        rintro _ i h ⟨y1, rfl, hy1⟩ hi
        conv => whnf
        refine And.intro rfl ?_
        conv => whnf
        refine cur_i (hI [0, 5, 5, -1] (Nat.succ_pos _)) hi ?_
        rintro _ i h ⟨y2, rfl, hy2⟩ hi
        conv => whnf
        refine And.intro rfl ?_
        conv => whnf
        exact ⟨t, y1, y2, q, ps, rfl, ht, hq, by omega, hps.2⟩
    ·
      conv => whnf
      refine inl_post ?_
      refine inl_cur (Γ := lookT tbl) [3] ?_
      conv => whnf
      refine cur_i hQ hi ?_
      rintro _ i h ⟨q, rfl, hg⟩ hi
      have hq := small_of hg
      conv => whnf
      first
        | refine ⟨⟨envL [(2, .c (.ptr 0 0)), (6, .c (.ptr 5 0)), (8, .c (.ptr 1 0)), (9, .c (.ptr 3 0)), (24, .agg [.pv (.int .i64 q.Kind), .pv (.int .i64 q.At), .pv (.int .i64 q.N), .row 6, .row 7, .pv (.int .i64 q.WAt)])], resL [(0, .box [.pv (.int .i64 0), .nil 13]), (1, .box [.pv (.sl 1 L), .pv (.int .i64 i), .pv (.int .i64 h)]), (3, .box [.pv (.int .i64 t.Next), .row 4]), (4, .row true 13 (t.List_.map XPend.ps)), (5, .box [.pv (.int .i64 0), .pv (.int .i64 0), .pv (.int .i64 0), .nil 1, .nil 1, .pv (.int .i64 0)]), (6, .ro 1 (q.Words.map intEl)), (7, .ro 1 (q.Bits.map boolEl))], 8, 54⟩, (le_ro 30724 rfl).trans ((le_ro 30725 rfl).trans (le_mk [(0, 0), (1, 18433), (3, 25601), (4, 24578), (5, 4096), (6, 30724), (7, 30725)] rfl ⟨⟨rfl, rfl⟩, ⟨rfl, rfl⟩, ⟨rfl, rfl⟩, ⟨rfl, rfl⟩, ⟨rfl, rfl⟩, trivial⟩ ⟨⟨rfl, rfl⟩, ⟨rfl, rfl⟩, ⟨rfl, rfl⟩, ⟨rfl, rfl⟩, ⟨rfl, rfl⟩, ⟨rfl, rfl⟩, ⟨rfl, rfl⟩, trivial⟩ rfl)), ?_⟩
        | refine ⟨⟨envL [(2, .c (.ptr 0 0)), (6, .c (.ptr 5 0)), (8, .c (.ptr 1 0)), (9, .c (.ptr 3 0)), (24, .agg [.pv (.int .i64 q.Kind), .pv (.int .i64 q.At), .pv (.int .i64 q.N), .row 6, .row 7, .pv (.int .i64 q.WAt)])], resL [(0, .box [.pv (.int .i64 0), .nil 13]), (1, .box [.pv (.sl 1 L), .pv (.int .i64 i), .pv (.int .i64 h)]), (3, .box [.pv (.int .i64 t.Next), .row 4]), (4, .row true 13 (t.List_.map XPend.ps)), (5, .box [.pv (.int .i64 0), .pv (.int .i64 0), .pv (.int .i64 0), .nil 1, .nil 1, .pv (.int .i64 0)]), (6, .ro 1 (q.Words.map intEl)), (7, .ro 1 (q.Bits.map boolEl))], 8, 54⟩, (le_ro 28676 rfl).trans ((le_ro 28677 rfl).trans (le_mk [(0, 0), (1, 16385), (3, 23553), (4, 22530), (5, 4096), (6, 28676), (7, 28677)] rfl ⟨⟨rfl, rfl⟩, ⟨rfl, rfl⟩, ⟨rfl, rfl⟩, ⟨rfl, rfl⟩, ⟨rfl, rfl⟩, trivial⟩ ⟨⟨rfl, rfl⟩, ⟨rfl, rfl⟩, ⟨rfl, rfl⟩, ⟨rfl, rfl⟩, ⟨rfl, rfl⟩, ⟨rfl, rfl⟩, ⟨rfl, rfl⟩, trivial⟩ rfl)), ?_⟩
      conv => whnf
      refine ⟨[0, 2, 1, 3, 4, 5, 6, 7, 8], rfl, ?_⟩
      conv => whnf
      refine And.intro rfl ?_
      conv => whnf
      refine cur_i hR hi ?_
      rintro _ i h ⟨rules, rfl, hrl⟩ hi
      have hps := parts_small rules 1 q hq
      conv => whnf
      refine call_i (s_Parts rules 1 q (fun a b c => s_Both rules 1 q a b c)) ?_
      generalize parts rules 1 q = R at *
      obtain ⟨ps, pf⟩ := R
      dsimp only at hps
      conv => whnf
      refine And.intro rfl ?_
      conv => whnf
      refine inl_cur (Γ := lookT tbl) [3] ?_
      conv => whnf
      refine cur_i (hO 10 (by decide)) hi ?_
      rintro _ i h ⟨y, rfl⟩ hi
      conv => whnf
      refine br_i (fun hb => ?_) (fun hb => ?_)
      · conv => whnf
        refine ⟨[0, 1, 2, 4, 5, 7, 3, 6, 8, 9, 10, 11], rfl, ?_⟩
        conv => whnf
        refine And.intro rfl ?_
        conv => whnf
        refine cur_i (hI [6, 0] (Nat.succ_pos _)) hi ?_
        rintro _ i h ⟨y1, rfl, hy1⟩ hi
        conv => whnf
        refine And.intro rfl ?_
        conv => whnf
        refine cur_i (hI [0, 1] (Nat.succ_pos _)) hi ?_
        rintro _ i h ⟨y2, rfl, hy2⟩ hi
        conv => whnf
        refine And.intro rfl ?_
        conv => whnf
        refine ⟨_, part_app ps ⟨y1, y2, q⟩ (by omega), ?_⟩
        conv => whnf
        refine And.intro rfl ?_
        conv => whnf
        refine ⟨[0, 1, 2, 4, 5, 7, 8, 3, 6, 9, 10, 11, 12, 13, 14], rfl, ?_⟩
        conv => whnf
        refine And.intro rfl ?_
        conv => whnf
        refine cur_i (hI [0, 5, -1, 1000000000, 1000000001, 5] (Nat.succ_pos _)) hi ?_
        rintro _ i h ⟨y1, rfl, hy1⟩ hi
        conv => whnf
        refine And.intro rfl ?_
        conv => whnf
        refine cur_i (hI [0, 5, 5, -1] (Nat.succ_pos _)) hi ?_
        rintro _ i h ⟨y2, rfl, hy2⟩ hi
        conv => whnf
        refine And.intro rfl ?_
        conv => whnf
        exact ⟨t, y1, y2, q, ps ++ [⟨_, _, q⟩], rfl, ht, hq, opn_parts hps hq⟩
      · conv => whnf
        refine ⟨[0, 1, 2, 4, 5, 7, 8, 3, 6, 9, 10, 11, 12, 13, 14], rfl, ?_⟩
        conv => whnf
        refine And.intro rfl ?_
        conv => whnf
        refine cur_i (hI [0, 5, -1, 1000000000, 1000000001, 5] (Nat.succ_pos _)) hi ?_
        rintro _ i h ⟨y1, rfl, hy1⟩ hi
        conv => whnf
        refine And.intro rfl ?_
        conv => whnf
        refine cur_i (hI [0, 5, 5, -1] (Nat.succ_pos _)) hi ?_
        rintro _ i h ⟨y2, rfl, hy2⟩ hi
        conv => whnf
        refine And.intro rfl ?_
        conv => whnf
        exact ⟨t, y1, y2, q, ps, rfl, ht, hq, by omega, hps.2⟩

end Go.Proofs.Ytnpcgheojijpjaa
