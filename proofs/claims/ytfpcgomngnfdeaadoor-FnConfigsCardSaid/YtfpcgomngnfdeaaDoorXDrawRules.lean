/- What is drawn: rules. -/
import Derived.Test.YtfpcgomngnfdeaaDoorXDraw
namespace Go.Proofs.YtfpcgomngnfdeaaDoor
open Go Go.Vi
set_option linter.unusedVariables false
set_option linter.unusedSimpArgs false
set_option maxRecDepth 100000
theorem flat_rule (l : List XRule) : Flat (l.map XRule.ps) := by
  intro el h p hp
  obtain ⟨r, _, rfl⟩ := List.mem_map.1 h
  simp [XRule.ps] at hp
  rcases hp with rfl | rfl | rfl | rfl | rfl | rfl | rfl <;> rfl
theorem setAt_map {α : Type} {f : α → List PV} {l : List α} {k : Nat} (h : k < l.length) (x : α) (j : Nat) (p : PV) (e : (f l[k]).set j p = f x) : (l.set k x).map f = setAt (l.map f) k j p := by
  apply List.ext_getElem?
  intro i
  simp only [setAt, List.getElem?_map, List.getElem?_set, List.getElem?_modify]
  by_cases hi : k = i
  · subst hi
    simp [h, e]
  · simp [hi]
theorem d_Rules (code : List Int) (hl : code.length ≤ 9223372036854775807) : CurC Tryd.prog 57 1 (code.map byteEl) [] (fun rs => ∃ l : List XRule, rs = [XRule.sV l] ∧ l.length ≤ 200) := by
  refine curC_of (Γ := lookT tbl) (il := ilist) tg dr Tryd.func57 rfl (by kernel_rfl) rfl (Nat.le_of_ble_eq_true rfl) ?_
  intro i h hi
  have hB := d_Below code hl
  have hI := fun l h => d_Int code hl l h
  generalize code.map byteEl = L at *
  conv => whnf
  refine loop_i (fun s : Nat × List XRule × Int × Int => ⟨envL [(0, .c (.ptr 0 0)), (3, .c (.row 3)), (4, .c (.pv (.int .i64 s.1)))], resL [(0, .box [.row 1, .pv (.int .i64 s.2.2.1), .pv (.int .i64 s.2.2.2)]), (1, .ro 1 L), (2, .env [(0, .c (.ptr 0 0)), (1, .c (.row 1))]), (3, .row true 7 (s.2.1.map XRule.ps))], 4, 56⟩) (fun s => (s.1 ≤ 4 ∧ s.2.1.length ≤ 3 * s.1) ∧ 0 ≤ s.2.2.1) (fun s => 4 - s.1) (0, [], i, h) ⟨⟨Nat.zero_le _, Nat.le_refl _⟩, hi⟩
    (le_mk [(3, _)] rfl ⟨⟨rfl, rfl⟩, ⟨rfl, rfl⟩, ⟨rfl, rfl⟩, trivial⟩ ⟨⟨rfl, rfl⟩, ⟨rfl, rfl⟩, ⟨⟨rfl, rfl⟩, _, rfl, ⟨rfl, rfl⟩, ⟨rfl, rfl⟩, trivial⟩, ⟨rfl, rfl⟩, trivial⟩ rfl) ?_
  rintro ⟨k, l, i, h⟩ ⟨⟨hk, hll⟩, hi⟩
  dsimp only at hk hll hi
  conv => whnf
  refine br_i (fun hb => ?_) (fun hb => ?_)
  · have hb : k < 4 := by simp at hb; omega
    conv => whnf
    refine inl_cur (Γ := lookT tbl) [3] ?_
    conv => whnf
    refine cur_i (hB 2 (by decide)) hi ?_
    rintro _ i h ⟨a, rfl, ha, ha2⟩ hi
    conv => whnf
    refine inl_cur (Γ := lookT tbl) [3] ?_
    conv => whnf
    refine cur_i (hB 4 (by decide)) hi ?_
    rintro _ i h ⟨c, rfl, hc, hc2⟩ hi
    conv => whnf
    refine loop_i (fun s : Nat × List XRule × Int × Int × Int => ⟨envL [(0, .c (.ptr 0 0)), (3, .c (.row 3)), (4, .c (.pv (.int .i64 k))), (5, .c (.pv (.int .i64 s.2.2.2.2))), (6, .c (.pv (.int .i64 s.1)))], resL [(0, .box [.row 1, .pv (.int .i64 s.2.2.1), .pv (.int .i64 s.2.2.2.1)]), (1, .ro 1 L), (2, .env [(0, .c (.ptr 0 0)), (1, .c (.row 1))]), (3, .row true 7 (s.2.1.map XRule.ps))], 4, 56⟩) (fun s => (s.1 ≤ 3 ∧ s.2.1.length + s.1 ≤ 3 * k + 3) ∧ 0 ≤ s.2.2.1) (fun s => s.1) (c.toNat, l, i, h, a) ⟨⟨by show c.toNat ≤ 3; omega, by show l.length + c.toNat ≤ 3 * k + 3; omega⟩, hi⟩
      (le_mk [] rfl ⟨⟨rfl, rfl⟩, ⟨rfl, rfl⟩, ⟨rfl, rfl⟩, ⟨rfl, rfl⟩, ⟨i64_eq (by show c = (c.toNat : Int); omega), rfl⟩, trivial⟩ ⟨⟨rfl, rfl⟩, ⟨rfl, rfl⟩, ⟨⟨rfl, rfl⟩, _, rfl, ⟨rfl, rfl⟩, ⟨rfl, rfl⟩, trivial⟩, ⟨rfl, rfl⟩, trivial⟩ rfl) ?_
    rintro ⟨m, l, i, h, t⟩ ⟨⟨hm, hl2⟩, hi⟩
    dsimp only at hm hl2 hi
    conv => whnf
    refine br_i (fun hb3 => ?_) (fun hb3 => ?_)
    · have hb3 : 0 < m := by simpa using hb3
      conv => whnf
      refine inl_cur (Γ := lookT tbl) [3] ?_
      conv => whnf
      refine cur_i (hB 7 (by decide)) hi ?_
      rintro _ i h ⟨x1, rfl, _, _⟩ hi
      conv => whnf
      refine inl_cur (Γ := lookT tbl) [3] ?_
      conv => whnf
      refine cur_i (hB 2 (by decide)) hi ?_
      rintro _ i h ⟨x2, rfl, _, _⟩ hi
      conv => whnf
      refine inl_cur (Γ := lookT tbl) [3] ?_
      conv => whnf
      refine cur_i (hB 3 (by decide)) hi ?_
      rintro _ i h ⟨x3, rfl, _, _⟩ hi
      conv => whnf
      refine inl_cur (Γ := lookT tbl) [3] ?_
      conv => whnf
      refine cur_i (hB 3 (by decide)) hi ?_
      rintro _ i h ⟨x4, rfl, _, _⟩ hi
      conv => whnf
      refine inl_cur (Γ := lookT tbl) [45] ?_
      conv => whnf
      refine cur_i (hI [0, 0, 3, 10] (Nat.succ_pos _)) hi ?_
      rintro _ i h ⟨y1, rfl, _⟩ hi
      conv => whnf
      refine inl_cur (Γ := lookT tbl) [45] ?_
      conv => whnf
      refine cur_i (hI [0, t] (Nat.succ_pos _)) hi ?_
      rintro _ i h ⟨y2, rfl, _⟩ hi
      conv => whnf
      refine ⟨⟨rfl, flat_rule [⟨_, _, _, _, _, _, _⟩]⟩, ?_⟩
      conv => whnf
      obtain ⟨r, hr⟩ : ∃ r : XRule, r = ⟨IntKind.i64.wrap (1 + x2), k, t, IntKind.i64.wrap (IntKind.i64.wrap (t + 1) + x1), x3, IntKind.i64.wrap (1 + x4), IntKind.i64.wrap (y1 - y2)⟩ := ⟨_, rfl⟩
      refine ⟨(l ++ [r]).map XRule.ps, ⟨by rw [List.length_map]; show (l.length + 1) * 56 ≤ 140737488355328; omega, by rw [List.map_append, hr]; rfl⟩, ?_⟩
      conv => whnf
      refine inl_cur (Γ := lookT tbl) [45] ?_
      conv => whnf
      refine cur_i (hI [0, 0, 0, 2] (Nat.succ_pos _)) hi ?_
      rintro _ i h ⟨y3, rfl, _⟩ hi
      conv => whnf
      exact ⟨(m - 1, l ++ [r], i, h, _), ⟨⟨⟨by show m - 1 ≤ 3; omega, by show (l ++ [r]).length + (m - 1) ≤ 3 * k + 3; rw [List.length_append]; simp; omega⟩, hi⟩, by show m - 1 < m; omega⟩, le_mk [(3, _)] rfl ⟨⟨rfl, rfl⟩, ⟨rfl, rfl⟩, ⟨rfl, rfl⟩, ⟨rfl, rfl⟩, ⟨i64_eq (by rw [wrap_ok (by show -9223372036854775808 ≤ (m : Int) - 1; omega) (by show (m : Int) - 1 ≤ 9223372036854775807; omega)]; show (m : Int) - 1 = ((m - 1 : Nat) : Int); omega), rfl⟩, trivial⟩ ⟨⟨rfl, rfl⟩, ⟨rfl, rfl⟩, ⟨⟨rfl, rfl⟩, _, rfl, ⟨rfl, rfl⟩, ⟨rfl, rfl⟩, trivial⟩, ⟨rfl, rfl⟩, trivial⟩ rfl⟩
    · have hb3 : m = 0 := by simp at hb3; omega
      conv => whnf
      exact ⟨(k + 1, l, i, h), ⟨⟨⟨by show k + 1 ≤ 4; omega, by show l.length ≤ 3 * (k + 1); omega⟩, hi⟩, by show 4 - (k + 1) < 4 - k; omega⟩, le_mk [] rfl ⟨⟨rfl, rfl⟩, ⟨rfl, rfl⟩, ⟨ctr (by omega), rfl⟩, trivial⟩ ⟨⟨rfl, rfl⟩, ⟨rfl, rfl⟩, ⟨⟨rfl, rfl⟩, _, rfl, ⟨rfl, rfl⟩, ⟨rfl, rfl⟩, trivial⟩, ⟨rfl, rfl⟩, trivial⟩ rfl⟩
  · conv => whnf
    refine cur_leaf rfl rfl rfl hi ?_
    exact ⟨l, rfl, by omega⟩
set_option maxHeartbeats 2000000 in
theorem d_One (code : List Int) (hl : code.length ≤ 9223372036854775807) : CurC Tryd.prog 59 1 (code.map byteEl) [] (fun rs => ∃ l : List XRule, rs = [XRule.sV l] ∧ l.length ≤ 200) := by
  refine curC_of (Γ := lookT tbl) (il := ilist) tg dr Tryd.func59 rfl (by kernel_rfl) rfl (Nat.le_of_ble_eq_true rfl) ?_
  intro i h hi
  have hB := d_Below code hl
  generalize code.map byteEl = L at *
  conv => whnf
  refine loop_i (fun s : Nat × List XRule × Int × Int => ⟨envL [(0, .c (.ptr 0 0)), (3, .c (.row 3)), (4, .c (.pv (.int .i64 s.1)))], resL [(0, .box [.row 1, .pv (.int .i64 s.2.2.1), .pv (.int .i64 s.2.2.2)]), (1, .ro 1 L), (2, .env [(0, .c (.ptr 0 0)), (1, .c (.row 1))]), (3, .row true 7 (s.2.1.map XRule.ps))], 4, 36⟩) (fun s => (s.1 ≤ 4 ∧ s.2.1.length ≤ 21 * s.1) ∧ 0 ≤ s.2.2.1) (fun s => 4 - s.1) (0, [], i, h) ⟨⟨Nat.zero_le _, Nat.le_refl _⟩, hi⟩
    (le_mk [(3, _)] rfl ⟨⟨rfl, rfl⟩, ⟨rfl, rfl⟩, ⟨rfl, rfl⟩, trivial⟩ ⟨⟨rfl, rfl⟩, ⟨rfl, rfl⟩, ⟨⟨rfl, rfl⟩, _, rfl, ⟨rfl, rfl⟩, ⟨rfl, rfl⟩, trivial⟩, ⟨rfl, rfl⟩, trivial⟩ rfl) ?_
  rintro ⟨k, l, i, h⟩ ⟨⟨hk, hll⟩, hi⟩
  dsimp only at hk hll hi
  conv => whnf
  refine br_i (fun hb => ?_) (fun hb => ?_)
  · have hb : k < 4 := by simp at hb; omega
    conv => whnf
    refine loop_i (fun s : Nat × List XRule × Int × Int => ⟨envL [(0, .c (.ptr 0 0)), (3, .c (.row 3)), (4, .c (.pv (.int .i64 k))), (5, .c (.pv (.int .i64 s.1)))], resL [(0, .box [.row 1, .pv (.int .i64 s.2.2.1), .pv (.int .i64 s.2.2.2)]), (1, .ro 1 L), (2, .env [(0, .c (.ptr 0 0)), (1, .c (.row 1))]), (3, .row true 7 (s.2.1.map XRule.ps))], 4, 36⟩) (fun s => (s.1 ≤ 21 ∧ s.2.1.length ≤ 21 * k + s.1) ∧ 0 ≤ s.2.2.1) (fun s => 21 - s.1) (0, l, i, h) ⟨⟨Nat.zero_le _, hll⟩, hi⟩
      (le_mk [] rfl ⟨⟨rfl, rfl⟩, ⟨rfl, rfl⟩, ⟨rfl, rfl⟩, ⟨rfl, rfl⟩, trivial⟩ ⟨⟨rfl, rfl⟩, ⟨rfl, rfl⟩, ⟨⟨rfl, rfl⟩, _, rfl, ⟨rfl, rfl⟩, ⟨rfl, rfl⟩, trivial⟩, ⟨rfl, rfl⟩, trivial⟩ rfl) ?_
    rintro ⟨m, l, i, h⟩ ⟨⟨hm, hl2⟩, hi⟩
    dsimp only at hm hl2 hi
    conv => whnf
    refine br_i (fun hb3 => ?_) (fun hb3 => ?_)
    · have hb3 : m < 20 := by simp at hb3; omega
      conv => whnf
      refine inl_cur (Γ := lookT tbl) [3] ?_
      conv => whnf
      refine cur_i (hB 9 (by decide)) hi ?_
      rintro _ i h ⟨x, rfl, hx, hx2⟩ hi
      conv => whnf
      rw [wrap_ok (x := (m : Int) + 2) (by omega) (by omega), wrap_ok (x := (m : Int) + 2 + x) (by omega) (by omega)]
      obtain ⟨v, hv, hv1⟩ : ∃ v : Nat, (v : Int) = m + 2 + x ∧ m + 2 ≤ v := ⟨m + 2 + x.toNat, by omega, by omega⟩
      rw [← hv]
      refine br_i (fun hb4 => ?_) (fun hb4 => ?_)
      all_goals
        conv => whnf
        refine inl_cur (Γ := lookT tbl) [3] ?_
        conv => whnf
        refine cur_i (hB 3 (by decide)) hi ?_
        rintro _ i h ⟨x3, rfl, _, _⟩ hi
        conv => whnf
        refine inl_cur (Γ := lookT tbl) [3] ?_
        conv => whnf
        refine cur_i (hB 2 (by decide)) hi ?_
        rintro _ i h ⟨x4, rfl, _, _⟩ hi
        conv => whnf
        refine ⟨⟨rfl, flat_rule [⟨_, _, _, _, _, _, _⟩]⟩, ?_⟩
        conv => whnf
      · obtain ⟨r, hr⟩ : ∃ r : XRule, r = ⟨1, k, m, 20, x3, IntKind.i64.wrap (1 + x4), 0⟩ := ⟨_, rfl⟩
        refine ⟨(l ++ [r]).map XRule.ps, ⟨by rw [List.length_map]; show (l.length + 1) * 56 ≤ 140737488355328; omega, by rw [List.map_append, hr]; rfl⟩, ?_⟩
        conv => whnf
        exact ⟨(21, l ++ [r], i, h), ⟨⟨⟨Nat.le_refl _, by show (l ++ [r]).length ≤ 21 * k + 21; rw [List.length_append]; simp; omega⟩, hi⟩, by show 21 - 21 < 21 - m; omega⟩, le_mk [(3, _)] rfl ⟨⟨rfl, rfl⟩, ⟨rfl, rfl⟩, ⟨rfl, rfl⟩, ⟨rfl, rfl⟩, trivial⟩ ⟨⟨rfl, rfl⟩, ⟨rfl, rfl⟩, ⟨⟨rfl, rfl⟩, _, rfl, ⟨rfl, rfl⟩, ⟨rfl, rfl⟩, trivial⟩, ⟨rfl, rfl⟩, trivial⟩ rfl⟩
      · have hb4 : v ≤ 20 := by simp at hb4; omega
        obtain ⟨r, hr⟩ : ∃ r : XRule, r = ⟨1, k, m, v, x3, IntKind.i64.wrap (1 + x4), 0⟩ := ⟨_, rfl⟩
        refine ⟨(l ++ [r]).map XRule.ps, ⟨by rw [List.length_map]; show (l.length + 1) * 56 ≤ 140737488355328; omega, by rw [List.map_append, hr]; rfl⟩, ?_⟩
        conv => whnf
        exact ⟨(v + 1, l ++ [r], i, h), ⟨⟨⟨by show v + 1 ≤ 21; omega, by show (l ++ [r]).length ≤ 21 * k + (v + 1); rw [List.length_append]; simp; omega⟩, hi⟩, by show 21 - (v + 1) < 21 - m; omega⟩, le_mk [(3, _)] rfl ⟨⟨rfl, rfl⟩, ⟨rfl, rfl⟩, ⟨rfl, rfl⟩, ⟨ctr (by omega), rfl⟩, trivial⟩ ⟨⟨rfl, rfl⟩, ⟨rfl, rfl⟩, ⟨⟨rfl, rfl⟩, _, rfl, ⟨rfl, rfl⟩, ⟨rfl, rfl⟩, trivial⟩, ⟨rfl, rfl⟩, trivial⟩ rfl⟩
    · conv => whnf
      exact ⟨(k + 1, l, i, h), ⟨⟨⟨by show k + 1 ≤ 4; omega, by show l.length ≤ 21 * (k + 1); omega⟩, hi⟩, by show 4 - (k + 1) < 4 - k; omega⟩, le_mk [] rfl ⟨⟨rfl, rfl⟩, ⟨rfl, rfl⟩, ⟨ctr (by omega), rfl⟩, trivial⟩ ⟨⟨rfl, rfl⟩, ⟨rfl, rfl⟩, ⟨⟨rfl, rfl⟩, _, rfl, ⟨rfl, rfl⟩, ⟨rfl, rfl⟩, trivial⟩, ⟨rfl, rfl⟩, trivial⟩ rfl⟩
  · conv => whnf
    refine cur_leaf rfl rfl rfl hi ?_
    exact ⟨l, rfl, by omega⟩
theorem d_Bend (code : List Int) (hl : code.length ≤ 9223372036854775807) (l : List XRule) (hll : l.length ≤ 200) : CurC Tryd.prog 47 1 (code.map byteEl) [XRule.sV l] (fun rs => ∃ l : List XRule, rs = [XRule.sV l] ∧ l.length ≤ 300) := by
  refine curC_of (Γ := lookT tbl) (il := ilist) tg dr Tryd.func47 rfl (by kernel_rfl) rfl (Nat.le_of_ble_eq_true rfl) ?_
  intro i h hi
  have hB := d_Below code hl
  have hI := fun l h => d_Int code hl l h
  generalize code.map byteEl = L at *
  conv => whnf
  refine ⟨⟨rfl, flat_rule l⟩, ?_⟩
  conv => whnf
  refine ⟨l.map XRule.ps, ⟨by show (0 + (l.map XRule.ps).length) * 56 ≤ 140737488355328; rw [List.length_map]; omega, rfl⟩, ?_⟩
  conv => whnf
  refine br_i (fun hb => ?_) (fun hb => ?_)
  · conv => whnf
    refine cur_leaf rfl rfl rfl hi ?_
    exact ⟨l, rfl, by omega⟩
  have hb : 0 < l.length := by
    have hb := of_decide_eq_false hb
    rw [List.length_map] at hb
    omega
  conv => whnf
  refine inl_cur (Γ := lookT tbl) [3] ?_
  conv => whnf
  rw [List.length_map]
  refine cur_i (hB l.length (by omega)) hi ?_
  rintro _ i h ⟨t, rfl, ht, ht2⟩ hi
  conv => whnf
  refine inl_cur (Γ := lookT tbl) [3] ?_
  conv => whnf
  refine cur_i (hB 7 (by decide)) hi ?_
  rintro _ i h ⟨x, rfl, _, _⟩ hi
  have hn : t.toNat < l.length := by omega
  have hn2 : t.toNat < (l.map XRule.ps).length := by rw [List.length_map]; exact hn
  have htn : t = (t.toNat : Int) := by omega
  have hgt : (l.map XRule.ps)[t.toNat]? = some (XRule.ps l[t.toNat]) := by rw [List.getElem?_map, List.getElem?_eq_getElem hn]; rfl
  have hls : ∀ r : XRule, (l.set t.toNat r).length = l.length := fun r => List.length_set
  conv => whnf
  refine br_i (fun hc => ?_) (fun hc => ?_)
  · conv => whnf
    refine inl_cur (Γ := lookT tbl) [45] ?_
    conv => whnf
    refine cur_i (hI [0, 247, 248] (Nat.succ_pos _)) hi ?_
    rintro _ i h ⟨y, rfl, _⟩ hi
    conv => whnf
    refine ⟨t.toNat, ⟨⟨htn, hn2⟩, rfl⟩, ?_⟩
    conv => whnf
    refine ⟨(l.set t.toNat { l[t.toNat] with Unit := y }).map XRule.ps, ⟨rfl, hn2, by decide, setAt_map hn _ 0 _ rfl⟩, ?_⟩
    conv => whnf
    refine cur_leaf rfl rfl rfl hi ?_
    exact ⟨_, rfl, by rw [hls]; omega⟩
  conv => whnf
  refine br_i (fun hc => ?_) (fun hc => ?_)
  · conv => whnf
    refine inl_cur (Γ := lookT tbl) [45] ?_
    conv => whnf
    refine cur_i (hI [-1, 65535, 65536, 3] (Nat.succ_pos _)) hi ?_
    rintro _ i h ⟨y, rfl, _⟩ hi
    conv => whnf
    refine ⟨t.toNat, ⟨⟨htn, hn2⟩, rfl⟩, ?_⟩
    conv => whnf
    refine ⟨(l.set t.toNat { l[t.toNat] with Hi := y }).map XRule.ps, ⟨rfl, hn2, by decide, setAt_map hn _ 3 _ rfl⟩, ?_⟩
    conv => whnf
    refine cur_leaf rfl rfl rfl hi ?_
    exact ⟨_, rfl, by rw [hls]; omega⟩
  conv => whnf
  refine br_i (fun hc => ?_) (fun hc => ?_)
  · conv => whnf
    refine inl_cur (Γ := lookT tbl) [45] ?_
    conv => whnf
    refine cur_i (hI [-1, 65535, -65535, 9223372036854775807] (Nat.succ_pos _)) hi ?_
    rintro _ i h ⟨y, rfl, _⟩ hi
    conv => whnf
    refine ⟨t.toNat, ⟨⟨htn, hn2⟩, rfl⟩, ?_⟩
    conv => whnf
    refine ⟨(l.set t.toNat { l[t.toNat] with Shift := y }).map XRule.ps, ⟨rfl, hn2, by decide, setAt_map hn _ 6 _ rfl⟩, ?_⟩
    conv => whnf
    refine cur_leaf rfl rfl rfl hi ?_
    exact ⟨_, rfl, by rw [hls]; omega⟩
  conv => whnf
  refine br_i (fun hc => ?_) (fun hc => ?_)
  · conv => whnf
    refine ⟨t.toNat, ⟨⟨htn, hn2⟩, rfl⟩, ?_⟩
    conv => whnf
    refine ⟨_, ⟨rfl, hgt⟩, ?_⟩
    conv => whnf
    refine ⟨⟨rfl, flat_rule [l[t.toNat]]⟩, ?_⟩
    conv => whnf
    refine ⟨(l ++ [l[t.toNat]]).map XRule.ps, ⟨by rw [List.length_map]; show (l.length + 1) * 56 ≤ 140737488355328; omega, by rw [List.map_append]; rfl⟩, ?_⟩
    conv => whnf
    refine cur_leaf rfl rfl rfl hi ?_
    exact ⟨_, rfl, by rw [List.length_append]; simp; omega⟩
  conv => whnf
  refine br_i (fun hc => ?_) (fun hc => ?_)
  · conv => whnf
    refine inl_cur (Γ := lookT tbl) [45] ?_
    conv => whnf
    refine cur_i (hI [-1, 5, 6] (Nat.succ_pos _)) hi ?_
    rintro _ i h ⟨y, rfl, _⟩ hi
    conv => whnf
    refine ⟨t.toNat, ⟨⟨htn, hn2⟩, rfl⟩, ?_⟩
    conv => whnf
    refine ⟨(l.set t.toNat { l[t.toNat] with Port := y }).map XRule.ps, ⟨rfl, hn2, by decide, setAt_map hn _ 4 _ rfl⟩, ?_⟩
    conv => whnf
    refine cur_leaf rfl rfl rfl hi ?_
    exact ⟨_, rfl, by rw [hls]; omega⟩
  conv => whnf
  refine br_i (fun hc => ?_) (fun hc => ?_)
  · conv => whnf
    refine inl_cur (Γ := lookT tbl) [45] ?_
    conv => whnf
    refine cur_i (hI [-1, 4] (Nat.succ_pos _)) hi ?_
    rintro _ i h ⟨y, rfl, _⟩ hi
    conv => whnf
    refine ⟨t.toNat, ⟨⟨htn, hn2⟩, rfl⟩, ?_⟩
    conv => whnf
    refine ⟨(l.set t.toNat { l[t.toNat] with Space := y }).map XRule.ps, ⟨rfl, hn2, by decide, setAt_map hn _ 1 _ rfl⟩, ?_⟩
    conv => whnf
    refine cur_leaf rfl rfl rfl hi ?_
    exact ⟨_, rfl, by rw [hls]; omega⟩
  conv => whnf
  refine cur_leaf rfl rfl rfl hi ?_
  exact ⟨_, rfl, by omega⟩
end Go.Proofs.YtfpcgomngnfdeaaDoor
