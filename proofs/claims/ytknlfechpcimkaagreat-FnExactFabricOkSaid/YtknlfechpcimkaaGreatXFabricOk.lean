/- The whole fabric: what is right, in both packages, and the law. -/
import Derived.Test.YtknlfechpcimkaaGreatXFabricBase
namespace Go.Proofs.YtknlfechpcimkaaGreat
open Go Go.Vi
set_option linter.unusedVariables false
set_option linter.unusedSimpArgs false
set_option maxRecDepth 100000
def callsI (l : XLine) : List XCall := l.Queue ++ (if l.Busy then [l.Call] else [])
def callsS (l : XLine) : List XCall := (if l.Busy then [l.Call] else []) ++ l.Queue
def flatK (f : XLine → List XCall) (ls : List XLine) (k : Nat) : List (Nat × XCall) := (List.range k).flatMap fun i => (f (ls.getD i XLine.zero)).map fun c => (i, c)
def keyC (c : XCall) : Xplace := ⟨c.Id, c.Part⟩
def okC (t : XTable) (L : List (Nat × XCall)) : Bool := L.all (fun p => fitsF t p.1 p.2) && decide ((L.map fun p => keyC p.2).Nodup)
def fabHead (x : XFabric) : Bool := inB x.Now 0 4294967295 && configB x.Set && tableB x.Open && decide ((x.Lines.length : Int) = 6) && inB x.Asked 0 1000000000 && inB x.Replied 0 1000000000 && inB x.Faults 0 1000000000 && inB x.Sent 0 1000000000
def fabOk (f : XLine → List XCall) (x : XFabric) : Bool := fabHead x && x.Lines.all lineOk && okC x.Open (flatK f x.Lines x.Lines.length) && decide (((flatK f x.Lines x.Lines.length).length : Int) = waitF x.Open)
theorem flatK_succ (f : XLine → List XCall) (ls : List XLine) (k : Nat) (hk : k < ls.length) : flatK f ls (k + 1) = flatK f ls k ++ (f ls[k]).map fun c => (k, c) := by
  unfold flatK
  rw [List.range_succ, List.flatMap_append]
  simp [List.getD, List.getElem?_eq_getElem hk]
theorem flatK_more (f : XLine → List XCall) (ls : List XLine) (k n : Nat) (h : k ≤ n) : ∃ R, flatK f ls n = flatK f ls k ++ R := by
  obtain ⟨m, rfl⟩ := Nat.exists_eq_add_of_le h
  unfold flatK
  rw [List.range_add, List.flatMap_append]
  exact ⟨_, rfl⟩
theorem flat_at (f : XLine → List XCall) (ls : List XLine) {k j : Nat} (hk : k < ls.length) (hj : j < (f ls[k]).length) : ∃ R, flatK f ls ls.length = flatK f ls k ++ ((f ls[k]).take j).map (fun c => (k, c)) ++ [(k, (f ls[k])[j])] ++ R := by
  obtain ⟨R, hR⟩ := flatK_more f ls (k + 1) ls.length hk
  rw [hR, flatK_succ f ls k hk]
  refine ⟨((f ls[k]).drop (j + 1)).map (fun c => (k, c)) ++ R, ?_⟩
  have : f ls[k] = (f ls[k]).take j ++ [(f ls[k])[j]] ++ (f ls[k]).drop (j + 1) := by
    rw [List.append_assoc, List.singleton_append, ← List.drop_eq_getElem_cons hj, List.take_append_drop]
  have h2 := congrArg (List.map (fun c => (k, c))) this
  rw [List.map_append, List.map_append] at h2
  rw [h2]
  simp only [List.append_assoc, List.map_cons, List.map_nil]
theorem okC_app {t : XTable} {A B : List (Nat × XCall)} (h : okC t (A ++ B) = true) : okC t A = true := by
  unfold okC at *
  simp only [Bool.and_eq_true, List.all_append, List.map_append, decide_eq_true_eq, List.nodup_append] at h ⊢
  exact ⟨h.1.1, h.2.1⟩
theorem okC_one (t : XTable) (A : List (Nat × XCall)) (i : Nat) (c : XCall) : okC t (A ++ [(i, c)]) = (okC t A && (fitsF t i c && !(A.map fun p => keyC p.2).contains (keyC c))) := by
  unfold okC
  rw [List.all_append, List.map_append, Bool.eq_iff_iff]
  simp only [Bool.and_eq_true, decide_eq_true_eq, List.nodup_append, Bool.not_eq_true', List.contains_eq_mem, decide_eq_false_iff_not, List.all_cons, List.all_nil, Bool.and_true, List.map_cons, List.map_nil, List.mem_singleton]
  constructor
  · rintro ⟨⟨h1, h2⟩, h3, _, h4⟩
    exact ⟨⟨h1, h3⟩, h2, fun hm => h4 _ hm _ rfl rfl⟩
  · rintro ⟨⟨h1, h3⟩, h2, h4⟩
    exact ⟨⟨h1, h2⟩, h3, by simp, fun a ha b hb e => by subst hb; subst e; exact h4 ha⟩
theorem ok_bad {f : XLine → List XCall} {x : XFabric} {k j : Nat} (hk : k < x.Lines.length) (hj : j < (f x.Lines[k]).length) (h : okC x.Open (flatK f x.Lines k ++ ((f x.Lines[k]).take j).map (fun c => (k, c)) ++ [(k, (f x.Lines[k])[j])]) = false) : fabOk f x = false := by
  obtain ⟨R, hR⟩ := flat_at f x.Lines hk hj
  have : okC x.Open (flatK f x.Lines x.Lines.length) = false := by
    rw [← Bool.not_eq_true]
    intro hc
    rw [hR] at hc
    rw [okC_app hc] at h
    cases h
  simp [fabOk, this]
theorem line_bad {f : XLine → List XCall} {x : XFabric} {k : Nat} (hk : k < x.Lines.length) (h : lineOk x.Lines[k] = false) : fabOk f x = false := by
  have : x.Lines.all lineOk = false := all_bad hk h
  simp [fabOk, this]
theorem call_part {c : XCall} (h : specCall c = true) : 0 ≤ c.Part := by
  simp [specCall, inB] at h
  exact h.1.1.2.1
theorem line_calls {l : XLine} (h : lineOk l = true) : (∀ c ∈ callsI l, 0 ≤ c.Part) ∧ (∀ c ∈ callsS l, 0 ≤ c.Part) ∧ (callsI l).length ≤ 41 ∧ (callsS l).length ≤ 41 := by
  simp only [lineOk, Bool.and_eq_true, List.all_eq_true] at h
  obtain ⟨⟨⟨⟨⟨_, _⟩, h1⟩, _⟩, h2⟩, h3⟩ := h
  have h1 := of_decide_eq_true h1
  have hp : l.Busy = true → 0 ≤ l.Call.Part := by
    intro hb
    rw [if_pos hb] at h3
    simp only [Bool.and_eq_true] at h3
    exact call_part h3.1.1.1
  unfold callsI callsS
  cases hb : l.Busy
  · simp
    exact ⟨fun c hc => call_part (h2 c hc), by omega⟩
  · simp
    exact ⟨fun c hc => hc.elim (fun hc => call_part (h2 c hc)) (fun e => e ▸ hp hb), ⟨hp hb, fun c hc => call_part (h2 c hc)⟩, by omega⟩
theorem perm_calls (l : XLine) : (callsI l).Perm (callsS l) := List.perm_append_comm
theorem perm_flat (ls : List XLine) (k : Nat) : (flatK callsI ls k).Perm (flatK callsS ls k) := by
  unfold flatK
  induction k with
  | zero => exact .refl _
  | succ k ih =>
    rw [List.range_succ, List.flatMap_append, List.flatMap_append]
    refine ih.append ?_
    simp
    exact (perm_calls _).map _
theorem okC_perm {t : XTable} {A B : List (Nat × XCall)} (h : A.Perm B) : okC t A = okC t B := by
  unfold okC
  rw [h.all_eq, decide_eq_decide.2 (h.map _).nodup_iff]
theorem fabOk_perm (x : XFabric) : fabOk callsI x = fabOk callsS x := by
  have hp := perm_flat x.Lines x.Lines.length
  unfold fabOk
  rw [okC_perm hp, hp.length_eq]
theorem eqPlace : eqSB Tryz.prog 70 2 = true := by kernel_rfl
theorem m_indexPl (l : List Xplace) (x : Xplace) : PureC Tryz.prog 58 [Xplace.sV l, x.v] [i64v (firstBad (fun y => !(x == y)) l)] := by
  refine pureC_fit ⟨_, Tryz.func58, by kernel_rfl, rfl⟩ fun hf => ?_
  have hl : l.length ≤ 9223372036854775807 := fits_len (hf (Xplace.sV l) (by simp))
  refine pureC_of (Γ := lookT tbl) (il := ilist) tg dr Tryz.func58 rfl (by kernel_rfl) rfl (Nat.le_of_ble_eq_true rfl) ?_
  conv => whnf
  refine loop_i (fun k : Nat => ⟨envL [(0, .c (.pv (Xplace.sP l))), (3, .c (.ptr 0 0)), (7, .c (.pv (.int .i64 l.length))), (8, .c (.pv (.int .i64 k)))], resL [(0, .box (x.ps.map .pv))], 1, 19⟩) (fun k => k ≤ l.length ∧ (l.take k).all (fun y => !(x == y)) = true) (fun k => l.length - k) 0 ⟨Nat.zero_le _, rfl⟩ (le_mk [(0, _)] rfl ⟨⟨rfl, rfl⟩, ⟨rfl, rfl⟩, ⟨i64_eq (by rw [List.length_map]), rfl⟩, ⟨rfl, rfl⟩, trivial⟩ ⟨⟨rfl, rfl⟩, trivial⟩ rfl) ?_
  intro k ⟨hk, hs⟩
  conv => whnf
  refine br_i (fun h => ?_) (fun h => ?_)
  · have hlt : k < l.length := by simpa using h
    have ix := idx_map l Xplace.ps k hlt 2
    have e : ((x.id == l[k].id) && ((x.part == l[k].part) && true)) = (x == l[k]) := by
      rw [Bool.eq_iff_iff]
      cases x; cases l[k]; simp
    conv => whnf
    refine ⟨_, ix, ?_⟩
    conv => whnf
    refine And.intro eqPlace ?_
    conv => whnf
    refine And.intro rfl ?_
    conv => whnf
    refine br_i (fun h => ?_) (fun h => ?_) <;> conv => whnf
    · refine leaf_i rfl rfl ?_
      have h := e.symm.trans h
      rw [firstBad_at hs hlt (by simpa using h)]
      rfl
    · have h := e.symm.trans h
      exact ⟨k + 1, ⟨⟨hlt, all_succ hs hlt (by simpa using h)⟩, by omega⟩, le_mk [(0, _)] rfl ⟨⟨rfl, rfl⟩, ⟨rfl, rfl⟩, ⟨rfl, rfl⟩, ⟨ctr (by omega), rfl⟩, trivial⟩ ⟨⟨rfl, rfl⟩, trivial⟩ rfl⟩
  · have hk : l.length ≤ k := by simpa using h
    conv => whnf
    refine leaf_i rfl rfl ?_
    rw [firstBad_none (all_end hs hk)]
    rfl
theorem m_containsPl (l : List Xplace) (x : Xplace) : PureC Tryz.prog 30 [Xplace.sV l, x.v] [boolv (l.contains x)] := by
  refine pureC_of (Γ := lookT tbl) (il := ilist) tg dr Tryz.func30 rfl (by kernel_rfl) rfl (Nat.le_of_ble_eq_true rfl) ?_
  (repeat' ((conv => whnf); first | refine br_i (fun _ => ?_) (fun _ => ?_) | (refine cur_leaf rfl rfl rfl ?_ ?_; · first | assumption | omega | exact hw ‹_›) | refine leaf_i rfl rfl ?_ | refine And.intro rfl ?_ | refine call_i (m_indexPl l x) ?_ | (refine Or.inl ?_; (conv => whnf); refine call_i (m_indexPl l x) ?_) | (refine And.intro ?_ ?_; · decide)))
  all_goals (rw [firstBad_ge, show (l.contains x) = !l.all (fun y => !(x == y)) by rw [Bool.eq_iff_iff]; simp [List.all_eq_false]]; rfl)
def keysP (L : List (Nat × XCall)) : List (List PV) := (L.map fun p => keyC p.2).map Xplace.ps
theorem key_app (L : List (Nat × XCall)) (k : Nat) (c : XCall) (h : L.length ≤ 300) : ((keysP L).length + 1) * 16 ≤ 140737488355328 ∧ keysP (L ++ [(k, c)]) = keysP L ++ [[.int .i64 c.Id, .int .i64 c.Part]] := by
  refine ⟨by unfold keysP; simp; omega, by unfold keysP; simp; rfl⟩
theorem flat_place (c : XCall) : Flat [[PV.int .i64 c.Id, PV.int .i64 c.Part]] := by
  intro el hel p hp
  simp at hel
  subst hel
  simp at hp
  rcases hp with rfl | rfl <;> rfl
theorem m_FabricOk (x : XFabric) (hl : x.Open.List_.length ≤ 1048577) (hw : x.Open.tot ≤ 1048576) : PureC Tryz.prog 7 [x.v] [boolv (fabOk callsI x)] := by
  refine pureC_of (Γ := lookT tbl) (il := ilist) tg dr Tryz.func7 rfl (by kernel_rfl) rfl (Nat.le_of_ble_eq_true rfl) ?_
  (repeat' ((conv => whnf); first | refine br_i (fun _ => ?_) (fun _ => ?_) | (refine cur_leaf rfl rfl rfl ?_ ?_; · first | assumption | omega | exact hw ‹_›) | refine leaf_i rfl rfl ?_ | refine And.intro rfl ?_ | refine call_i (m_tick _) ?_ | (refine Or.inl ?_; (conv => whnf); refine call_i (m_tick _) ?_) | refine call_i (m_ConfigOk x.Set) ?_ | (refine Or.inl ?_; (conv => whnf); refine call_i (m_ConfigOk x.Set) ?_) | refine call_i (m_TableOk x.Open hl) ?_ | (refine Or.inl ?_; (conv => whnf); refine call_i (m_TableOk x.Open hl) ?_) | refine call_i (m_count _) ?_ | (refine Or.inl ?_; (conv => whnf); refine call_i (m_count _) ?_) | (refine And.intro ?_ ?_; · decide)))
  all_goals try ((refine bool_leaf ?_; first | (simp_all [fabOk, fabHead]; done) | (simp_all [fabOk, fabHead]; omega)); done)
  have hH : fabHead x = true := by (first | (simp_all [fabHead]; done) | (simp_all [fabHead]; omega))
  have h6 : x.Lines.length = 6 := by (first | (simp_all [fabHead]; done) | (simp_all [fabHead]; omega))
  have hT : tableB x.Open = true := by simp only [fabHead, Bool.and_eq_true] at hH; exact hH.1.1.1.1.1.2
  conv => whnf
  refine loop_i (fun k : Nat => ⟨envL [(1, .c (.ptr 0 0)), (3, .c (.row 1)), (57, .c (.pv (XLine.sP x.Lines))), (58, .c (.pv (.int .i64 x.Lines.length))), (59, .c (.pv (.int .i64 k)))], resL [(0, .box (x.ps.map .pv)), (1, .row true 2 (keysP (flatK callsI x.Lines k)))], 2, 102⟩) (fun k => (k ≤ x.Lines.length ∧ (flatK callsI x.Lines k).length ≤ 41 * k) ∧ (x.Lines.take k).all lineOk = true ∧ okC x.Open (flatK callsI x.Lines k) = true) (fun k => x.Lines.length - k) 0 ⟨⟨Nat.zero_le _, Nat.zero_le _⟩, rfl, rfl⟩ (le_mk [(0, _), (1, _)] rfl ⟨⟨rfl, rfl⟩, ⟨rfl, rfl⟩, ⟨rfl, rfl⟩, ⟨i64_eq (by rw [List.length_map]), rfl⟩, ⟨rfl, rfl⟩, trivial⟩ ⟨⟨rfl, rfl⟩, ⟨rfl, rfl⟩, trivial⟩ rfl) ?_
  intro k ⟨⟨hk, hn⟩, hs, ho⟩
  conv => whnf
  refine br_i (fun h => ?_) (fun h => ?_)
  · have hlt : k < x.Lines.length := by simpa using h
    conv => whnf
    refine ⟨_, idx_map x.Lines XLine.ps k hlt 17, ?_⟩
    conv => whnf
    have hline := m_LineOk x.Lines[k]
    have hbad : lineOk x.Lines[k] = false → fabOk callsI x = false := fun h => line_bad hlt h
    have hcl : lineOk x.Lines[k] = true → _ := fun h => line_calls h
    have hB := fun j hj => @ok_bad callsI x k j hlt hj
    have hS := flatK_succ callsI x.Lines k hlt
    have hgood : lineOk x.Lines[k] = true → (x.Lines.take (k + 1)).all lineOk = true := fun h => all_succ hs hlt h
    generalize hF : flatK callsI x.Lines k = F at *
    generalize hG : flatK callsI x.Lines (k + 1) = G at *
    generalize x.Lines[k] = l at *
    refine call_i hline ?_
    conv => whnf
    refine br_i (fun h => ?_) (fun h => ?_)
    · conv => whnf
      refine leaf_i rfl rfl ?_
      rw [hbad (by simpa using h)]
      rfl
    have hlo : lineOk l = true := by simpa using h
    obtain ⟨hp, _, h41, _⟩ := hcl hlo
    conv => whnf
    refine inl_of (Γ := lookT tbl) (il := ilist) tg dr Tryz.func28 rfl (by kernel_rfl) rfl (ts := [61]) (Nat.le_of_ble_eq_true rfl) ?_
    conv => whnf
    refine inl_of (Γ := lookT tbl) (il := ilist) tg dr Tryz.func54 rfl (by kernel_rfl) rfl (ts := [52]) (Nat.le_of_ble_eq_true rfl) ?_
    conv => whnf
    refine ⟨⟨_, _, rfl, rfl⟩, fun b hb => ?_⟩
    conv => whnf
    refine br_i (fun h => ?_) (fun h => ?_) <;> conv => whnf
    · have hq : l.Queue = [] := by have := hb (by simpa using h); simpa using this
      refine br_i (fun hy => ?_) (fun hy => ?_) <;> conv => whnf
      · have hc : (callsI l).map XCall.ps = [XCall.ps l.Call] := by unfold callsI; rw [hq, if_pos hy]; rfl
        refine And.intro rfl ?_
        conv => whnf
        refine ⟨(callsI l).map XCall.ps, ⟨Nat.le_of_ble_eq_true rfl, hc⟩, ?_⟩
        conv => whnf
        have h0 : keysP (F ++ ((callsI l).take 0).map fun c => (k, c)) = keysP F := by rw [List.take_zero, List.map_nil, List.append_nil]
        refine loop_i (fun j : Nat => ⟨envL [(1, .c (.ptr 0 0)), (3, .c (.row 1)), (4, .c (.pv (.int .i64 k))), (57, .c (.pv (XLine.sP x.Lines))), (58, .c (.pv (.int .i64 x.Lines.length))), (59, .c (.pv (.int .i64 k))), (68, .c (.row 2)), (69, .c (.pv (.int .i64 (callsI l).length))), (70, .c (.pv (.int .i64 j)))], resL [(0, .box (x.ps.map .pv)), (1, .row true 2 (keysP (F ++ ((callsI l).take j).map fun c => (k, c)))), (2, .row false 9 ((callsI l).map XCall.ps))], 3, 102⟩) (fun j => j ≤ (callsI l).length ∧ okC x.Open (F ++ ((callsI l).take j).map fun c => (k, c)) = true) (fun j => (callsI l).length - j) 0 ⟨Nat.zero_le _, by rw [List.take_zero, List.map_nil, List.append_nil]; exact ho⟩ (le_mk [(0, _), (1, _), (2, _)] rfl ⟨⟨rfl, rfl⟩, ⟨rfl, rfl⟩, ⟨rfl, rfl⟩, ⟨rfl, rfl⟩, ⟨rfl, rfl⟩, ⟨rfl, rfl⟩, ⟨rfl, rfl⟩, ⟨i64_eq (by rw [List.length_map]), rfl⟩, ⟨rfl, rfl⟩, trivial⟩ ⟨⟨rfl, rfl⟩, ⟨by rw [h0]; rfl, rfl⟩, ⟨rfl, rfl⟩, trivial⟩ rfl) ?_
        intro j ⟨hj, hok⟩
        conv => whnf
        refine br_i (fun h => ?_) (fun h => ?_)
        · have hjt : j < (callsI l).length := by simpa using h
          have hcp := hp _ (List.getElem_mem hjt)
          have hBj := hB j hjt
          have hel : ((callsI l).map XCall.ps)[j]? = some (XCall.ps (callsI l)[j]) := by rw [List.getElem?_map, List.getElem?_eq_getElem hjt]; rfl
          have htk : F ++ ((callsI l).take (j + 1)).map (fun c => (k, c)) = (F ++ ((callsI l).take j).map fun c => (k, c)) ++ [(k, (callsI l)[j])] := by rw [List.take_succ_eq_append_getElem hjt, List.map_append, List.append_assoc]; rfl
          have hlen : (F ++ ((callsI l).take j).map fun c => (k, c)).length ≤ 300 := by rw [List.length_append, List.length_map, List.length_take]; omega
          have hone := okC_one x.Open (F ++ ((callsI l).take j).map fun c => (k, c)) k (callsI l)[j]
          rw [hok, Bool.true_and] at hone
          generalize hL : (F ++ ((callsI l).take j).map fun c => (k, c)) = L at *
          generalize (callsI l)[j] = c at *
          conv => whnf
          refine ⟨j, ⟨⟨rfl, by rw [List.length_map]; exact hjt⟩, rfl⟩, ?_⟩
          conv => whnf
          refine ⟨_, ⟨rfl, hel⟩, ?_⟩
          conv => whnf
          refine call_i (m_isOf x.Open k c hT hcp) ?_
          conv => whnf
          refine br_i (fun h => ?_) (fun h => ?_)
          · conv => whnf
            refine leaf_i rfl rfl ?_
            rw [hBj (by rw [hone]; simp at h; simp [h])]
            rfl
          have hfit : fitsF x.Open k c = true := by simpa using h
          conv => whnf
          refine call_i (m_containsPl (L.map fun p : Nat × XCall => keyC p.2) (keyC c)) ?_
          conv => whnf
          refine br_i (fun h => ?_) (fun h => ?_)
          · conv => whnf
            refine leaf_i rfl rfl ?_
            rw [hBj (by rw [hone, h]; simp)]
            rfl
          conv => whnf
          refine And.intro ⟨rfl, flat_place c⟩ ?_
          conv => whnf
          refine ⟨_, key_app L k c hlen, ?_⟩
          conv => whnf
          exact ⟨j + 1, ⟨⟨hjt, by rw [htk, hone, hfit, h]; rfl⟩, by omega⟩, le_mk [(0, _), (1, _), (2, _)] rfl ⟨⟨rfl, rfl⟩, ⟨rfl, rfl⟩, ⟨rfl, rfl⟩, ⟨rfl, rfl⟩, ⟨rfl, rfl⟩, ⟨rfl, rfl⟩, ⟨rfl, rfl⟩, ⟨rfl, rfl⟩, ⟨ctr (by omega), rfl⟩, trivial⟩ ⟨⟨rfl, rfl⟩, ⟨by rw [htk]; rfl, rfl⟩, ⟨rfl, rfl⟩, trivial⟩ rfl⟩
        · have hjn : j = (callsI l).length := by simp at h; omega
          have hG2 : F ++ ((callsI l).take j).map (fun c => (k, c)) = G := by rw [hS, hjn, List.take_length]
          rw [hG2] at hok ⊢
          conv => whnf
          exact ⟨k + 1, ⟨⟨⟨hlt, by rw [hG, hS, List.length_append, List.length_map]; omega⟩, hgood hlo, by rw [hG]; exact hok⟩, by omega⟩, le_mk [(0, _), (1, _)] rfl ⟨⟨rfl, rfl⟩, ⟨rfl, rfl⟩, ⟨rfl, rfl⟩, ⟨rfl, rfl⟩, ⟨ctr (by omega), rfl⟩, trivial⟩ ⟨⟨rfl, rfl⟩, ⟨by rw [hG]; rfl, rfl⟩, trivial⟩ rfl⟩
      · have hc : callsI l = [] := by unfold callsI; rw [hq, if_neg (by rw [hy]; decide)]; rfl
        refine loop_i (fun _ : Unit => ⟨envL [(1, .c (.ptr 0 0)), (3, .c (.row 1)), (4, .c (.pv (.int .i64 k))), (57, .c (.pv (XLine.sP x.Lines))), (58, .c (.pv (.int .i64 x.Lines.length))), (59, .c (.pv (.int .i64 k))), (69, .c (.pv (.int .i64 0))), (70, .c (.pv (.int .i64 0)))], resL [(0, .box (x.ps.map .pv)), (1, .row true 2 (keysP F))], 2, 102⟩) (fun _ => True) (fun _ => 0) () trivial (le_mk [(0, _), (1, _)] rfl ⟨⟨rfl, rfl⟩, ⟨rfl, rfl⟩, ⟨rfl, rfl⟩, ⟨rfl, rfl⟩, ⟨rfl, rfl⟩, ⟨rfl, rfl⟩, ⟨rfl, rfl⟩, ⟨rfl, rfl⟩, trivial⟩ ⟨⟨rfl, rfl⟩, ⟨rfl, rfl⟩, trivial⟩ rfl) ?_
        intro _ _
        conv => whnf
        have hG2 : F = G := by rw [hS, hc, List.map_nil, List.append_nil]
        exact ⟨k + 1, ⟨⟨⟨hlt, by rw [hG, ← hG2]; omega⟩, hgood hlo, by rw [hG, ← hG2]; exact ho⟩, by omega⟩, le_mk [(0, _), (1, _)] rfl ⟨⟨rfl, rfl⟩, ⟨rfl, rfl⟩, ⟨rfl, rfl⟩, ⟨rfl, rfl⟩, ⟨ctr (by omega), rfl⟩, trivial⟩ ⟨⟨rfl, rfl⟩, ⟨by rw [hG, ← hG2]; rfl, rfl⟩, trivial⟩ rfl⟩
    · refine And.intro rfl ?_
      conv => whnf
      have hql : l.Queue.length ≤ 41 := by unfold callsI at h41; rw [List.length_append] at h41; omega
      refine ⟨l.Queue.map XCall.ps, ⟨by show (0 + _) * 104 ≤ _; rw [List.length_map]; omega, rfl⟩, ?_⟩
      conv => whnf
      refine br_i (fun hy => ?_) (fun hy => ?_) <;> conv => whnf
      · have hc : (callsI l).map XCall.ps = l.Queue.map XCall.ps ++ [XCall.ps l.Call] := by unfold callsI; rw [if_pos hy, List.map_append]; rfl
        refine And.intro rfl ?_
        conv => whnf
        refine ⟨(callsI l).map XCall.ps, ⟨by show (_ + 1) * 104 ≤ _; rw [List.length_map]; omega, hc⟩, ?_⟩
        conv => whnf
        have h0 : keysP (F ++ ((callsI l).take 0).map fun c => (k, c)) = keysP F := by rw [List.take_zero, List.map_nil, List.append_nil]
        refine loop_i (fun j : Nat => ⟨envL [(1, .c (.ptr 0 0)), (3, .c (.row 1)), (4, .c (.pv (.int .i64 k))), (57, .c (.pv (XLine.sP x.Lines))), (58, .c (.pv (.int .i64 x.Lines.length))), (59, .c (.pv (.int .i64 k))), (68, .c (.row 2)), (69, .c (.pv (.int .i64 (callsI l).length))), (70, .c (.pv (.int .i64 j)))], resL [(0, .box (x.ps.map .pv)), (1, .row true 2 (keysP (F ++ ((callsI l).take j).map fun c => (k, c)))), (2, .row false 9 ((callsI l).map XCall.ps))], 3, 102⟩) (fun j => j ≤ (callsI l).length ∧ okC x.Open (F ++ ((callsI l).take j).map fun c => (k, c)) = true) (fun j => (callsI l).length - j) 0 ⟨Nat.zero_le _, by rw [List.take_zero, List.map_nil, List.append_nil]; exact ho⟩ (le_mk [(0, _), (1, _), (2, _)] rfl ⟨⟨rfl, rfl⟩, ⟨rfl, rfl⟩, ⟨rfl, rfl⟩, ⟨rfl, rfl⟩, ⟨rfl, rfl⟩, ⟨rfl, rfl⟩, ⟨rfl, rfl⟩, ⟨i64_eq (by rw [List.length_map]), rfl⟩, ⟨rfl, rfl⟩, trivial⟩ ⟨⟨rfl, rfl⟩, ⟨by rw [h0]; rfl, rfl⟩, ⟨rfl, rfl⟩, trivial⟩ rfl) ?_
        intro j ⟨hj, hok⟩
        conv => whnf
        refine br_i (fun h => ?_) (fun h => ?_)
        · have hjt : j < (callsI l).length := by simpa using h
          have hcp := hp _ (List.getElem_mem hjt)
          have hBj := hB j hjt
          have hel : ((callsI l).map XCall.ps)[j]? = some (XCall.ps (callsI l)[j]) := by rw [List.getElem?_map, List.getElem?_eq_getElem hjt]; rfl
          have htk : F ++ ((callsI l).take (j + 1)).map (fun c => (k, c)) = (F ++ ((callsI l).take j).map fun c => (k, c)) ++ [(k, (callsI l)[j])] := by rw [List.take_succ_eq_append_getElem hjt, List.map_append, List.append_assoc]; rfl
          have hlen : (F ++ ((callsI l).take j).map fun c => (k, c)).length ≤ 300 := by rw [List.length_append, List.length_map, List.length_take]; omega
          have hone := okC_one x.Open (F ++ ((callsI l).take j).map fun c => (k, c)) k (callsI l)[j]
          rw [hok, Bool.true_and] at hone
          generalize hL : (F ++ ((callsI l).take j).map fun c => (k, c)) = L at *
          generalize (callsI l)[j] = c at *
          conv => whnf
          refine ⟨j, ⟨⟨rfl, by rw [List.length_map]; exact hjt⟩, rfl⟩, ?_⟩
          conv => whnf
          refine ⟨_, ⟨rfl, hel⟩, ?_⟩
          conv => whnf
          refine call_i (m_isOf x.Open k c hT hcp) ?_
          conv => whnf
          refine br_i (fun h => ?_) (fun h => ?_)
          · conv => whnf
            refine leaf_i rfl rfl ?_
            rw [hBj (by rw [hone]; simp at h; simp [h])]
            rfl
          have hfit : fitsF x.Open k c = true := by simpa using h
          conv => whnf
          refine call_i (m_containsPl (L.map fun p : Nat × XCall => keyC p.2) (keyC c)) ?_
          conv => whnf
          refine br_i (fun h => ?_) (fun h => ?_)
          · conv => whnf
            refine leaf_i rfl rfl ?_
            rw [hBj (by rw [hone, h]; simp)]
            rfl
          conv => whnf
          refine And.intro ⟨rfl, flat_place c⟩ ?_
          conv => whnf
          refine ⟨_, key_app L k c hlen, ?_⟩
          conv => whnf
          exact ⟨j + 1, ⟨⟨hjt, by rw [htk, hone, hfit, h]; rfl⟩, by omega⟩, le_mk [(0, _), (1, _), (2, _)] rfl ⟨⟨rfl, rfl⟩, ⟨rfl, rfl⟩, ⟨rfl, rfl⟩, ⟨rfl, rfl⟩, ⟨rfl, rfl⟩, ⟨rfl, rfl⟩, ⟨rfl, rfl⟩, ⟨rfl, rfl⟩, ⟨ctr (by omega), rfl⟩, trivial⟩ ⟨⟨rfl, rfl⟩, ⟨by rw [htk]; rfl, rfl⟩, ⟨rfl, rfl⟩, trivial⟩ rfl⟩
        · have hjn : j = (callsI l).length := by simp at h; omega
          have hG2 : F ++ ((callsI l).take j).map (fun c => (k, c)) = G := by rw [hS, hjn, List.take_length]
          rw [hG2] at hok ⊢
          conv => whnf
          exact ⟨k + 1, ⟨⟨⟨hlt, by rw [hG, hS, List.length_append, List.length_map]; omega⟩, hgood hlo, by rw [hG]; exact hok⟩, by omega⟩, le_mk [(0, _), (1, _)] rfl ⟨⟨rfl, rfl⟩, ⟨rfl, rfl⟩, ⟨rfl, rfl⟩, ⟨rfl, rfl⟩, ⟨ctr (by omega), rfl⟩, trivial⟩ ⟨⟨rfl, rfl⟩, ⟨by rw [hG]; rfl, rfl⟩, trivial⟩ rfl⟩
      · have hc : callsI l = l.Queue := by unfold callsI; rw [if_neg (by rw [hy]; decide), List.append_nil]
        rw [← hc]
        have h0 : keysP (F ++ ((callsI l).take 0).map fun c => (k, c)) = keysP F := by rw [List.take_zero, List.map_nil, List.append_nil]
        refine loop_i (fun j : Nat => ⟨envL [(1, .c (.ptr 0 0)), (3, .c (.row 1)), (4, .c (.pv (.int .i64 k))), (57, .c (.pv (XLine.sP x.Lines))), (58, .c (.pv (.int .i64 x.Lines.length))), (59, .c (.pv (.int .i64 k))), (68, .c (.row 2)), (69, .c (.pv (.int .i64 (callsI l).length))), (70, .c (.pv (.int .i64 j)))], resL [(0, .box (x.ps.map .pv)), (1, .row true 2 (keysP (F ++ ((callsI l).take j).map fun c => (k, c)))), (2, .row false 9 ((callsI l).map XCall.ps))], 3, 102⟩) (fun j => j ≤ (callsI l).length ∧ okC x.Open (F ++ ((callsI l).take j).map fun c => (k, c)) = true) (fun j => (callsI l).length - j) 0 ⟨Nat.zero_le _, by rw [List.take_zero, List.map_nil, List.append_nil]; exact ho⟩ (le_mk [(0, _), (1, _), (2, _)] rfl ⟨⟨rfl, rfl⟩, ⟨rfl, rfl⟩, ⟨rfl, rfl⟩, ⟨rfl, rfl⟩, ⟨rfl, rfl⟩, ⟨rfl, rfl⟩, ⟨rfl, rfl⟩, ⟨i64_eq (by rw [List.length_map]), rfl⟩, ⟨rfl, rfl⟩, trivial⟩ ⟨⟨rfl, rfl⟩, ⟨by rw [h0]; rfl, rfl⟩, ⟨rfl, rfl⟩, trivial⟩ rfl) ?_
        intro j ⟨hj, hok⟩
        conv => whnf
        refine br_i (fun h => ?_) (fun h => ?_)
        · have hjt : j < (callsI l).length := by simpa using h
          have hcp := hp _ (List.getElem_mem hjt)
          have hBj := hB j hjt
          have hel : ((callsI l).map XCall.ps)[j]? = some (XCall.ps (callsI l)[j]) := by rw [List.getElem?_map, List.getElem?_eq_getElem hjt]; rfl
          have htk : F ++ ((callsI l).take (j + 1)).map (fun c => (k, c)) = (F ++ ((callsI l).take j).map fun c => (k, c)) ++ [(k, (callsI l)[j])] := by rw [List.take_succ_eq_append_getElem hjt, List.map_append, List.append_assoc]; rfl
          have hlen : (F ++ ((callsI l).take j).map fun c => (k, c)).length ≤ 300 := by rw [List.length_append, List.length_map, List.length_take]; omega
          have hone := okC_one x.Open (F ++ ((callsI l).take j).map fun c => (k, c)) k (callsI l)[j]
          rw [hok, Bool.true_and] at hone
          generalize hL : (F ++ ((callsI l).take j).map fun c => (k, c)) = L at *
          generalize (callsI l)[j] = c at *
          conv => whnf
          refine ⟨j, ⟨⟨rfl, by rw [List.length_map]; exact hjt⟩, rfl⟩, ?_⟩
          conv => whnf
          refine ⟨_, ⟨rfl, hel⟩, ?_⟩
          conv => whnf
          refine call_i (m_isOf x.Open k c hT hcp) ?_
          conv => whnf
          refine br_i (fun h => ?_) (fun h => ?_)
          · conv => whnf
            refine leaf_i rfl rfl ?_
            rw [hBj (by rw [hone]; simp at h; simp [h])]
            rfl
          have hfit : fitsF x.Open k c = true := by simpa using h
          conv => whnf
          refine call_i (m_containsPl (L.map fun p : Nat × XCall => keyC p.2) (keyC c)) ?_
          conv => whnf
          refine br_i (fun h => ?_) (fun h => ?_)
          · conv => whnf
            refine leaf_i rfl rfl ?_
            rw [hBj (by rw [hone, h]; simp)]
            rfl
          conv => whnf
          refine And.intro ⟨rfl, flat_place c⟩ ?_
          conv => whnf
          refine ⟨_, key_app L k c hlen, ?_⟩
          conv => whnf
          exact ⟨j + 1, ⟨⟨hjt, by rw [htk, hone, hfit, h]; rfl⟩, by omega⟩, le_mk [(0, _), (1, _), (2, _)] rfl ⟨⟨rfl, rfl⟩, ⟨rfl, rfl⟩, ⟨rfl, rfl⟩, ⟨rfl, rfl⟩, ⟨rfl, rfl⟩, ⟨rfl, rfl⟩, ⟨rfl, rfl⟩, ⟨rfl, rfl⟩, ⟨ctr (by omega), rfl⟩, trivial⟩ ⟨⟨rfl, rfl⟩, ⟨by rw [htk]; rfl, rfl⟩, ⟨rfl, rfl⟩, trivial⟩ rfl⟩
        · have hjn : j = (callsI l).length := by simp at h; omega
          have hG2 : F ++ ((callsI l).take j).map (fun c => (k, c)) = G := by rw [hS, hjn, List.take_length]
          rw [hG2] at hok ⊢
          conv => whnf
          exact ⟨k + 1, ⟨⟨⟨hlt, by rw [hG, hS, List.length_append, List.length_map]; omega⟩, hgood hlo, by rw [hG]; exact hok⟩, by omega⟩, le_mk [(0, _), (1, _)] rfl ⟨⟨rfl, rfl⟩, ⟨rfl, rfl⟩, ⟨rfl, rfl⟩, ⟨rfl, rfl⟩, ⟨ctr (by omega), rfl⟩, trivial⟩ ⟨⟨rfl, rfl⟩, ⟨by rw [hG]; rfl, rfl⟩, trivial⟩ rfl⟩
  · have hk6 : k = x.Lines.length := by have := dge h; omega
    subst hk6
    (repeat' ((conv => whnf); first | refine br_i (fun _ => ?_) (fun _ => ?_) | (refine cur_leaf rfl rfl rfl ?_ ?_; · first | assumption | omega | exact hw ‹_›) | refine leaf_i rfl rfl ?_ | refine And.intro rfl ?_ | refine call_i (m_Waiting x.Open hw) ?_ | (refine Or.inl ?_; (conv => whnf); refine call_i (m_Waiting x.Open hw) ?_) | (refine And.intro ?_ ?_; · decide)))
    all_goals (rw [List.take_length] at hs; unfold fabOk; rw [hH, hs, ho]; unfold keysP; rw [List.length_map, List.length_map]; simp only [Bool.true_and]; first | rfl | simp)
def callsP (L : List (Nat × XCall)) : List (List PV) := (L.map fun p => p.2).map XCall.ps
theorem call_app (L : List (Nat × XCall)) (k : Nat) (c : XCall) (h : L.length ≤ 300) : ((callsP L).length + 1) * 104 ≤ 140737488355328 ∧ callsP (L ++ [(k, c)]) = callsP L ++ [XCall.ps c] := by
  refine ⟨by unfold callsP; simp; omega, by unfold callsP; simp⟩
theorem call_yes {b : Bool} (h : b = false) : [VV.one (.bool false)] = [boolv b] := by subst h; rfl
set_option maxHeartbeats 4000000 in
theorem s_FabricOk (x : XFabric) (hw : x.Open.tot ≤ 1048576) : PureC Tryz.prog 5 [x.v] [boolv (fabOk callsS x)] := by
  refine pureC_of (Γ := lookT tbl) (il := ilist) tg dr Tryz.func5 rfl (by kernel_rfl) rfl (Nat.le_of_ble_eq_true rfl) ?_
  (repeat' ((conv => whnf); first | refine br_i (fun _ => ?_) (fun _ => ?_) | (refine cur_leaf rfl rfl rfl ?_ ?_; · first | assumption | omega | exact hw ‹_›) | refine leaf_i rfl rfl ?_ | refine And.intro rfl ?_ | refine call_i (s_in _ _ _) ?_ | (refine Or.inl ?_; (conv => whnf); refine call_i (s_in _ _ _) ?_) | refine call_i (s_tick _) ?_ | (refine Or.inl ?_; (conv => whnf); refine call_i (s_tick _) ?_) | refine call_i (s_ConfigOk x.Set) ?_ | (refine Or.inl ?_; (conv => whnf); refine call_i (s_ConfigOk x.Set) ?_) | refine call_i (s_TableOk x.Open) ?_ | (refine Or.inl ?_; (conv => whnf); refine call_i (s_TableOk x.Open) ?_) | (refine And.intro ?_ ?_; · decide)))
  all_goals try ((refine bool_leaf ?_; first | (simp_all [fabOk, fabHead]; done) | (simp_all [fabOk, fabHead]; omega)); done)
  have hH : fabHead x = true := by (first | (simp_all [fabHead]; done) | (simp_all [fabHead]; omega))
  have h6 : x.Lines.length = 6 := by (first | (simp_all [fabHead]; done) | (simp_all [fabHead]; omega))
  have hT : tableB x.Open = true := by simp only [fabHead, Bool.and_eq_true] at hH; exact hH.1.1.1.1.1.2
  conv => whnf
  refine loop_i (fun k : Nat × Bool => ⟨envL [(1, .c (.ptr 0 0)), (3, .c (.row 1)), (4, .c (.pv (.int .i64 k.1)))], resL [(0, .box (x.ps.map .pv)), (1, .row k.2 9 (callsP (flatK callsS x.Lines k.1)))], 2, 132⟩) (fun k => (k.1 ≤ x.Lines.length ∧ (flatK callsS x.Lines k.1).length ≤ 41 * k.1) ∧ (x.Lines.take k.1).all lineOk = true ∧ okC x.Open (flatK callsS x.Lines k.1) = true) (fun k => x.Lines.length - k.1) (0, true) ⟨⟨Nat.zero_le _, Nat.zero_le _⟩, rfl, rfl⟩ (le_mk [(0, _), (1, _)] rfl ⟨⟨rfl, rfl⟩, ⟨rfl, rfl⟩, ⟨rfl, rfl⟩, trivial⟩ ⟨⟨rfl, rfl⟩, ⟨rfl, rfl⟩, trivial⟩ rfl) ?_
  intro ⟨k, own⟩ ⟨⟨hk, hn⟩, hs, ho⟩
  dsimp only at hk hn hs ho
  conv => whnf
  refine br_i (fun h => ?_) (fun h => ?_)
  · have hlt : k < x.Lines.length := by simpa using h
    have hx := idx_map x.Lines XLine.ps k hlt 17
    have hline := s_LineOk x.Lines[k]
    have hbad : lineOk x.Lines[k] = false → fabOk callsS x = false := fun h => line_bad hlt h
    have hcl : lineOk x.Lines[k] = true → _ := fun h => line_calls h
    have hB := fun j hj => @ok_bad callsS x k j hlt hj
    have hS := flatK_succ callsS x.Lines k hlt
    have hgood : lineOk x.Lines[k] = true → (x.Lines.take (k + 1)).all lineOk = true := fun h => all_succ hs hlt h
    generalize hF : flatK callsS x.Lines k = F at *
    generalize hG : flatK callsS x.Lines (k + 1) = G at *
    generalize x.Lines[k] = l at *
    conv => whnf
    refine ⟨_, hx, ?_⟩
    conv => whnf
    refine call_i hline ?_
    conv => whnf
    refine br_i (fun h => ?_) (fun h => ?_)
    · conv => whnf
      refine leaf_i rfl rfl ?_
      rw [hbad (by simpa using h)]
      rfl
    have hlo : lineOk l = true := by simpa using h
    obtain ⟨_, hp, _, h41⟩ := hcl hlo
    have hql : l.Queue.length ≤ 41 := by unfold callsS at h41; rw [List.length_append] at h41; omega
    conv => whnf
    refine ⟨_, hx, ?_⟩
    conv => whnf
    refine inl_of (Γ := lookT tbl) (il := ilist) tg dr Tryz.func17 rfl (by kernel_rfl) rfl (ts := [61]) (Nat.le_of_ble_eq_true rfl) ?_
    conv => whnf
    refine br_i (fun hy => ?_) (fun hy => ?_) <;> conv => whnf
    · have hc : (callsS l).map XCall.ps = [] ++ [XCall.ps l.Call] ++ l.Queue.map XCall.ps := by unfold callsS; rw [if_pos hy, List.map_append]; rfl
      refine And.intro rfl ?_
      conv => whnf
      refine ⟨[] ++ [XCall.ps l.Call], ⟨Nat.le_of_ble_eq_true rfl, rfl⟩, ?_⟩
      conv => whnf
      refine And.intro rfl ?_
      conv => whnf
      refine ⟨(callsS l).map XCall.ps, ⟨by show (1 + _) * 104 ≤ _; rw [List.length_map]; omega, hc⟩, ?_⟩
      conv => whnf
      have h0 : callsP (F ++ ((callsS l).take 0).map fun c => (k, c)) = callsP F := by rw [List.take_zero, List.map_nil, List.append_nil]
      refine loop_i (fun j : Nat × Bool => ⟨envL [(1, .c (.ptr 0 0)), (3, .c (.row 1)), (4, .c (.pv (.int .i64 k))), (5, .c (.row 2)), (6, .c (.pv (.int .i64 j.1)))], resL [(0, .box (x.ps.map .pv)), (1, .row j.2 9 (callsP (F ++ ((callsS l).take j.1).map fun c => (k, c)))), (2, .row false 9 ((callsS l).map XCall.ps))], 3, 132⟩) (fun j => j.1 ≤ (callsS l).length ∧ okC x.Open (F ++ ((callsS l).take j.1).map fun c => (k, c)) = true) (fun j => (callsS l).length - j.1) (0, own) ⟨Nat.zero_le _, by rw [List.take_zero, List.map_nil, List.append_nil]; exact ho⟩ (le_mk [(0, _), (1, _), (2, _)] rfl ⟨⟨rfl, rfl⟩, ⟨rfl, rfl⟩, ⟨rfl, rfl⟩, ⟨rfl, rfl⟩, ⟨rfl, rfl⟩, trivial⟩ ⟨⟨rfl, rfl⟩, ⟨by rw [h0]; rfl, rfl⟩, ⟨rfl, rfl⟩, trivial⟩ rfl) ?_
      intro ⟨j, ow⟩ ⟨hj, hok⟩
      dsimp only at hj hok
      conv => whnf
      refine br_i (fun h => ?_) (fun h => ?_)
      · have hjt : j < (callsS l).length := by simpa using h
        have hcp := hp _ (List.getElem_mem hjt)
        have hBj := hB j hjt
        have hel : ((callsS l).map XCall.ps)[j]? = some (XCall.ps (callsS l)[j]) := by rw [List.getElem?_map, List.getElem?_eq_getElem hjt]; rfl
        have htk : F ++ ((callsS l).take (j + 1)).map (fun c => (k, c)) = (F ++ ((callsS l).take j).map fun c => (k, c)) ++ [(k, (callsS l)[j])] := by rw [List.take_succ_eq_append_getElem hjt, List.map_append, List.append_assoc]; rfl
        have hlen : (F ++ ((callsS l).take j).map fun c => (k, c)).length ≤ 300 := by rw [List.length_append, List.length_map, List.length_take]; omega
        have hone := okC_one x.Open (F ++ ((callsS l).take j).map fun c => (k, c)) k (callsS l)[j]
        rw [hok, Bool.true_and] at hone
        have hjm : j < ((callsS l).map XCall.ps).length := by rw [List.length_map]; exact hjt
        generalize hL : (F ++ ((callsS l).take j).map fun c => (k, c)) = L at hok hone hBj htk hlen ⊢
        obtain ⟨c, hcd⟩ : ∃ c, (callsS l)[j] = c := ⟨_, rfl⟩
        rw [hcd] at hel hone hcp hBj htk
        conv => whnf
        refine loop_i (fun i : Nat => ⟨envL [(1, .c (.ptr 0 0)), (3, .c (.row 1)), (4, .c (.pv (.int .i64 k))), (5, .c (.row 2)), (6, .c (.pv (.int .i64 j))), (7, .c (.pv (.int .i64 i)))], resL [(0, .box (x.ps.map .pv)), (1, .row ow 9 (callsP L)), (2, .row false 9 ((callsS l).map XCall.ps))], 3, 132⟩) (fun i => i ≤ L.length ∧ (L.take i).all (fun p => !(keyC p.2 == keyC c)) = true) (fun i => L.length - i) 0 ⟨Nat.zero_le _, rfl⟩ (le_mk [(0, _), (1, _), (2, _)] rfl ⟨⟨rfl, rfl⟩, ⟨rfl, rfl⟩, ⟨rfl, rfl⟩, ⟨rfl, rfl⟩, ⟨rfl, rfl⟩, ⟨rfl, rfl⟩, trivial⟩ ⟨⟨rfl, rfl⟩, ⟨rfl, rfl⟩, ⟨rfl, rfl⟩, trivial⟩ rfl) ?_
        intro i ⟨hi, his⟩
        conv => whnf
        refine br_i (fun h => ?_) (fun h => ?_)
        · have hit : i < L.length := by unfold callsP at h; simpa using h
          have him : i < (callsP L).length := by unfold callsP; rw [List.length_map, List.length_map]; exact hit
          have hei : (callsP L)[i]? = some (XCall.ps L[i].2) := by unfold callsP; rw [List.getElem?_map, List.getElem?_map, List.getElem?_eq_getElem hit]; rfl
          have hnx : (keyC L[i].2 == keyC c) = false → (L.take (i + 1)).all (fun p => !(keyC p.2 == keyC c)) = true := fun h => all_succ his hit (by simp [h])
          have hct : (keyC L[i].2 == keyC c) = true → (L.map fun p => keyC p.2).contains (keyC c) = true := fun h => by
            rw [List.contains_iff_mem, List.mem_map]
            exact ⟨L[i], List.getElem_mem hit, by simpa using h⟩
          have hyes : (L[i].2.Id == c.Id) = true → (L[i].2.Part == c.Part) = true → (keyC L[i].2 == keyC c) = true := by simp [keyC]; exact fun a b => ⟨a, b⟩
          have hno1 : (L[i].2.Id == c.Id) = false → (keyC L[i].2 == keyC c) = false := by simp [keyC]; omega
          have hno2 : (L[i].2.Part == c.Part) = false → (keyC L[i].2 == keyC c) = false := by simp [keyC]; exact fun a _ => a
          (repeat' ((conv => whnf); first | refine br_i (fun _ => ?_) (fun _ => ?_) | (refine cur_leaf rfl rfl rfl ?_ ?_; · first | assumption | omega | exact hw ‹_›) | refine leaf_i rfl rfl ?_ | refine And.intro rfl ?_ | (refine ⟨i, ⟨⟨rfl, him⟩, rfl⟩, ?_⟩) | (refine ⟨_, ⟨rfl, hei⟩, ?_⟩) | (refine ⟨j, ⟨⟨rfl, hjm⟩, rfl⟩, ?_⟩) | (refine ⟨_, ⟨rfl, hel⟩, ?_⟩) | (refine And.intro ?_ ?_; · decide)))
          all_goals first | (refine call_yes ?_ ; exact hBj (by rw [hone, hct (hyes ‹_› ‹_›)]; simp)) | ((conv => whnf); exact ⟨i + 1, ⟨⟨hit, hnx (hno1 ‹_›)⟩, by omega⟩, le_mk [(0, _), (1, _), (2, _)] rfl ⟨⟨rfl, rfl⟩, ⟨rfl, rfl⟩, ⟨rfl, rfl⟩, ⟨rfl, rfl⟩, ⟨rfl, rfl⟩, ⟨ctr (by omega), rfl⟩, trivial⟩ ⟨⟨rfl, rfl⟩, ⟨rfl, rfl⟩, ⟨rfl, rfl⟩, trivial⟩ rfl⟩) | ((conv => whnf); exact ⟨i + 1, ⟨⟨hit, hnx (hno2 ‹_›)⟩, by omega⟩, le_mk [(0, _), (1, _), (2, _)] rfl ⟨⟨rfl, rfl⟩, ⟨rfl, rfl⟩, ⟨rfl, rfl⟩, ⟨rfl, rfl⟩, ⟨rfl, rfl⟩, ⟨ctr (by omega), rfl⟩, trivial⟩ ⟨⟨rfl, rfl⟩, ⟨rfl, rfl⟩, ⟨rfl, rfl⟩, trivial⟩ rfl⟩)
        · have hin : L.length ≤ i := by unfold callsP at h; simpa using h
          have hno : (L.map fun p => keyC p.2).contains (keyC c) = false := by
            rw [List.take_of_length_le hin] at his
            rw [← Bool.not_eq_true, List.contains_iff_mem, List.mem_map]
            rintro ⟨p, hp1, hp2⟩
            have := List.all_eq_true.1 his p hp1
            simp [hp2] at this
          conv => whnf
          refine ⟨j, ⟨⟨rfl, hjm⟩, rfl⟩, ?_⟩
          conv => whnf
          refine ⟨_, ⟨rfl, hel⟩, ?_⟩
          conv => whnf
          refine call_i (s_Fits x x.Open rfl k c hT hcp) ?_
          conv => whnf
          refine And.intro rfl ?_
          conv => whnf
          refine br_i (fun h => ?_) (fun h => ?_)
          · conv => whnf
            refine leaf_i rfl rfl ?_
            rw [hBj (by rw [hone]; simp at h; simp [h])]
            rfl
          have hfit : fitsF x.Open k c = true := by simpa using h
          conv => whnf
          refine ⟨j, ⟨⟨rfl, hjm⟩, rfl⟩, ?_⟩
          conv => whnf
          refine ⟨_, ⟨rfl, hel⟩, ?_⟩
          conv => whnf
          refine And.intro rfl ?_
          conv => whnf
          refine ⟨_, call_app L k c hlen, ?_⟩
          conv => whnf
          exact ⟨(j + 1, _), ⟨⟨hjt, by show okC x.Open (F ++ ((callsS l).take (j + 1)).map fun c => (k, c)) = true; rw [htk, hone, hfit, hno]; rfl⟩, by show (callsS l).length - (j + 1) < (callsS l).length - j; omega⟩, le_mk [(0, _), (1, _), (2, _)] rfl ⟨⟨rfl, rfl⟩, ⟨rfl, rfl⟩, ⟨rfl, rfl⟩, ⟨rfl, rfl⟩, ⟨ctr (by omega), rfl⟩, trivial⟩ ⟨⟨rfl, rfl⟩, ⟨by rw [htk]; rfl, rfl⟩, ⟨rfl, rfl⟩, trivial⟩ rfl⟩
      · have hjn : j = (callsS l).length := by simp at h; omega
        have hG2 : F ++ ((callsS l).take j).map (fun c => (k, c)) = G := by rw [hS, hjn, List.take_length]
        rw [hG2] at hok ⊢
        conv => whnf
        exact ⟨(k + 1, ow), ⟨⟨⟨hlt, by show (flatK callsS x.Lines (k + 1)).length ≤ 41 * (k + 1); rw [hG, hS, List.length_append, List.length_map]; omega⟩, hgood hlo, by rw [hG]; exact hok⟩, by show x.Lines.length - (k + 1) < x.Lines.length - k; omega⟩, le_mk [(0, _), (1, _)] rfl ⟨⟨rfl, rfl⟩, ⟨rfl, rfl⟩, ⟨ctr (by omega), rfl⟩, trivial⟩ ⟨⟨rfl, rfl⟩, ⟨by rw [hG]; rfl, rfl⟩, trivial⟩ rfl⟩
    · have hc : callsS l = l.Queue := by unfold callsS; rw [if_neg (by rw [hy]; decide)]; rfl
      refine And.intro rfl ?_
      conv => whnf
      refine ⟨(callsS l).map XCall.ps, ⟨by show (0 + _) * 104 ≤ _; rw [List.length_map]; omega, by rw [hc]; rfl⟩, ?_⟩
      conv => whnf
      have h0 : callsP (F ++ ((callsS l).take 0).map fun c => (k, c)) = callsP F := by rw [List.take_zero, List.map_nil, List.append_nil]
      refine loop_i (fun j : Nat × Bool => ⟨envL [(1, .c (.ptr 0 0)), (3, .c (.row 1)), (4, .c (.pv (.int .i64 k))), (5, .c (.row 2)), (6, .c (.pv (.int .i64 j.1)))], resL [(0, .box (x.ps.map .pv)), (1, .row j.2 9 (callsP (F ++ ((callsS l).take j.1).map fun c => (k, c)))), (2, .row false 9 ((callsS l).map XCall.ps))], 3, 132⟩) (fun j => j.1 ≤ (callsS l).length ∧ okC x.Open (F ++ ((callsS l).take j.1).map fun c => (k, c)) = true) (fun j => (callsS l).length - j.1) (0, own) ⟨Nat.zero_le _, by rw [List.take_zero, List.map_nil, List.append_nil]; exact ho⟩ (le_mk [(0, _), (1, _), (2, _)] rfl ⟨⟨rfl, rfl⟩, ⟨rfl, rfl⟩, ⟨rfl, rfl⟩, ⟨rfl, rfl⟩, ⟨rfl, rfl⟩, trivial⟩ ⟨⟨rfl, rfl⟩, ⟨by rw [h0]; rfl, rfl⟩, ⟨rfl, rfl⟩, trivial⟩ rfl) ?_
      intro ⟨j, ow⟩ ⟨hj, hok⟩
      dsimp only at hj hok
      conv => whnf
      refine br_i (fun h => ?_) (fun h => ?_)
      · have hjt : j < (callsS l).length := by simpa using h
        have hcp := hp _ (List.getElem_mem hjt)
        have hBj := hB j hjt
        have hel : ((callsS l).map XCall.ps)[j]? = some (XCall.ps (callsS l)[j]) := by rw [List.getElem?_map, List.getElem?_eq_getElem hjt]; rfl
        have htk : F ++ ((callsS l).take (j + 1)).map (fun c => (k, c)) = (F ++ ((callsS l).take j).map fun c => (k, c)) ++ [(k, (callsS l)[j])] := by rw [List.take_succ_eq_append_getElem hjt, List.map_append, List.append_assoc]; rfl
        have hlen : (F ++ ((callsS l).take j).map fun c => (k, c)).length ≤ 300 := by rw [List.length_append, List.length_map, List.length_take]; omega
        have hone := okC_one x.Open (F ++ ((callsS l).take j).map fun c => (k, c)) k (callsS l)[j]
        rw [hok, Bool.true_and] at hone
        have hjm : j < ((callsS l).map XCall.ps).length := by rw [List.length_map]; exact hjt
        generalize hL : (F ++ ((callsS l).take j).map fun c => (k, c)) = L at hok hone hBj htk hlen ⊢
        obtain ⟨c, hcd⟩ : ∃ c, (callsS l)[j] = c := ⟨_, rfl⟩
        rw [hcd] at hel hone hcp hBj htk
        conv => whnf
        refine loop_i (fun i : Nat => ⟨envL [(1, .c (.ptr 0 0)), (3, .c (.row 1)), (4, .c (.pv (.int .i64 k))), (5, .c (.row 2)), (6, .c (.pv (.int .i64 j))), (7, .c (.pv (.int .i64 i)))], resL [(0, .box (x.ps.map .pv)), (1, .row ow 9 (callsP L)), (2, .row false 9 ((callsS l).map XCall.ps))], 3, 132⟩) (fun i => i ≤ L.length ∧ (L.take i).all (fun p => !(keyC p.2 == keyC c)) = true) (fun i => L.length - i) 0 ⟨Nat.zero_le _, rfl⟩ (le_mk [(0, _), (1, _), (2, _)] rfl ⟨⟨rfl, rfl⟩, ⟨rfl, rfl⟩, ⟨rfl, rfl⟩, ⟨rfl, rfl⟩, ⟨rfl, rfl⟩, ⟨rfl, rfl⟩, trivial⟩ ⟨⟨rfl, rfl⟩, ⟨rfl, rfl⟩, ⟨rfl, rfl⟩, trivial⟩ rfl) ?_
        intro i ⟨hi, his⟩
        conv => whnf
        refine br_i (fun h => ?_) (fun h => ?_)
        · have hit : i < L.length := by unfold callsP at h; simpa using h
          have him : i < (callsP L).length := by unfold callsP; rw [List.length_map, List.length_map]; exact hit
          have hei : (callsP L)[i]? = some (XCall.ps L[i].2) := by unfold callsP; rw [List.getElem?_map, List.getElem?_map, List.getElem?_eq_getElem hit]; rfl
          have hnx : (keyC L[i].2 == keyC c) = false → (L.take (i + 1)).all (fun p => !(keyC p.2 == keyC c)) = true := fun h => all_succ his hit (by simp [h])
          have hct : (keyC L[i].2 == keyC c) = true → (L.map fun p => keyC p.2).contains (keyC c) = true := fun h => by
            rw [List.contains_iff_mem, List.mem_map]
            exact ⟨L[i], List.getElem_mem hit, by simpa using h⟩
          have hyes : (L[i].2.Id == c.Id) = true → (L[i].2.Part == c.Part) = true → (keyC L[i].2 == keyC c) = true := by simp [keyC]; exact fun a b => ⟨a, b⟩
          have hno1 : (L[i].2.Id == c.Id) = false → (keyC L[i].2 == keyC c) = false := by simp [keyC]; omega
          have hno2 : (L[i].2.Part == c.Part) = false → (keyC L[i].2 == keyC c) = false := by simp [keyC]; exact fun a _ => a
          (repeat' ((conv => whnf); first | refine br_i (fun _ => ?_) (fun _ => ?_) | (refine cur_leaf rfl rfl rfl ?_ ?_; · first | assumption | omega | exact hw ‹_›) | refine leaf_i rfl rfl ?_ | refine And.intro rfl ?_ | (refine ⟨i, ⟨⟨rfl, him⟩, rfl⟩, ?_⟩) | (refine ⟨_, ⟨rfl, hei⟩, ?_⟩) | (refine ⟨j, ⟨⟨rfl, hjm⟩, rfl⟩, ?_⟩) | (refine ⟨_, ⟨rfl, hel⟩, ?_⟩) | (refine And.intro ?_ ?_; · decide)))
          all_goals first | (refine call_yes ?_ ; exact hBj (by rw [hone, hct (hyes ‹_› ‹_›)]; simp)) | ((conv => whnf); exact ⟨i + 1, ⟨⟨hit, hnx (hno1 ‹_›)⟩, by omega⟩, le_mk [(0, _), (1, _), (2, _)] rfl ⟨⟨rfl, rfl⟩, ⟨rfl, rfl⟩, ⟨rfl, rfl⟩, ⟨rfl, rfl⟩, ⟨rfl, rfl⟩, ⟨ctr (by omega), rfl⟩, trivial⟩ ⟨⟨rfl, rfl⟩, ⟨rfl, rfl⟩, ⟨rfl, rfl⟩, trivial⟩ rfl⟩) | ((conv => whnf); exact ⟨i + 1, ⟨⟨hit, hnx (hno2 ‹_›)⟩, by omega⟩, le_mk [(0, _), (1, _), (2, _)] rfl ⟨⟨rfl, rfl⟩, ⟨rfl, rfl⟩, ⟨rfl, rfl⟩, ⟨rfl, rfl⟩, ⟨rfl, rfl⟩, ⟨ctr (by omega), rfl⟩, trivial⟩ ⟨⟨rfl, rfl⟩, ⟨rfl, rfl⟩, ⟨rfl, rfl⟩, trivial⟩ rfl⟩)
        · have hin : L.length ≤ i := by unfold callsP at h; simpa using h
          have hno : (L.map fun p => keyC p.2).contains (keyC c) = false := by
            rw [List.take_of_length_le hin] at his
            rw [← Bool.not_eq_true, List.contains_iff_mem, List.mem_map]
            rintro ⟨p, hp1, hp2⟩
            have := List.all_eq_true.1 his p hp1
            simp [hp2] at this
          conv => whnf
          refine ⟨j, ⟨⟨rfl, hjm⟩, rfl⟩, ?_⟩
          conv => whnf
          refine ⟨_, ⟨rfl, hel⟩, ?_⟩
          conv => whnf
          refine call_i (s_Fits x x.Open rfl k c hT hcp) ?_
          conv => whnf
          refine And.intro rfl ?_
          conv => whnf
          refine br_i (fun h => ?_) (fun h => ?_)
          · conv => whnf
            refine leaf_i rfl rfl ?_
            rw [hBj (by rw [hone]; simp at h; simp [h])]
            rfl
          have hfit : fitsF x.Open k c = true := by simpa using h
          conv => whnf
          refine ⟨j, ⟨⟨rfl, hjm⟩, rfl⟩, ?_⟩
          conv => whnf
          refine ⟨_, ⟨rfl, hel⟩, ?_⟩
          conv => whnf
          refine And.intro rfl ?_
          conv => whnf
          refine ⟨_, call_app L k c hlen, ?_⟩
          conv => whnf
          exact ⟨(j + 1, _), ⟨⟨hjt, by show okC x.Open (F ++ ((callsS l).take (j + 1)).map fun c => (k, c)) = true; rw [htk, hone, hfit, hno]; rfl⟩, by show (callsS l).length - (j + 1) < (callsS l).length - j; omega⟩, le_mk [(0, _), (1, _), (2, _)] rfl ⟨⟨rfl, rfl⟩, ⟨rfl, rfl⟩, ⟨rfl, rfl⟩, ⟨rfl, rfl⟩, ⟨ctr (by omega), rfl⟩, trivial⟩ ⟨⟨rfl, rfl⟩, ⟨by rw [htk]; rfl, rfl⟩, ⟨rfl, rfl⟩, trivial⟩ rfl⟩
      · have hjn : j = (callsS l).length := by simp at h; omega
        have hG2 : F ++ ((callsS l).take j).map (fun c => (k, c)) = G := by rw [hS, hjn, List.take_length]
        rw [hG2] at hok ⊢
        conv => whnf
        exact ⟨(k + 1, ow), ⟨⟨⟨hlt, by show (flatK callsS x.Lines (k + 1)).length ≤ 41 * (k + 1); rw [hG, hS, List.length_append, List.length_map]; omega⟩, hgood hlo, by rw [hG]; exact hok⟩, by show x.Lines.length - (k + 1) < x.Lines.length - k; omega⟩, le_mk [(0, _), (1, _)] rfl ⟨⟨rfl, rfl⟩, ⟨rfl, rfl⟩, ⟨ctr (by omega), rfl⟩, trivial⟩ ⟨⟨rfl, rfl⟩, ⟨by rw [hG]; rfl, rfl⟩, trivial⟩ rfl⟩
  · have hk6 : k = x.Lines.length := by have := dge h; rw [List.length_map] at this; omega
    subst hk6
    (repeat' ((conv => whnf); first | refine br_i (fun _ => ?_) (fun _ => ?_) | (refine cur_leaf rfl rfl rfl ?_ ?_; · first | assumption | omega | exact hw ‹_›) | refine leaf_i rfl rfl ?_ | refine And.intro rfl ?_ | refine call_i (s_Waiting x.Open hw) ?_ | (refine Or.inl ?_; (conv => whnf); refine call_i (s_Waiting x.Open hw) ?_) | (refine And.intro ?_ ?_; · decide)))
    all_goals (rw [List.take_length] at hs; unfold fabOk; rw [hH, hs, ho]; unfold callsP; rw [List.length_map, List.length_map]; simp only [Bool.true_and]; first | rfl | simp)
theorem law_FnExactFabricOk (x : XFabric) (_ : x.Ok) : PureC Tryz.prog 3 [x.v] [boolv true] := by
  refine pureC_of (Γ := lookT tbl) (il := ilist) tg dr Tryz.func3 rfl (by kernel_rfl) rfl (Nat.le_of_ble_eq_true rfl) ?_
  conv => whnf
  refine call_i (szFabric x 1048576 (by decide) (by decide)) ?_
  conv => whnf
  refine br_i (fun h => ?_) (fun h => ?_) <;> conv => whnf
  · exact leaf_i rfl rfl rfl
  have ht : x.tot ≤ 1048576 := by have := sub_nn (dge h); omega
  have hw : x.Open.tot ≤ 1048576 := by have h1 : x.tot = x.Set.tot + x.Open.tot + XLine.sTot x.Lines := rfl
                                       omega
  have hl : x.Open.List_.length ≤ 1048577 := by
    have h1 : x.Open.tot = x.Open.List_.length + sumF XPend.tot x.Open.List_ := rfl
    omega
  have he : PureC Tryz.prog 8 [x.v, x.v] [boolv true] := by simpa using eqFabric x x
  have hs := s_FabricOk x hw
  rw [← fabOk_perm] at hs
  (repeat' ((conv => whnf); first | refine br_i (fun _ => ?_) (fun _ => ?_) | (refine cur_leaf rfl rfl rfl ?_ ?_; · first | assumption | omega | exact hw ‹_›) | refine leaf_i rfl rfl ?_ | refine And.intro rfl ?_ | refine call_i (toFabric x ht) ?_ | (refine Or.inl ?_; (conv => whnf); refine call_i (toFabric x ht) ?_) | refine call_i (hs) ?_ | (refine Or.inl ?_; (conv => whnf); refine call_i (hs) ?_) | refine call_i (m_FabricOk x hl hw) ?_ | (refine Or.inl ?_; (conv => whnf); refine call_i (m_FabricOk x hl hw) ?_) | refine call_i (he) ?_ | (refine Or.inl ?_; (conv => whnf); refine call_i (he) ?_) | (refine And.intro ?_ ?_; · decide)))
  all_goals first | rfl | (rename_i h; simp at h)

end Go.Proofs.YtknlfechpcimkaaGreat
