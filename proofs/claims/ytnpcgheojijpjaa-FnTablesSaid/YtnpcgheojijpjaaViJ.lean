/- Operation by operation: append. -/
import Derived.Test.YtnpcgheojijpjaaViI
import Derived.Deep.AppendSrc
set_option linter.unusedVariables false
set_option linter.unusedSimpArgs false
namespace Go.Vi
open Go.RowKit
section
variable {P : Program} {Γ : TG} {dm : Bool} {o : Oper} {env : Nat → AV} {res : Res} {id : Nat} {K : KT}
theorem run_append_at (t ty e : TypeId) (i : TypeInfo) (ht : P.underlying t = some (.slice e)) (hi : P.info? e = some i) (w : World)
    (b q n c : Nat) (cur : Array Value) (e' : TypeId) (hg : CellsAt w b cur e') (tx : TypeId) (x : Value) (m : Nat) (news : List Value) (hsr : Src P i.size tx x m news w) (hroom : n + m ≤ c) (hfit : q + n * i.size + news.length ≤ cur.size) :
    (Builtin.append_ #[t, tx] ty #[.slice (some ⟨b, q, none⟩) n c, x]).run P w =
      .ok (.slice (some ⟨b, q, none⟩) (n + m) c) (w.setRow b (cur.toList.take (q + n * i.size) ++ news ++ cur.toList.drop (q + n * i.size + news.length)).toArray) := by
  have hst := run_storeCells_row (P := P) b (q + n * i.size) e' news 0 cur w hg (by simpa using hfit) hsr.one
  simp only [Nat.add_zero] at hst
  rcases hsr.kind with ⟨e', hk⟩ | hk <;> simp [Builtin.append_, run_underlying ht, run_underlying hk, sizeOf, typeInfo, hi, hsr.len, hroom, hsr.cells, add_at, hst]
theorem run_append_none (t ty e : TypeId) (i : TypeInfo) (ht : P.underlying t = some (.slice e)) (hi : P.info? e = some i) (w : World) (tx : TypeId) (x : Value) (hsr : Src P i.size tx x 0 [] w) :
    (Builtin.append_ #[t, tx] ty #[.slice none 0 0, x]).run P w = .ok (.slice none 0 0) w := by
  rcases hsr.kind with ⟨e', hk⟩ | hk <;> simp [Builtin.append_, run_underlying ht, run_underlying hk, sizeOf, typeInfo, hi, hsr.len, hsr.cells]
/-- What is appended: a list of elements, its cells, and whose they are. -/
structure SrcOk (P : Program) (w : World) (S F : Nat → Prop) (tx : TypeId) (own : Bool) (sz : Nat) (ys : List (List PV)) (x : Value) (news : List Value) (Ds : Nat → Nat → Nat → Prop) : Prop where
  val : Src P sz tx x ys.length news w
  len : news.length = ys.length * sz
  one : ∀ u ∈ news, u.oneCell' = true
  elz : ∀ el ∈ ys, el.length = sz
  at_ : ∀ i j p, at2 ys i j = some p → ∃ u, news[i * sz + j]? = some u ∧ ElOk w S (Ds i j) own p u
  inF : ∀ i j x, Ds i j x → F x
  dis : ∀ i j i' j' x, Ds i j x → Ds i' j' x → i = i' ∧ j = j'
theorem at2_app {xs ys : List (List PV)} {i j : Nat} {p : PV} (h : at2 (xs ++ ys) i j = some p) : (i < xs.length ∧ at2 xs i j = some p) ∨ (xs.length ≤ i ∧ at2 ys (i - xs.length) j = some p) := by
  unfold at2 at *
  rw [List.getElem?_append] at h
  split at h
  · rename_i h1; exact .inl ⟨h1, h⟩
  · rename_i h1; exact .inr ⟨by omega, h⟩
theorem at2_lt {xs : List (List PV)} {sz : Nat} (hz : ∀ el ∈ xs, el.length = sz) {i j : Nat} {p : PV} (h : at2 xs i j = some p) : i < xs.length ∧ j < sz := by
  unfold at2 at h
  cases hx : xs[i]? with
  | none => simp [hx] at h
  | some el =>
    have hl := hz el (List.mem_of_getElem? hx)
    simp [hx] at h
    exact ⟨(List.getElem?_eq_some_iff.1 hx).1, by rw [← hl]; exact (List.getElem?_eq_some_iff.1 h).1⟩
theorem pos_lt {n i j sz : Nat} (hi : i < n) (hj : j < sz) : i * sz + j < n * sz := by
  have h3 : i * sz + sz ≤ n * sz := by rw [← Nat.succ_mul]; exact Nat.mul_le_mul_right _ hi
  omega
theorem ElOk.weak {w : World} {S D : Nat → Prop} {own own' : Bool} {p : PV} {u : Value} (h : ElOk w S D own p u) (ho : own' = true → own = true) (hS : ∀ x, D x → S x) : ElOk w S D own' p u := by
  unfold ElOk at *
  cases own' with
  | true => rw [ho rfl] at h; exact h
  | false => cases own with
    | true => exact Own.rep h hS
    | false => exact h
/-- The row behind the append, given where its cells lie. -/
theorem row_appended {n : Nat} {w w' : World} {S S' D D' F : Nat → Prop} {own1 own own2 : Bool} {sz : Nat} {xs ys : List (List PV)} {b q c : Nat} {e : TypeId} {cs : Array Value} {us : Nat → Nat → Value} {Ds Ds2 : Nat → Nat → Nat → Prop} {x : Value} {news : List Value} {tx : TypeId}
    (hn : n = xs.length + ys.length) (hsrc : SrcOk P w S F tx own2 sz ys x news Ds2) (hz : ∀ el ∈ xs, el.length = sz)
    (hold : ∀ i j p, at2 xs i j = some p → ElOk w S (Ds i j) own1 p (us i j)) (hDs : ∀ i j x, Ds i j x → D x ∧ x ≠ b) (hdis : ∀ i j i' j' x, Ds i j x → Ds i' j' x → i = i' ∧ j = j') (hFD : ∀ x, F x → ¬ D x) (hFb : ∀ x, F x → x ≠ b)
    (hown1 : own = true → own1 = true) (hown2 : own = true → own2 = true)
    (hb : D' b) (hDD : ∀ x, D x → D' x) (hFD' : ∀ x, F x → D' x) (hh : CellsAt w' b cs e) (hsz : q + c * sz ≤ cs.size) (hc : (xs ++ ys).length ≤ c) (hm : c ≤ 9223372036854775807)
    (hcell1 : ∀ i j p, at2 xs i j = some p → cs[q + i * sz + j]? = some (us i j)) (hcell2 : ∀ (k : Nat) u, news[k]? = some u → cs[q + xs.length * sz + k]? = some u)
    (hDw : ∀ x, D x → x ≠ b → w'.heap[x]? = w.heap[x]?) (hFw : ∀ x, F x → w'.heap[x]? = w.heap[x]?) (hSw : ∀ x, S x → w'.heap[x]? = w.heap[x]?) (hSS : ∀ x, S x → S' x) (hDS : ∀ x, D x → x ≠ b → S' x) (hFS : ∀ x, F x → S' x) :
    RowOk w' S' D' own sz (xs ++ ys) (.slice (some ⟨b, q, none⟩) n c) := by
  rw [hn, ← List.length_append]
  refine .inr ⟨b, q, c, e, cs, fun i j => if i < xs.length then us i j else news.getD ((i - xs.length) * sz + j) undef, fun i j x => if i < xs.length then Ds i j x else Ds2 (i - xs.length) j x, rfl, hb, hh, hsz, hc, hm, ?_, ?_, ?_, ?_, ?_⟩
  · intro el hel
    rcases List.mem_append.1 hel with h | h
    · exact hz el h
    · exact hsrc.elz el h
  · intro i j p hp
    rcases at2_app hp with ⟨h1, h2⟩ | ⟨h1, h2⟩
    · show _ = some (if i < xs.length then _ else _)
      rw [if_pos h1]
      exact hcell1 i j p h2
    · show _ = some (if i < xs.length then _ else _)
      rw [if_neg (by omega)]
      obtain ⟨u, hu, _⟩ := hsrc.at_ _ _ p h2
      rw [List.getD_eq_getElem?_getD, hu]
      have := hcell2 _ u hu
      have e1 : i * sz = xs.length * sz + (i - xs.length) * sz := by rw [← Nat.add_mul]; congr 1; omega
      rw [e1]
      rw [show q + (xs.length * sz + (i - xs.length) * sz) + j = q + xs.length * sz + ((i - xs.length) * sz + j) by omega]
      exact this
  · intro i j x hx
    by_cases h1 : i < xs.length
    · simp only [if_pos h1] at hx
      exact ⟨hDD x (hDs i j x hx).1, (hDs i j x hx).2⟩
    · simp only [if_neg h1] at hx
      exact ⟨hFD' x (hsrc.inF _ _ x hx), hFb x (hsrc.inF _ _ x hx)⟩
  · intro i j i' j' x hx hx'
    by_cases h1 : i < xs.length <;> by_cases h2 : i' < xs.length
    · simp only [if_pos h1] at hx
      simp only [if_pos h2] at hx'
      exact hdis i j i' j' x hx hx'
    · simp only [if_pos h1] at hx
      simp only [if_neg h2] at hx'
      exact absurd (hDs i j x hx).1 (hFD x (hsrc.inF _ _ x hx'))
    · simp only [if_neg h1] at hx
      simp only [if_pos h2] at hx'
      exact absurd (hDs i' j' x hx').1 (hFD x (hsrc.inF _ _ x hx))
    · simp only [if_neg h1] at hx
      simp only [if_neg h2] at hx'
      have := hsrc.dis _ _ _ _ x hx hx'
      exact ⟨by omega, this.2⟩
  · intro i j p hp
    rcases at2_app hp with ⟨h1, h2⟩ | ⟨h1, h2⟩
    · simp only [if_pos h1]
      exact ((hold i j p h2).mono (S' := S') (D' := Ds i j) (fun x hx => hDw x (hDs i j x hx).1 (hDs i j x hx).2) (fun _ h => h) hSw hSS).weak hown1 fun x hx => hDS x (hDs i j x hx).1 (hDs i j x hx).2
    · simp only [if_neg (show ¬ i < xs.length by omega)]
      obtain ⟨u, hu, hel⟩ := hsrc.at_ _ _ p h2
      rw [List.getD_eq_getElem?_getD, hu]
      exact (hel.mono (S' := S') (D' := Ds2 (i - xs.length) j) (fun x hx => hFw x (hsrc.inF _ _ x hx)) (fun _ h => h) hSw hSS).weak hown2 fun x hx => hFS x (hsrc.inF _ _ x hx)
/-- A token for a value that has no memory. -/
theorem Models.name {w0 : Base} {w : World} {g : G} (h : Models dm w0 g res w) {t : Nat} (ht : ¬ g.U t) (v : Value) (r : ARes) (hok : TokOk (g.mk1 t v (fun _ => False) g.S) w t r) :
    Models dm w0 (g.mk1 t v (fun _ => False) g.S) (upd res t (some r)) w ∧ Evo g (g.mk1 t v (fun _ => False) g.S) w w := by
  have e : Evo g (g.mk1 t v (fun _ => False) g.S) w w := Evo.mk1 ht (fun _ h => h) fun _ _ => rfl
  have hDo : ∀ t', t' ≠ t → (g.mk1 t v (fun _ => False) g.S).D t' = g.D t' := fun t' hn => upd_ne _ _ hn
  have hDn : (g.mk1 t v (fun _ => False) g.S).D t = (fun _ => False) := upd_same _ _ _
  have hσo : ∀ t', t' ≠ t → (g.mk1 t v (fun _ => False) g.S).σ t' = g.σ t' := fun t' hn => upd_ne _ _ hn
  have key : ∀ t' r', upd res t (some r) t' = some r' → (t' = t ∧ r' = r) ∨ (t' ≠ t ∧ res t' = some r') := by
    intro t' r' h1
    rcases upd_cases h1 with ⟨e1, e2⟩ | h2
    · exact .inl ⟨e1, by cases e2; rfl⟩
    · exact .inr h2
  have off : ∀ t' x, (g.mk1 t v (fun _ => False) g.S).D t' x → t' ≠ t ∧ g.D t' x := by
    intro t' x hx
    by_cases hn : t' = t
    · subst hn; rw [hDn] at hx; exact hx.elim
    · rw [hDo t' hn] at hx; exact ⟨hn, hx⟩
  refine ⟨⟨h.below, h.sBase, h.sLt, ?_, ?_, ?_, ?_, ?_⟩, e⟩
  · intro t' r' hr
    rcases key t' r' hr with ⟨rfl, rfl⟩ | ⟨hn, hr⟩
    · exact ⟨.inr rfl, hok⟩
    · exact ⟨.inl (h.tok t' r' hr).1, (h.tok t' r' hr).2.evo e (h.tok t' r' hr).1 (hDo t' hn) fun _ _ => rfl⟩
  · intro t' r' x hr hx
    obtain ⟨hn, hx⟩ := off t' x hx
    rcases key t' r' hr with ⟨rfl, _⟩ | ⟨_, hr⟩
    · exact absurd rfl hn
    · exact h.dNew t' r' x hr hx
  · intro t1 t2 r1 r2 x h1 h2 hx1 hx2
    obtain ⟨hn1, hx1⟩ := off t1 x hx1
    obtain ⟨hn2, hx2⟩ := off t2 x hx2
    rcases key t1 r1 h1 with ⟨rfl, _⟩ | ⟨_, h1⟩
    · exact absurd rfl hn1
    · rcases key t2 r2 h2 with ⟨rfl, _⟩ | ⟨_, h2⟩
      · exact absurd rfl hn2
      · exact h.dApart t1 t2 r1 r2 x h1 h2 hx1 hx2
  · intro t' r' x hr hx hm
    obtain ⟨hn, hx⟩ := off t' x hx
    rcases key t' r' hr with ⟨rfl, _⟩ | ⟨_, hr⟩
    · exact absurd rfl hn
    · rw [hσo t' hn] at hm
      exact h.sMut t' r' x hr hx hm
  · intro hdm t' r' x hr hx hm
    obtain ⟨hn, hx⟩ := off t' x hx
    rcases key t' r' hr with ⟨rfl, _⟩ | ⟨_, hr⟩
    · exact absurd rfl hn
    · rw [hσo t' hn] at hm
      exact h.sFro hdm t' r' x hr hx hm
theorem getElem?_seg (l m r : List Value) (k : Nat) : ((l ++ m ++ r)[l.length + k]?) = if k < m.length then m[k]? else r[k - m.length]? := by
  rw [List.append_assoc, List.getElem?_append, if_neg (by omega), show l.length + k - l.length = k by omega, List.getElem?_append]
theorem mut_row {v : Value} {own : Bool} {sz : Nat} {xs : List (List PV)} {b q n c : Nat} (hv : v = .slice (some ⟨b, q, none⟩) n c) (x : Nat) : Mut false v (.row own sz xs) x ↔ x = b := by
  subst hv
  simp [Mut, Value.ownBlock]
  exact eq_comm
/-- append onto a row of the call's own. -/
theorem append_row {w0 : Base} {w : World} {g : G} {t e : TypeId} {te : TI} (hd : P.underlying t = some (.slice e)) (hte : TIOk P e te) (h0 : 1 ≤ te.sz) (ty : TypeId)
    (hM : Models false w0 g res w) {t1 : Nat} {own1 : Bool} {xs ys : List (List PV)} (hr1 : res t1 = some (.row own1 te.sz xs)) (hid : ¬ g.U id) {F : Nat → Prop} (hF : Free false w0 g (dropL res [t1]) w F) (hF1 : ∀ x, F x → ¬ g.D t1 x)
    {own own2 : Bool} (ho1 : own = true → own1 = true) (ho2 : own = true → own2 = true) {x : Value} {news : List Value} {Ds2 : Nat → Nat → Nat → Prop} {tx : TypeId} (hsrc : SrcOk P w g.S F tx own2 te.sz ys x news Ds2)
    (hby : (xs.length + ys.length) * te.bytes ≤ 140737488355328) (hb1 : 1 ≤ te.bytes) :
    ∃ v w' g', (Builtin.append_ #[t, tx] ty #[g.σ t1, x]).run P w = .ok v w' ∧ Models false w0 g' (upd (dropL res [t1]) id (some (.row own te.sz (xs ++ ys)))) w' ∧ Evo g g' w w' ∧ RepAV g' w' (.c (.row id)) v ∧ ∀ y, g'.U y → g.U y ∨ y = id := by
  obtain ⟨i, z, hi, hs, hb, hzz, hc⟩ := hte.info
  have hzsz : z.cells.size = te.sz := by have := congrArg List.length hc; simp at this; rw [this, hte.zl]
  have hlen : xs.length + ys.length ≤ 140737488355328 := Nat.le_trans (Nat.le_mul_of_pos_right _ hb1) hby
  have hrow : RowOk w g.S (g.D t1) own1 te.sz xs (g.σ t1) := (hM.tok t1 _ hr1).2
  have hsv := hsrc.val
  have hnl := hsrc.len
  -- a new block
  have fresh : ∀ (us : Nat → Nat → Value) (Ds : Nat → Nat → Nat → Prop) (olds : List Value) (c old : Nat), c < xs.length + ys.length → olds.length = xs.length * te.sz → (∀ el ∈ xs, el.length = te.sz) →
      (∀ i j p, at2 xs i j = some p → olds[i * te.sz + j]? = some (us i j)) → (∀ i j p, at2 xs i j = some p → ElOk w g.S (Ds i j) own1 p (us i j)) → (∀ i j x, Ds i j x → g.D t1 x) → (∀ i j i' j' x, Ds i j x → Ds i' j' x → i = i' ∧ j = j') →
      (Builtin.append_ #[t, tx] ty #[g.σ t1, x]).run P w = .ok (.slice (some ⟨w.heap.size, 0, none⟩) (xs.length + ys.length) (grownCap w (xs.length + ys.length) old e))
        (w.drew.alloc (.cells (olds.toArray ++ news.toArray ++ Builtin.zeroCells z.cells (grownCap w (xs.length + ys.length) old e - (xs.length + ys.length))) e)) →
      ∃ v w' g', (Builtin.append_ #[t, tx] ty #[g.σ t1, x]).run P w = .ok v w' ∧ Models false w0 g' (upd (dropL res [t1]) id (some (.row own te.sz (xs ++ ys)))) w' ∧ Evo g g' w w' ∧ RepAV g' w' (.c (.row id)) v ∧ ∀ y, g'.U y → g.U y ∨ y = id := by
    intro us Ds olds c old hgr hol hz hoc hoe hoD hodis hrun
    have hge := grownCap_ge w (xs.length + ys.length) old e
    have hle : grownCap w (xs.length + ys.length) old e ≤ maxLen := grownCap_le_maxLen w (xs.length + ys.length) old e (by simp only [maxLen]; omega)
    have hle' : grownCap w (xs.length + ys.length) old e ≤ 9223372036854775807 := by simp only [maxLen] at hle; omega
    generalize grownCap w (xs.length + ys.length) old e = cap at *
    have hDlt : ∀ x, g.D t1 x → x < w.heap.size := fun x hx => (hM.dNew t1 _ x hr1 hx).2
    have hFlt : ∀ x, F x → x < w.heap.size := fun x hx => (hF.new x hx).2
    have hsame : ∀ k, k < w.heap.size → (w.drew.alloc (.cells (olds.toArray ++ news.toArray ++ Builtin.zeroCells z.cells (cap - (xs.length + ys.length))) e)).heap[k]? = w.heap[k]? := fun k hk => heap_alloc_old w.drew _ k hk
    obtain ⟨hM', ev⟩ := hM.grow (t := id) (t1 := t1) (r := .row own te.sz (xs ++ ys)) hid hr1 hF hF1 (.slice (some ⟨w.heap.size, 0, none⟩) (xs.length + ys.length) cap) w.heap.size
      (w' := w.drew.alloc (.cells (olds.toArray ++ news.toArray ++ Builtin.zeroCells z.cells (cap - (xs.length + ys.length))) e)) (.inr ⟨Nat.le_refl _, by simp⟩) (by simp) (fun k hk _ => hsame k hk) rfl rfl rfl
      (fun x => mut_row rfl x) (fun ev => by
        show RowOk _ _ _ own te.sz (xs ++ ys) _
        rw [show (g.mk1 id (.slice (some ⟨w.heap.size, 0, none⟩) (xs.length + ys.length) cap) (fun x => x = w.heap.size ∨ g.D t1 x ∨ F x) (fun x => g.S x ∨ (g.D t1 x ∧ x ≠ w.heap.size))).D id = (fun x => x = w.heap.size ∨ g.D t1 x ∨ F x) from upd_same _ _ _]
        rw [show (g.mk1 id (.slice (some ⟨w.heap.size, 0, none⟩) (xs.length + ys.length) cap) (fun x => x = w.heap.size ∨ g.D t1 x ∨ F x) (fun x => g.S x ∨ (g.D t1 x ∧ x ≠ w.heap.size))).σ id = .slice (some ⟨w.heap.size, 0, none⟩) (xs.length + ys.length) cap from upd_same _ _ _]
        refine row_appended (P := P) (F := F) (D := g.D t1) (S := g.S) rfl hsrc hz hoe (fun i j x hx => ⟨hoD i j x hx, by have := hDlt x (hoD i j x hx); omega⟩) hodis hF1 (fun x hx => by have := hFlt x hx; omega) ho1 ho2 (.inl rfl) (fun x hx => .inr (.inl hx)) (fun x hx => .inr (.inr hx))
          (.of (heap_alloc_new w.drew _)) ?_ (by simp; omega) hle' ?_ ?_ (fun x hx _ => hsame x (hDlt x hx)) (fun x hx => hsame x (hFlt x hx)) (fun x hx => hsame x (hM.sLt x hx)) (fun x hx => .inl hx) (fun x hx hn => .inr ⟨hx, hn⟩) (fun x hx => .inl (hF.fro rfl x hx))
        · simp only [Array.size_append, List.size_toArray, size_zeroCells, hzsz, hol, hnl, ← Nat.add_mul, Nat.zero_add]
          exact Nat.mul_le_mul_right _ (by omega)
        · intro i j p hp
          have h1 := hoc i j p hp
          have h2 := pos_lt (at2_lt hz hp).1 (at2_lt hz hp).2
          rw [Nat.zero_add, Array.getElem?_append, if_pos (by simp [hol, hnl]; omega), Array.getElem?_append, if_pos (by simp [hol]; omega)]
          simpa using h1
        · intro k u hu
          have hk := (List.getElem?_eq_some_iff.1 hu).1
          rw [Nat.zero_add, Array.getElem?_append, if_pos (by simp [hol]; omega), Array.getElem?_append, if_neg (by simp [hol])]
          simp [hol, hu])
    refine ⟨_, _, _, hrun, hM', ev, ⟨.inr rfl, (upd_same _ _ _).symm, rfl⟩, fun y hy => hy⟩
  rcases hrow with ⟨rfl, hv⟩ | ⟨b, q, c, e', cs, us, Ds, hv, hg, hh, hsz, hcc, hm, hz, ha, hDs, hdis, hr⟩
  · rcases Nat.eq_zero_or_pos ys.length with hy0 | hy0
    · have hyn : ys = [] := List.eq_nil_of_length_eq_zero hy0
      subst hyn
      have hnn : news = [] := List.eq_nil_of_length_eq_zero (by rw [hnl]; simp)
      have hrun := run_append_none (P := P) t ty e i hd hi w tx x (by rw [hs, ← hnn]; exact hsv)
      obtain ⟨hM1, e1, _⟩ := hM.drop [t1]
      obtain ⟨hM2, e2⟩ := hM1.name (t := id) hid (.slice none 0 0) (.row own te.sz []) (by
        show RowOk _ _ _ own te.sz [] _
        exact .inl ⟨rfl, upd_same _ _ _⟩)
      exact ⟨_, _, _, by rw [hv]; exact hrun, by simpa using hM2, e1.trans e2, ⟨.inr rfl, (upd_same _ _ _).symm, rfl⟩, fun y hy => hy⟩
    · have hrun := run_append_grow_src (P := P) w t tx ty e i z hd hi hzz none 0 0 [] (by simp [Builtin.firstCells]) x ys.length news (by rw [hs]; exact hsv) (by omega) (by omega) (growslice_fits (by omega) (by rw [hb]; simpa using hby))
      refine fresh (fun _ _ => undef) (fun _ _ _ => False) [] 0 0 (by simp; omega) (by simp) (by simp) (by simp [at2]) (by simp [at2]) (fun _ _ _ h => h.elim) (fun _ _ _ _ _ h => h.elim) ?_
      rw [hv]
      simpa using hrun
  · have hcells : ∀ (j : Nat) u, (cs.toList.drop q |>.take (xs.length * te.sz))[j]? = some u → w.cell? ((⟨b, q, none⟩ : Addr).add j) = some u := by
      intro j u hu
      rw [List.getElem?_take] at hu
      split at hu
      · rw [List.getElem?_drop] at hu
        rw [add_at, CellsAt.cell hh]
        simpa using hu
      · cases hu
    have hxc : xs.length * te.sz ≤ c * te.sz := Nat.mul_le_mul_right _ hcc
    by_cases hroom : xs.length + ys.length ≤ c
    · -- in place
      have hfit : q + xs.length * te.sz + news.length ≤ cs.size := by
        have := Nat.mul_le_mul_right te.sz hroom
        rw [Nat.add_mul] at this
        omega
      have hrun := run_append_at (P := P) t ty e i hd hi w b q xs.length c cs e' hh tx x ys.length news (by rw [hs]; exact hsv) hroom (by rw [hs]; exact hfit)
      rw [hs] at hrun
      have hnb : ∀ x, F x → x ≠ b := fun x hx he => hF1 x hx (he ▸ hg)
      obtain ⟨hM', ev⟩ := hM.grow (t := id) (t1 := t1) (r := .row own te.sz (xs ++ ys)) hid hr1 hF hF1 (.slice (some ⟨b, q, none⟩) (xs.length + ys.length) c) b
        (w' := w.setRow b (cs.toList.take (q + xs.length * te.sz) ++ news ++ cs.toList.drop (q + xs.length * te.sz + news.length)).toArray) (.inl ⟨hg, (mut_row hv b).2 rfl⟩) (by rw [setRow_size]; exact Nat.le_refl _) (fun k hk hn => setRow_other w b k _ hn) rfl rfl rfl
        (fun x => mut_row rfl x) (fun ev => by
          show RowOk _ _ _ own te.sz (xs ++ ys) _
          rw [show (g.mk1 id (.slice (some ⟨b, q, none⟩) (xs.length + ys.length) c) (fun x => x = b ∨ g.D t1 x ∨ F x) (fun x => g.S x ∨ (g.D t1 x ∧ x ≠ b))).D id = (fun x => x = b ∨ g.D t1 x ∨ F x) from upd_same _ _ _]
          rw [show (g.mk1 id (.slice (some ⟨b, q, none⟩) (xs.length + ys.length) c) (fun x => x = b ∨ g.D t1 x ∨ F x) (fun x => g.S x ∨ (g.D t1 x ∧ x ≠ b))).σ id = .slice (some ⟨b, q, none⟩) (xs.length + ys.length) c from upd_same _ _ _]
          have hnS : ¬ g.S b := hM.sMut t1 _ b hr1 hg ((mut_row hv b).2 rfl)
          refine row_appended (P := P) (F := F) (D := g.D t1) (S := g.S) rfl hsrc hz hr hDs hdis hF1 hnb ho1 ho2 (.inl rfl) (fun x hx => .inr (.inl hx)) (fun x hx => .inr (.inr hx))
            (hh.set (by simp; omega)) ?_ (by simp; omega) hm ?_ ?_ (fun x hx hn => setRow_other w b x _ hn) (fun x hx => setRow_other w b x _ (hnb x hx)) (fun x hx => setRow_other w b x _ (fun he => hnS (he ▸ hx))) (fun x hx => .inl hx) (fun x hx hn => .inr ⟨hx, hn⟩) (fun x hx => .inl (hF.fro rfl x hx))
          · simp
            omega
          · intro i j p hp
            have h1 := ha i j p hp
            have h2 := pos_lt (at2_lt hz hp).1 (at2_lt hz hp).2
            simp only [List.getElem?_toArray, List.append_assoc]
            rw [List.getElem?_append, if_pos (by simp; omega), List.getElem?_take, if_pos (by omega)]
            simpa using h1
          · intro k u hu
            have hk := (List.getElem?_eq_some_iff.1 hu).1
            simp only [List.getElem?_toArray]
            have := getElem?_seg (cs.toList.take (q + xs.length * te.sz)) news (cs.toList.drop (q + xs.length * te.sz + news.length)) k
            have hlt : (cs.toList.take (q + xs.length * te.sz)).length = q + xs.length * te.sz := by simp; omega
            rw [if_pos hk, hlt] at this
            rw [this]
            exact hu)
      exact ⟨_, _, _, by rw [hv]; exact hrun, hM', ev, ⟨.inr rfl, (upd_same _ _ _).symm, rfl⟩, fun y hy => hy⟩
    · have hy0 : 0 < ys.length := by omega
      have hol : (cs.toList.drop q |>.take (xs.length * te.sz)).length = xs.length * te.sz := by simp; omega
      have hrun := run_append_grow_src (P := P) w t tx ty e i z hd hi hzz (some ⟨b, q, none⟩) xs.length c (cs.toList.drop q |>.take (xs.length * te.sz)) (run_firstCells_some (P := P) w.drew i.size xs.length ⟨b, q, none⟩ xs.length c _ (by rw [hs]; exact hol) (by simpa using hcells)) x ys.length news (by rw [hs]; exact hsv) (by omega) (by omega)
        (growslice_fits (by omega) (by rw [hb]; exact hby))
      refine fresh us Ds (cs.toList.drop q |>.take (xs.length * te.sz)) c c (by omega) hol hz ?_ hr (fun i j x hx => (hDs i j x hx).1) hdis ?_
      · intro i j p hp
        have h1 := ha i j p hp
        have h2 := pos_lt (at2_lt hz hp).1 (at2_lt hz hp).2
        rw [List.getElem?_take, if_pos h2, List.getElem?_drop]
        rw [← Nat.add_assoc]
        simpa using h1
      · rw [hv]
        rw [← List.append_toArray] at hrun
        exact hrun
end
end Go.Vi
