/- What becomes of a run's tokens when memory is made, written, or handed on. No program in sight. -/
import Derived.Test.YtnpcgheojijpjaaViA
set_option linter.unusedVariables false
set_option linter.unusedSimpArgs false
namespace Go.Vi
open Go.RowKit
section
variable {dm : Bool} {w0 : Base} {w w' : World} {g g' : G} {res : Nat → Option ARes}

theorem TokOk.evo {t : Nat} {r : ARes} (h : TokOk g w t r) (e : Evo g g' w w') (hu : g.U t) (hD : g'.D t = g.D t) (hw : ∀ x, g.D t x → w'.heap[x]? = w.heap[x]?) : TokOk g' w' t r := by
  cases r with
  | box cs =>
    obtain ⟨b, ty, vs, hv, hb, hh, hr⟩ := h
    exact ⟨b, ty, vs, (e.σ t hu).trans hv, hD ▸ hb, (hw b hb).trans hh, hr.evo e⟩
  | row own sz xs =>
    show RowOk w' g'.S (g'.D t) own sz xs (g'.σ t)
    rw [hD, e.σ t hu]
    exact RowOk.mono h hw (fun _ h => h) e.heap e.s
  | ro sz xs =>
    show Rep w' g'.S (.sl sz xs) (g'.σ t)
    rw [e.σ t hu]
    exact Rep.mono h e.heap e.s
  | fro sz xs =>
    show RowOk w' g'.S (g'.D t) true sz xs (g'.σ t)
    rw [hD, e.σ t hu]
    exact RowOk.mono h hw (fun _ h => h) e.heap e.s
  | tl sz t2 =>
    obtain ⟨h1, A, n, c, h2, h3, h4⟩ := h
    exact ⟨e.u t2 h1, A, n, c, (e.σ t hu).trans h2, h3, (e.σ t2 h1).trans h4⟩
  | opn sz cs =>
    obtain ⟨b, q, c, us, h1, h2, h3, h4, h5⟩ := h
    exact ⟨b, q, c, us, (e.σ t hu).trans h1, e.s b h2, h3, h4.evo e, fun j u hj => (cell_same (e.heap b h2)).trans (h5 j u hj)⟩
  | raw sz xs =>
    show RowOk w' g'.S (g'.D t) true sz xs (g'.σ t)
    rw [hD, e.σ t hu]
    exact RowOk.mono h hw (fun _ h => h) e.heap e.s
  | hol sz i xs cs =>
    show HolOk g' w' (g'.D t) sz i xs cs (g'.σ t)
    rw [hD, e.σ t hu]
    exact HolOk.mono h hw rfl fun j a u hj hr => (hr a hj).evo e
  | gho xs xo =>
    show GhoOk w' (g'.D t) xs xo
    rw [hD]
    exact GhoOk.mono h hw
  | env l =>
    intro k v hk
    rw [e.fr]
    exact RepAV.evo (h k v hk) e
theorem Evo.below {B : Nat} (hh : w'.heap = w.heap) : Evo g g w w' := ⟨fun _ h => h, fun _ _ => rfl, fun _ h => h, fun x _ => by rw [hh], rfl⟩
theorem Models.draw (h : Models dm w0 g res w) (hh : w'.heap = w.heap) (ho : w'.os = w.os) (ht : w'.tape = w.tape) (hp : w'.output = w.output) : Models dm w0 g res w' ∧ Evo g g w w' := by
  have e : Evo g g w w' := ⟨fun _ h => h, fun _ _ => rfl, fun _ h => h, fun x _ => by rw [hh], rfl⟩
  exact ⟨⟨h.below.to ho ht hp (by rw [hh]; exact Nat.le_refl _) (fun k _ _ => by rw [hh]), h.sBase, fun x hx => by rw [hh]; exact h.sLt x hx,
    fun t r hr => ⟨(h.tok t r hr).1, (h.tok t r hr).2.evo e (h.tok t r hr).1 rfl (fun x _ => by rw [hh])⟩, fun t r x hr hx => by rw [hh]; exact h.dNew t r x hr hx, h.dApart, h.sMut, h.sFro⟩, e⟩
/-- Memory that is free to become a part of something: no token's. -/
structure Free (dm : Bool) (w0 : Base) (g : G) (res : Nat → Option ARes) (w : World) (F : Nat → Prop) : Prop where
  new : ∀ x, F x → (w0.E x ∨ w0.heap.size ≤ x) ∧ x < w.heap.size
  fro : dm = false → ∀ x, F x → g.S x
  off : ∀ x t r, F x → res t = some r → ¬ g.D t x
theorem Free.none : Free dm w0 g res w (fun _ => False) := ⟨fun _ h => h.elim, fun _ _ h => h.elim, fun _ _ _ h => h.elim⟩
def G.mk1 (g : G) (t : Nat) (v : Value) (D S : Nat → Prop) : G := ⟨upd g.σ t v, upd g.D t D, S, fun x => g.U x ∨ x = t, g.fr⟩
theorem Evo.mk1 {t : Nat} {v : Value} {D S : Nat → Prop} (ht : ¬ g.U t) (hS : ∀ x, g.S x → S x) (hw : ∀ x, g.S x → w'.heap[x]? = w.heap[x]?) : Evo g (g.mk1 t v D S) w w' :=
  ⟨fun _ h => .inl h, fun x hx => upd_ne _ _ (fun e => ht (e ▸ hx)), hS, hw, rfl⟩
/-- A new block, a new token. -/
theorem Models.alloc (h : Models dm w0 g res w) {t : Nat} (ht : ¬ g.U t) (o : Obj) (v : Value) (r : ARes) {F : Nat → Prop} (hF : Free dm w0 g res w F)
    (hM : Mut dm v r w.heap.size) (hFM : ∀ x, F x → ¬ Mut dm v r x)
    (hok : Evo g (g.mk1 t v (fun x => x = w.heap.size ∨ F x) g.S) w (w.alloc o) → TokOk (g.mk1 t v (fun x => x = w.heap.size ∨ F x) g.S) (w.alloc o) t r) :
    Models dm w0 (g.mk1 t v (fun x => x = w.heap.size ∨ F x) g.S) (upd res t (some r)) (w.alloc o) ∧ Evo g (g.mk1 t v (fun x => x = w.heap.size ∨ F x) g.S) w (w.alloc o) := by
  have hs : (w.alloc o).heap.size = w.heap.size + 1 := by show (w.heap.push o).size = _; simp
  have hold : ∀ x, x < w.heap.size → (w.alloc o).heap[x]? = w.heap[x]? := fun x hx => Below.heap_alloc w o x hx
  have e : Evo g (g.mk1 t v (fun x => x = w.heap.size ∨ F x) g.S) w (w.alloc o) := Evo.mk1 ht (fun _ h => h) fun x hx => hold x (h.sLt x hx)
  have hne : ∀ t' r', res t' = some r' → t' ≠ t := fun t' r' hr he => ht (he ▸ (h.tok t' r' hr).1)
  have hDo : ∀ t', t' ≠ t → (g.mk1 t v (fun x => x = w.heap.size ∨ F x) g.S).D t' = g.D t' := fun t' hn => upd_ne _ _ hn
  have hDn : (g.mk1 t v (fun x => x = w.heap.size ∨ F x) g.S).D t = (fun x => x = w.heap.size ∨ F x) := upd_same _ _ _
  have hσo : ∀ t', t' ≠ t → (g.mk1 t v (fun x => x = w.heap.size ∨ F x) g.S).σ t' = g.σ t' := fun t' hn => upd_ne _ _ hn
  have hσn : (g.mk1 t v (fun x => x = w.heap.size ∨ F x) g.S).σ t = v := upd_same _ _ _
  refine ⟨⟨h.below.to rfl rfl rfl (by rw [hs]; omega) (fun k hk _ => hold k (by have := h.below.size; omega)), h.sBase, fun x hx => by rw [hs]; have := h.sLt x hx; omega, ?_, ?_, ?_, ?_, ?_⟩, e⟩
  · intro t' r' hr
    rcases upd_cases hr with ⟨rfl, hr2⟩ | ⟨hn, hr2⟩ <;> (clear hr; have hr := hr2; clear hr2)
    · cases hr
      exact ⟨.inr rfl, hok e⟩
    · exact ⟨.inl (h.tok t' r' hr).1, (h.tok t' r' hr).2.evo e (h.tok t' r' hr).1 (hDo t' hn) fun x hx => hold x (h.dNew t' r' x hr hx).2⟩
  · intro t' r' x hr hx
    rw [hs]
    rcases upd_cases hr with ⟨rfl, hr2⟩ | ⟨hn, hr2⟩ <;> (clear hr; have hr := hr2; clear hr2)
    · rw [hDn] at hx
      rcases hx with rfl | hx
      · have := h.below.size; exact ⟨.inr this, by omega⟩
      · have := hF.new x hx; exact ⟨this.1, by omega⟩
    · rw [hDo t' hn] at hx
      have := h.dNew t' r' x hr hx
      exact ⟨this.1, by omega⟩
  · intro t1 t2 r1 r2 x hr1 hr2 hx1 hx2
    rcases upd_cases hr1 with ⟨e1, k1⟩ | ⟨hn1, k1⟩ <;> rcases upd_cases hr2 with ⟨e2, k2⟩ | ⟨hn2, k2⟩ <;> clear hr1 hr2 <;> have hr1 := k1 <;> have hr2 := k2 <;> clear k1 k2 <;> (try subst e1) <;> (try subst e2)
    · rfl
    · rw [hDn] at hx1
      rw [hDo t2 hn2] at hx2
      rcases hx1 with rfl | hx1
      · have := h.dNew t2 r2 _ hr2 hx2; omega
      · exact absurd hx2 (hF.off x t2 r2 hx1 hr2)
    · rw [hDn] at hx2
      rw [hDo t1 hn1] at hx1
      rcases hx2 with rfl | hx2
      · have := h.dNew t1 r1 _ hr1 hx1; omega
      · exact absurd hx1 (hF.off x t1 r1 hx2 hr1)
    · rw [hDo t1 hn1] at hx1
      rw [hDo t2 hn2] at hx2
      exact h.dApart t1 t2 r1 r2 x hr1 hr2 hx1 hx2
  · intro t' r' x hr hx hm
    rcases upd_cases hr with ⟨rfl, hr2⟩ | ⟨hn, hr2⟩ <;> (clear hr; have hr := hr2; clear hr2)
    · cases hr
      rw [hDn] at hx
      rw [hσn] at hm
      rcases hx with rfl | hx
      · intro hS
        have := h.sLt _ hS
        omega
      · exact absurd hm (hFM x hx)
    · rw [hDo t' hn] at hx
      rw [hσo t' hn] at hm
      exact h.sMut t' r' x hr hx hm
  · intro hdm t' r' x hr hx hm
    rcases upd_cases hr with ⟨rfl, hr2⟩ | ⟨hn, hr2⟩ <;> (clear hr; have hr := hr2; clear hr2)
    · cases hr
      rw [hDn] at hx
      rw [hσn] at hm
      rcases hx with rfl | hx
      · rw [hdm] at hM
        exact absurd hM hm
      · exact hF.fro hdm x hx
    · rw [hDo t' hn] at hx
      rw [hσo t' hn] at hm
      exact h.sFro hdm t' r' x hr hx hm
/-- A store into a token's own block. -/
theorem Models.set (h : Models dm w0 g res w) {t : Nat} {r r' : ARes} (hr : res t = some r) {b : Nat} (hb : g.D t b) (hm : Mut dm (g.σ t) r b)
    (hw : ∀ x, x ≠ b → w'.heap[x]? = w.heap[x]?) (hsz : w'.heap.size = w.heap.size) (ho : w'.os = w.os) (htp : w'.tape = w.tape) (hp : w'.output = w.output)
    (hMut : ∀ x, Mut dm (g.σ t) r' x ↔ Mut dm (g.σ t) r x) (hMut0 : ∀ x, Mut false (g.σ t) r' x ↔ Mut false (g.σ t) r x) (hok : Evo g g w w' → TokOk g w' t r') : Models dm w0 g (upd res t (some r')) w' ∧ Evo g g w w' := by
  have hbn := h.dNew t r b hr hb
  have e : Evo g g w w' := ⟨fun _ h => h, fun _ _ => rfl, fun _ h => h, fun x hx => hw x (fun he => h.sMut t r b hr hb hm (he ▸ hx)), rfl⟩
  have key : ∀ t' r1, upd res t (some r') t' = some r1 → ∃ r2, res t' = some r2 ∧ (∀ x, Mut dm (g.σ t') r1 x ↔ Mut dm (g.σ t') r2 x) ∧ (∀ x, Mut false (g.σ t') r1 x ↔ Mut false (g.σ t') r2 x) := by
    intro t' r1 h1
    rcases upd_cases h1 with ⟨rfl, h12⟩ | ⟨hn, h12⟩ <;> (clear h1; have h1 := h12; clear h12)
    · cases h1
      exact ⟨r, hr, hMut, hMut0⟩
    · exact ⟨r1, h1, fun _ => Iff.rfl, fun _ => Iff.rfl⟩
  refine ⟨⟨h.below.to ho htp hp (by rw [hsz]; exact Nat.le_refl _) (fun k hk hE => hw k (fun he => by subst he; rcases hbn.1 with h1 | h1; exact hE h1; omega)), h.sBase, fun x hx => by rw [hsz]; exact h.sLt x hx, ?_, ?_, ?_, ?_, ?_⟩, e⟩
  · intro t' r1 h1
    rcases upd_cases h1 with ⟨rfl, h12⟩ | ⟨hn, h12⟩ <;> (clear h1; have h1 := h12; clear h12)
    · cases h1
      exact ⟨(h.tok t' r hr).1, hok e⟩
    · exact ⟨(h.tok t' r1 h1).1, (h.tok t' r1 h1).2.evo e (h.tok t' r1 h1).1 rfl fun x hx => hw x fun he => hn (h.dApart t' t r1 r x h1 hr hx (he ▸ hb))⟩
  · intro t' r1 x h1 hx
    obtain ⟨r2, h2, _⟩ := key t' r1 h1
    rw [hsz]
    exact h.dNew t' r2 x h2 hx
  · intro t1 t2 r1 r2 x h1 h2 hx1 hx2
    obtain ⟨q1, k1, _⟩ := key t1 r1 h1
    obtain ⟨q2, k2, _⟩ := key t2 r2 h2
    exact h.dApart t1 t2 q1 q2 x k1 k2 hx1 hx2
  · intro t' r1 x h1 hx hm
    obtain ⟨r2, h2, hi, _⟩ := key t' r1 h1
    exact h.sMut t' r2 x h2 hx ((hi x).1 hm)
  · intro hdm t' r1 x h1 hx hm
    obtain ⟨r2, h2, _, hi⟩ := key t' r1 h1
    exact h.sFro hdm t' r2 x h2 hx (fun hq => hm ((hi x).2 hq))
/-- Tokens given up: their memory is free. -/
def dropL (res : Nat → Option ARes) : List Nat → Nat → Option ARes
  | [] => res
  | t :: l => upd (dropL res l) t none
theorem dropL_some {toks : List Nat} {t : Nat} {r : ARes} (h : dropL res toks t = some r) : t ∉ toks ∧ res t = some r := by
  induction toks with
  | nil => exact ⟨by simp, h⟩
  | cons a l ih =>
    rcases upd_cases h with ⟨_, h⟩ | ⟨hn, h⟩
    · cases h
    · obtain ⟨h1, h2⟩ := ih h
      exact ⟨by simp [hn, h1], h2⟩
def G.free (g : G) (res : Nat → Option ARes) (toks : List Nat) : Nat → Prop := fun x => ∃ t r, t ∈ toks ∧ res t = some r ∧ g.D t x
def G.drop (g : G) (res : Nat → Option ARes) (toks : List Nat) : G := { g with S := fun x => g.S x ∨ g.free res toks x }
theorem Models.drop (h : Models false w0 g res w) (toks : List Nat) :
    Models false w0 (g.drop res toks) (dropL res toks) w ∧ Evo g (g.drop res toks) w w ∧ Free false w0 (g.drop res toks) (dropL res toks) w (g.free res toks) := by
  have e : Evo g (g.drop res toks) w w := ⟨fun _ h => h, fun _ _ => rfl, fun _ h => .inl h, fun _ _ => rfl, rfl⟩
  refine ⟨⟨h.below, fun x hx hE => .inl (h.sBase x hx hE), ?_, ?_, ?_, ?_, ?_, ?_⟩, e, ⟨?_, fun _ x hx => .inr hx, ?_⟩⟩
  · rintro x (hx | ⟨t, r, _, hr, hx⟩)
    · exact h.sLt x hx
    · exact (h.dNew t r x hr hx).2
  · intro t r hr
    have hr' := (dropL_some hr).2
    exact ⟨(h.tok t r hr').1, (h.tok t r hr').2.evo e (h.tok t r hr').1 rfl fun _ _ => rfl⟩
  · intro t r x hr hx
    exact h.dNew t r x (dropL_some hr).2 hx
  · intro t1 t2 r1 r2 x h1 h2 hx1 hx2
    exact h.dApart t1 t2 r1 r2 x (dropL_some h1).2 (dropL_some h2).2 hx1 hx2
  · rintro t r x hr hx hm (hS | ⟨t', r', ht', hr', hx'⟩)
    · exact h.sMut t r x (dropL_some hr).2 hx hm hS
    · have := h.dApart t t' r r' x (dropL_some hr).2 hr' hx hx'
      subst this
      exact (dropL_some hr).1 ht'
  · intro hdm t r x hr hx hm
    exact .inl (h.sFro hdm t r x (dropL_some hr).2 hx hm)
  · rintro x ⟨t, r, _, hr, hx⟩
    exact h.dNew t r x hr hx
  · rintro x t r ⟨t', r', ht', hr', hx'⟩ hr hx
    have := h.dApart t t' r r' x (dropL_some hr).2 hr' hx hx'
    subst this
    exact (dropL_some hr).1 ht'
/-- A row that is written no more: it may be read from now on. -/
theorem Models.freeze (h : Models false w0 g res w) {t : Nat} {own : Bool} {sz : Nat} {xs : List (List PV)} (hr : res t = some (.row own sz xs)) :
    Models false w0 (g.drop res [t]) (upd res t (some (.ro sz xs))) w ∧ Evo g (g.drop res [t]) w w := by
  have e : Evo g (g.drop res [t]) w w := ⟨fun _ h => h, fun _ _ => rfl, fun _ h => .inl h, fun _ _ => rfl, rfl⟩
  have key : ∀ t' r1, upd res t (some (.ro sz xs)) t' = some r1 → (t' = t ∧ r1 = .ro sz xs) ∨ (t' ≠ t ∧ res t' = some r1) := by
    intro t' r1 h1
    rcases upd_cases h1 with ⟨rfl, h12⟩ | ⟨hn, h12⟩ <;> (clear h1; have h1 := h12; clear h12)
    · cases h1
      exact .inl ⟨rfl, rfl⟩
    · exact .inr ⟨hn, h1⟩
  have some_ : ∀ t' r1, upd res t (some (.ro sz xs)) t' = some r1 → ∃ r2, res t' = some r2 := by
    intro t' r1 h1
    rcases key t' r1 h1 with ⟨rfl, rfl⟩ | ⟨_, h12⟩ <;> (try (clear h1; have h1 := h12; clear h12))
    · exact ⟨_, hr⟩
    · exact ⟨_, h1⟩
  have hfree : ∀ x, g.D t x → g.free res [t] x := fun x hx => ⟨t, _, by simp, hr, hx⟩
  refine ⟨⟨h.below, fun x hx hE => .inl (h.sBase x hx hE), ?_, ?_, ?_, ?_, ?_, ?_⟩, e⟩
  · rintro x (hx | ⟨t', r, _, hr', hx⟩)
    · exact h.sLt x hx
    · exact (h.dNew t' r x hr' hx).2
  · intro t' r1 h1
    rcases key t' r1 h1 with ⟨rfl, rfl⟩ | ⟨hn, h12⟩ <;> (try (clear h1; have h1 := h12; clear h12))
    · refine ⟨(h.tok t' _ hr).1, ?_⟩
      have h2 : RowOk w g.S (g.D t') own sz xs (g.σ t') := (h.tok t' _ hr).2
      exact h2.rep (fun x hx => .inr (hfree x hx)) (fun x hx => .inl hx)
    · exact ⟨(h.tok t' r1 h1).1, (h.tok t' r1 h1).2.evo e (h.tok t' r1 h1).1 rfl fun _ _ => rfl⟩
  · intro t' r1 x h1 hx
    obtain ⟨r2, h2⟩ := some_ t' r1 h1
    exact h.dNew t' r2 x h2 hx
  · intro t1 t2 r1 r2 x h1 h2 hx1 hx2
    obtain ⟨q1, k1⟩ := some_ t1 r1 h1
    obtain ⟨q2, k2⟩ := some_ t2 r2 h2
    exact h.dApart t1 t2 q1 q2 x k1 k2 hx1 hx2
  · intro t' r1 x h1 hx hm
    rcases key t' r1 h1 with ⟨rfl, rfl⟩ | ⟨hn, h12⟩ <;> (try (clear h1; have h1 := h12; clear h12))
    · exact hm.elim
    · rintro (hS | ⟨t2, r2, ht2, hr2, hx2⟩)
      · exact h.sMut t' r1 x h1 hx hm hS
      · simp at ht2
        subst ht2
        exact hn (h.dApart t' t2 r1 r2 x h1 hr2 hx hx2)
  · intro hdm t' r1 x h1 hx hm
    rcases key t' r1 h1 with ⟨rfl, rfl⟩ | ⟨hn, h12⟩ <;> (try (clear h1; have h1 := h12; clear h12))
    · exact .inr (hfree x hx)
    · exact .inl (h.sFro hdm t' r1 x h1 hx hm)
/-- A row that was appended to: a token in the old one's place; 'top': the block in which it lies now. -/
theorem Models.grow (h : Models false w0 g res w) {t t1 : Nat} {r1 r : ARes} (ht : ¬ g.U t) (hr1 : res t1 = some r1) {F : Nat → Prop} (hF : Free false w0 g (dropL res [t1]) w F) (hF1 : ∀ x, F x → ¬ g.D t1 x) (v : Value) (top : Nat)
    (htop : g.D t1 top ∧ Mut false (g.σ t1) r1 top ∨ w.heap.size ≤ top ∧ top < w'.heap.size) (hsz : w.heap.size ≤ w'.heap.size) (hw : ∀ x, x < w.heap.size → x ≠ top → w'.heap[x]? = w.heap[x]?)
    (ho : w'.os = w.os) (htp : w'.tape = w.tape) (hp : w'.output = w.output) (hMut : ∀ x, Mut false v r x ↔ x = top)
    (hok : Evo g (g.mk1 t v (fun x => x = top ∨ g.D t1 x ∨ F x) (fun x => g.S x ∨ (g.D t1 x ∧ x ≠ top))) w w' → TokOk (g.mk1 t v (fun x => x = top ∨ g.D t1 x ∨ F x) (fun x => g.S x ∨ (g.D t1 x ∧ x ≠ top))) w' t r) :
    Models false w0 (g.mk1 t v (fun x => x = top ∨ g.D t1 x ∨ F x) (fun x => g.S x ∨ (g.D t1 x ∧ x ≠ top))) (upd (dropL res [t1]) t (some r)) w' ∧
      Evo g (g.mk1 t v (fun x => x = top ∨ g.D t1 x ∨ F x) (fun x => g.S x ∨ (g.D t1 x ∧ x ≠ top))) w w' := by
  have hnS : ¬ g.S top := by
    rcases htop with ⟨h1, h2⟩ | ⟨h1, _⟩
    · exact h.sMut t1 r1 top hr1 h1 h2
    · intro hS
      have := h.sLt _ hS
      omega
  have e : Evo g (g.mk1 t v (fun x => x = top ∨ g.D t1 x ∨ F x) (fun x => g.S x ∨ (g.D t1 x ∧ x ≠ top))) w w' := Evo.mk1 ht (fun _ h => .inl h) fun x hx => hw x (h.sLt x hx) fun e => hnS (e ▸ hx)
  have hDo : ∀ t', t' ≠ t → (g.mk1 t v (fun x => x = top ∨ g.D t1 x ∨ F x) (fun x => g.S x ∨ (g.D t1 x ∧ x ≠ top))).D t' = g.D t' := fun t' hn => upd_ne _ _ hn
  have hDn : (g.mk1 t v (fun x => x = top ∨ g.D t1 x ∨ F x) (fun x => g.S x ∨ (g.D t1 x ∧ x ≠ top))).D t = (fun x => x = top ∨ g.D t1 x ∨ F x) := upd_same _ _ _
  have hσo : ∀ t', t' ≠ t → (g.mk1 t v (fun x => x = top ∨ g.D t1 x ∨ F x) (fun x => g.S x ∨ (g.D t1 x ∧ x ≠ top))).σ t' = g.σ t' := fun t' hn => upd_ne _ _ hn
  have hσn : (g.mk1 t v (fun x => x = top ∨ g.D t1 x ∨ F x) (fun x => g.S x ∨ (g.D t1 x ∧ x ≠ top))).σ t = v := upd_same _ _ _
  have old : ∀ t' r', dropL res [t1] t' = some r' → t' ≠ t1 ∧ res t' = some r' := fun t' r' hr => by
    have := dropL_some hr
    exact ⟨by simpa using this.1, this.2⟩
  have offTop : ∀ t' r', t' ≠ t1 → res t' = some r' → ¬ g.D t' top := by
    intro t' r' hn hr hx
    rcases htop with ⟨h1, _⟩ | ⟨h1, _⟩
    · exact hn (h.dApart t' t1 r' r1 top hr hr1 hx h1)
    · have := h.dNew t' r' top hr hx
      omega
  have topNew : (w0.E top ∨ w0.heap.size ≤ top) ∧ top < w'.heap.size := by
    rcases htop with ⟨h1, _⟩ | ⟨h1, h2⟩
    · have := h.dNew t1 r1 top hr1 h1
      exact ⟨this.1, by omega⟩
    · have := h.below.size
      exact ⟨.inr (by omega), h2⟩
  refine ⟨⟨h.below.to ho htp hp hsz (fun k hk hE => hw k (by have := h.below.size; omega) (fun he => by subst he; rcases topNew.1 with h1 | h1; exact hE h1; omega)), fun x hx hE => .inl (h.sBase x hx hE), ?_, ?_, ?_, ?_, ?_, ?_⟩, e⟩
  · rintro x (hx | ⟨hx, _⟩)
    · have := h.sLt x hx; omega
    · have := h.dNew t1 r1 x hr1 hx; omega
  · intro t' r' hr
    rcases upd_cases hr with ⟨rfl, hr2⟩ | ⟨hn, hr2⟩ <;> (clear hr; have hr := hr2; clear hr2)
    · cases hr
      exact ⟨.inr rfl, hok e⟩
    · obtain ⟨hn1, hr⟩ := old t' r' hr
      exact ⟨.inl (h.tok t' r' hr).1, (h.tok t' r' hr).2.evo e (h.tok t' r' hr).1 (hDo t' hn) fun x hx => hw x (h.dNew t' r' x hr hx).2 fun he => offTop t' r' hn1 hr (he ▸ hx)⟩
  · intro t' r' x hr hx
    rcases upd_cases hr with ⟨rfl, hr2⟩ | ⟨hn, hr2⟩ <;> (clear hr; have hr := hr2; clear hr2)
    · rw [hDn] at hx
      rcases hx with rfl | hx | hx
      · exact topNew
      · have := h.dNew t1 r1 x hr1 hx; exact ⟨this.1, by omega⟩
      · have := hF.new x hx; exact ⟨this.1, by omega⟩
    · obtain ⟨hn1, hr⟩ := old t' r' hr
      rw [hDo t' hn] at hx
      have := h.dNew t' r' x hr hx
      exact ⟨this.1, by omega⟩
  · have cross : ∀ t' r' x, t' ≠ t → dropL res [t1] t' = some r' → (x = top ∨ g.D t1 x ∨ F x) → g.D t' x → False := by
      intro t' r' x hn hr hx hx'
      obtain ⟨hn1, hr2⟩ := old t' r' hr
      rcases hx with rfl | hx | hx
      · exact offTop t' r' hn1 hr2 hx'
      · exact hn1 (h.dApart t' t1 r' r1 x hr2 hr1 hx' hx)
      · exact hF.off x t' r' hx hr hx'
    intro t2 t3 r2 r3 x h2 h3 hx2 hx3
    rcases upd_cases h2 with ⟨e2, k2⟩ | ⟨hn2, k2⟩ <;> rcases upd_cases h3 with ⟨e3, k3⟩ | ⟨hn3, k3⟩ <;> clear h2 h3 <;> have h2 := k2 <;> have h3 := k3 <;> clear k2 k3 <;> (try subst e2) <;> (try subst e3)
    · rfl
    · rw [hDn] at hx2
      rw [hDo t3 hn3] at hx3
      exact (cross t3 r3 x hn3 h3 hx2 hx3).elim
    · rw [hDn] at hx3
      rw [hDo t2 hn2] at hx2
      exact (cross t2 r2 x hn2 h2 hx3 hx2).elim
    · rw [hDo t2 hn2] at hx2
      rw [hDo t3 hn3] at hx3
      exact h.dApart t2 t3 r2 r3 x (old _ _ h2).2 (old _ _ h3).2 hx2 hx3
  · intro t' r' x hr hx hm
    rcases upd_cases hr with ⟨rfl, hr2⟩ | ⟨hn, hr2⟩ <;> (clear hr; have hr := hr2; clear hr2)
    · cases hr
      rw [hσn, hMut] at hm
      subst hm
      rintro (hS | ⟨_, hS⟩)
      · exact hnS hS
      · exact hS rfl
    · obtain ⟨hn1, hr⟩ := old t' r' hr
      rw [hDo t' hn] at hx
      rw [hσo t' hn] at hm
      rintro (hS | ⟨hS, _⟩)
      · exact h.sMut t' r' x hr hx hm hS
      · exact hn1 (h.dApart t' t1 r' r1 x hr hr1 hx hS)
  · intro hdm t' r' x hr hx hm
    rcases upd_cases hr with ⟨rfl, hr2⟩ | ⟨hn, hr2⟩ <;> (clear hr; have hr := hr2; clear hr2)
    · cases hr
      rw [hDn] at hx
      rw [hσn, hMut] at hm
      rcases hx with rfl | hx | hx
      · exact absurd rfl hm
      · exact .inr ⟨hx, hm⟩
      · exact .inl (hF.fro rfl x hx)
    · obtain ⟨hn1, hr⟩ := old t' r' hr
      rw [hDo t' hn] at hx
      rw [hσo t' hn] at hm
      exact .inl (h.sFro rfl t' r' x hr hx hm)
/-- A token under another name, its memory the same: the value that stands for it is another one. -/
theorem Models.move (h : Models dm w0 g res w) {t1 t : Nat} (ht : ¬ g.U t) {r1 : ARes} (hr1 : res t1 = some r1) (v : Value) (r : ARes) (hMut : ∀ x, Mut dm v r x ↔ Mut dm (g.σ t1) r1 x) (hMut0 : ∀ x, Mut false v r x ↔ Mut false (g.σ t1) r1 x)
    (hok : TokOk (g.mk1 t v (g.D t1) g.S) w t r) : Models dm w0 (g.mk1 t v (g.D t1) g.S) (upd (upd res t1 none) t (some r)) w ∧ Evo g (g.mk1 t v (g.D t1) g.S) w w := by
  have e : Evo g (g.mk1 t v (g.D t1) g.S) w w := Evo.mk1 ht (fun _ h => h) fun _ _ => rfl
  have hDo : ∀ t', t' ≠ t → (g.mk1 t v (g.D t1) g.S).D t' = g.D t' := fun t' hn => upd_ne _ _ hn
  have hDn : (g.mk1 t v (g.D t1) g.S).D t = g.D t1 := upd_same _ _ _
  have hσo : ∀ t', t' ≠ t → (g.mk1 t v (g.D t1) g.S).σ t' = g.σ t' := fun t' hn => upd_ne _ _ hn
  have hσn : (g.mk1 t v (g.D t1) g.S).σ t = v := upd_same _ _ _
  have key : ∀ t' r', upd (upd res t1 none) t (some r) t' = some r' → (t' = t ∧ r' = r) ∨ (t' ≠ t ∧ t' ≠ t1 ∧ res t' = some r') := by
    intro t' r' h1
    rcases upd_cases h1 with ⟨e1, e2⟩ | ⟨hn, h2⟩
    · exact .inl ⟨e1, by cases e2; rfl⟩
    · rcases upd_cases h2 with ⟨_, e2⟩ | ⟨hn2, h3⟩
      · cases e2
      · exact .inr ⟨hn, hn2, h3⟩
  refine ⟨⟨h.below, h.sBase, h.sLt, ?_, ?_, ?_, ?_, ?_⟩, e⟩
  · intro t' r' hr
    rcases key t' r' hr with ⟨rfl, rfl⟩ | ⟨hn, _, hr⟩
    · exact ⟨.inr rfl, hok⟩
    · exact ⟨.inl (h.tok t' r' hr).1, (h.tok t' r' hr).2.evo e (h.tok t' r' hr).1 (hDo t' hn) fun _ _ => rfl⟩
  · intro t' r' x hr hx
    rcases key t' r' hr with ⟨rfl, _⟩ | ⟨hn, _, hr⟩
    · rw [hDn] at hx; exact h.dNew t1 r1 x hr1 hx
    · rw [hDo t' hn] at hx; exact h.dNew t' r' x hr hx
  · intro t2 t3 r2 r3 x h2 h3 hx2 hx3
    rcases key t2 r2 h2 with ⟨rfl, _⟩ | ⟨hn2, hm2, k2⟩ <;> rcases key t3 r3 h3 with ⟨rfl, _⟩ | ⟨hn3, hm3, k3⟩
    · rfl
    · rw [hDn] at hx2
      rw [hDo t3 hn3] at hx3
      exact absurd (h.dApart t3 t1 r3 r1 x k3 hr1 hx3 hx2) hm3
    · rw [hDn] at hx3
      rw [hDo t2 hn2] at hx2
      exact absurd (h.dApart t2 t1 r2 r1 x k2 hr1 hx2 hx3) hm2
    · rw [hDo t2 hn2] at hx2
      rw [hDo t3 hn3] at hx3
      exact h.dApart t2 t3 r2 r3 x k2 k3 hx2 hx3
  · intro t' r' x hr hx hm
    rcases key t' r' hr with ⟨rfl, rfl⟩ | ⟨hn, _, hr⟩
    · rw [hDn] at hx
      rw [hσn] at hm
      exact h.sMut t1 r1 x hr1 hx ((hMut x).1 hm)
    · rw [hDo t' hn] at hx
      rw [hσo t' hn] at hm
      exact h.sMut t' r' x hr hx hm
  · intro hdm t' r' x hr hx hm
    rcases key t' r' hr with ⟨rfl, rfl⟩ | ⟨hn, _, hr⟩
    · rw [hDn] at hx
      rw [hσn] at hm
      exact h.sFro hdm t1 r1 x hr1 hx (fun hq => hm ((hMut0 x).2 hq))
    · rw [hDo t' hn] at hx
      rw [hσo t' hn] at hm
      exact h.sFro hdm t' r' x hr hx hm
end
end Go.Vi
