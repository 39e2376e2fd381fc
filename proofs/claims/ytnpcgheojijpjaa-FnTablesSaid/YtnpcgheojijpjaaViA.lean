/- Pure values, how a value in a world reads as one, and who owns its memory. No program in sight. -/
import Derived.Below
import Derived.Tactics
import Derived.KernelRfl
import Derived.Laws.Rows
set_option linter.unusedVariables false
set_option linter.unusedSimpArgs false
namespace Go.Vi
open Go.RowKit

/-- Pure values: one cell each. A slice is the list of its elements, an element the list of its cells. -/
inductive PV where
  | int (k : IntKind) (n : Int)
  | bool (b : Bool)
  | str (s : ByteArray)
  | sl (sz : Nat) (xs : List (List PV))
  | fn (f : FuncId)
  | err (b : Bool)
  | any (v : Value)

def at2 (xs : List (List PV)) (i j : Nat) : Option PV := (xs[i]?).bind fun el => el[j]?

/-- The value reads as the pure one; all memory that is looked at lies in blocks of S. -/
inductive Rep (w : World) (S : Nat → Prop) : PV → Value → Prop
  | int (k : IntKind) (n : Int) : Rep w S (.int k n) (.int k n)
  | bool (b : Bool) : Rep w S (.bool b) (.bool b)
  | str (s : ByteArray) : Rep w S (.str s) (.string s)
  | fn (f : FuncId) : Rep w S (.fn f) (.func (.func f) #[] #[])
  | err0 : Rep w S (.err false) .nilIface
  | err1 (t : TypeId) (x : Value) : Rep w S (.err true) (.iface t x)
  | any (v : Value) (h : v.oneCell' = true) : Rep w S (.any v) v
  | sl (sz : Nat) (xs : List (List PV)) (A : Option Addr) (c : Nat) (us : Nat → Nat → Value)
      (hc : xs.length ≤ c) (hm : c ≤ 9223372036854775807) (hz : ∀ el ∈ xs, el.length = sz)
      (ha : xs ≠ [] → ∃ b o, A = some ⟨b, o, none⟩ ∧ S b ∧ ∀ i j p, at2 xs i j = some p → w.cell? ⟨b, o + i * sz + j, none⟩ = some (us i j))
      (hr : ∀ i j p, at2 xs i j = some p → Rep w S p (us i j)) : Rep w S (.sl sz xs) (.slice A xs.length c)

/-- A row's cells: none of them is shared with a string. -/
def CellsAt (w : World) (b : Nat) (cs : Array Value) (e : TypeId) : Prop := ∃ fl : Nat × Nat, w.heap[b]? = some (.cells cs e fl) ∧ (fl = (0, 0) ∨ cs.size ≤ fl.1)
theorem CellsAt.of {w : World} {b : Nat} {cs : Array Value} {e : TypeId} (h : w.heap[b]? = some (.cells cs e (0, 0))) : CellsAt w b cs e := ⟨_, h, .inl rfl⟩
theorem CellsAt.cell {w : World} {b o : Nat} {cs : Array Value} {e : TypeId} (h : CellsAt w b cs e) : w.cell? ⟨b, o, none⟩ = cs[o]? := by
  obtain ⟨fl, h, _⟩ := h
  exact cell_of_row w b o cs e fl h
theorem CellsAt.keep {w w' : World} {b : Nat} {cs : Array Value} {e : TypeId} (h : CellsAt w b cs e) (hk : w'.heap[b]? = w.heap[b]?) : CellsAt w' b cs e := by
  obtain ⟨fl, h, hf⟩ := h
  exact ⟨fl, hk.trans h, hf⟩
theorem CellsAt.lt {w : World} {b : Nat} {cs : Array Value} {e : TypeId} (h : CellsAt w b cs e) : b < w.heap.size := by
  obtain ⟨fl, h, _⟩ := h
  exact (Array.getElem?_eq_some_iff.1 h).1
theorem CellsAt.set {w : World} {b : Nat} {cs cs' : Array Value} {e : TypeId} (h : CellsAt w b cs e) (hs : cs'.size = cs.size) : CellsAt (w.setRow b cs') b cs' e := by
  obtain ⟨fl, h, hf⟩ := h
  exact ⟨fl, setRow_heap w b _ _ e _ h, by rw [hs]; exact hf⟩
/-- The same, and all memory is the value's own: it lies in D, the parts' memory apart. -/
inductive Own (w : World) : (Nat → Prop) → PV → Value → Prop
  | int (D : Nat → Prop) (k : IntKind) (n : Int) : Own w D (.int k n) (.int k n)
  | bool (D : Nat → Prop) (b : Bool) : Own w D (.bool b) (.bool b)
  | str (D : Nat → Prop) (s : ByteArray) : Own w D (.str s) (.string s)
  | fn (D : Nat → Prop) (f : FuncId) : Own w D (.fn f) (.func (.func f) #[] #[])
  | err0 (D : Nat → Prop) : Own w D (.err false) .nilIface
  | err1 (D : Nat → Prop) (t : TypeId) (x : Value) : Own w D (.err true) (.iface t x)
  | any (D : Nat → Prop) (v : Value) (h : v.oneCell' = true) : Own w D (.any v) v
  | nil (D : Nat → Prop) (sz : Nat) : Own w D (.sl sz []) (.slice none 0 0)
  | sl (D : Nat → Prop) (sz : Nat) (xs : List (List PV)) (b o c : Nat) (e : TypeId) (cs : Array Value) (us : Nat → Nat → Value) (Ds : Nat → Nat → Nat → Prop)
      (hg : D b) (hh : CellsAt w b cs e) (hsz : o + c * sz ≤ cs.size) (hc : xs.length ≤ c) (hm : c ≤ 9223372036854775807) (hz : ∀ el ∈ xs, el.length = sz)
      (ha : ∀ i j p, at2 xs i j = some p → cs[o + i * sz + j]? = some (us i j))
      (hD : ∀ i j x, Ds i j x → D x ∧ x ≠ b) (hdis : ∀ i j i' j' x, Ds i j x → Ds i' j' x → i = i' ∧ j = j')
      (hr : ∀ i j p, at2 xs i j = some p → Own w (Ds i j) p (us i j)) : Own w D (.sl sz xs) (.slice (some ⟨b, o, none⟩) xs.length c)

theorem cell_same {w w' : World} {b o : Nat} (h : w'.heap[b]? = w.heap[b]?) : w'.cell? ⟨b, o, none⟩ = w.cell? ⟨b, o, none⟩ := World.cell?_of_block (w := w) (a := ⟨b, o, none⟩) h
theorem cell_of {w : World} {b o : Nat} {cs : Array Value} {e : TypeId} {fr : Nat × Nat} (h : w.heap[b]? = some (.cells cs e fr)) : w.cell? ⟨b, o, none⟩ = cs[o]? := cell_of_row w b o cs e fr h
theorem blk_lt' {w : World} {b : Nat} {o : Obj} (h : w.heap[b]? = some o) : b < w.heap.size := (Array.getElem?_eq_some_iff.1 h).1

theorem Rep.mono {w w' : World} {S S' : Nat → Prop} {p : PV} {v : Value} (h : Rep w S p v) (hw : ∀ x, S x → w'.heap[x]? = w.heap[x]?) (hS : ∀ x, S x → S' x) : Rep w' S' p v := by
  induction h with
  | int k n => exact .int k n
  | bool b => exact .bool b
  | str s => exact .str s
  | fn f => exact .fn f
  | err0 => exact .err0
  | err1 t x => exact .err1 t x
  | any v h => exact .any v h
  | sl sz xs A c us hc hm hz ha hr ih =>
    refine .sl sz xs A c us hc hm hz (fun hn => ?_) ih
    obtain ⟨b, o, hA, hb, hcell⟩ := ha hn
    exact ⟨b, o, hA, hS b hb, fun i j p hp => (cell_same (hw b hb)).trans (hcell i j p hp)⟩
theorem Own.mono {w w' : World} {D D' : Nat → Prop} {p : PV} {v : Value} (h : Own w D p v) (hw : ∀ x, D x → w'.heap[x]? = w.heap[x]?) (hD' : ∀ x, D x → D' x) : Own w' D' p v := by
  induction h generalizing D' with
  | int D k n => exact .int _ k n
  | bool D b => exact .bool _ b
  | str D s => exact .str _ s
  | fn D f => exact .fn _ f
  | err0 D => exact .err0 _
  | err1 D t x => exact .err1 _ t x
  | any D v h => exact .any _ v h
  | nil D sz => exact .nil _ sz
  | sl D sz xs b o c e cs us Ds hg hh hsz hc hm hz ha hD hdis hr ih =>
    exact .sl D' sz xs b o c e cs us Ds (hD' b hg) (hh.keep (hw b hg)) hsz hc hm hz ha (fun i j x hx => ⟨hD' x (hD i j x hx).1, (hD i j x hx).2⟩) hdis
      fun i j p hp => ih i j p hp (fun x hx => hw x (hD i j x hx).1) (fun x hx => hx)
theorem Own.rep {w : World} {D S : Nat → Prop} {p : PV} {v : Value} (h : Own w D p v) (hS : ∀ x, D x → S x) : Rep w S p v := by
  induction h with
  | int D k n => exact .int k n
  | bool D b => exact .bool b
  | str D s => exact .str s
  | fn D f => exact .fn f
  | err0 D => exact .err0
  | err1 D t x => exact .err1 t x
  | any D v h => exact .any v h
  | nil D sz => exact .sl sz [] none 0 (fun _ _ => .bool false) (Nat.le_refl _) (by decide) (by simp) (fun h => absurd rfl h) (fun i j p h => by simp [at2] at h)
  | sl D sz xs b o c e cs us Ds hg hh hsz hc hm hz ha hD hdis hr ih =>
    exact .sl sz xs _ c us hc hm hz (fun _ => ⟨b, o, rfl, hS b hg, fun i j p hp => (CellsAt.cell hh).trans (ha i j p hp)⟩) fun i j p hp => ih i j p hp (fun x hx => hS x (hD i j x hx).1)
theorem Rep.one {w : World} {S : Nat → Prop} {p : PV} {v : Value} (h : Rep w S p v) : v.oneCell' = true := by cases h <;> first | rfl | assumption
theorem Own.one {w : World} {D : Nat → Prop} {p : PV} {v : Value} (h : Own w D p v) : v.oneCell' = true := by cases h <;> first | rfl | assumption
theorem Own.ro {w : World} {D : Nat → Prop} {p : PV} {v : Value} (h : Own w D p v) : Rep w D p v := h.rep fun _ h => h
/-- A pure value without slices. -/
def PV.flat : PV → Bool
  | .sl _ _ => false
  | _ => true
theorem Rep.flat_own {w : World} {S D : Nat → Prop} {p : PV} {v : Value} (h : Rep w S p v) (hf : p.flat = true) : Own w D p v := by
  cases h with
  | int k n => exact .int _ k n
  | bool b => exact .bool _ b
  | str s => exact .str _ s
  | fn f => exact .fn _ f
  | err0 => exact .err0 _
  | err1 t x => exact .err1 _ t x
  | any v h => exact .any _ v h
  | sl => simp [PV.flat] at hf
theorem Own.flat_D {w : World} {D D' : Nat → Prop} {p : PV} {v : Value} (h : Own w D p v) (hf : p.flat = true) : Own w D' p v := (h.rep (fun _ h => h)).flat_own hf

/-! ### Abstract values -/
inductive AC where
  | pv (p : PV)
  | nil (sz : Nat)
  | row (t : Nat)
  | ptr (t off : Nat)
  | rel (t sz i j : Nat)
  | el (c : List PV)
  | fn (f : FuncId) (caps : List Nat)
  | clo (f : FuncId) (caps : List (List PV))
  | undef
  | void
inductive AV where
  | c (a : AC)
  | agg (cs : List AC)
  | tup (vs : List AV)
inductive ARes where
  | box (cs : List AC)
  | row (own : Bool) (sz : Nat) (xs : List (List PV))
  | ro (sz : Nat) (xs : List (List PV))
  | fro (sz : Nat) (xs : List (List PV))
  | tl (sz t : Nat)
  | opn (sz : Nat) (cs : List AC)
  | raw (sz : Nat) (xs : List (List PV))
  | hol (sz i : Nat) (xs : List (List PV)) (cs : List AC)
  | gho (xs xo : List (List PV))
  | env (l : List (Nat × AV))

/-- What a token's name stands for in a run. -/
structure G where
  σ : Nat → Value
  D : Nat → Nat → Prop
  S : Nat → Prop
  U : Nat → Prop
  fr : Nat → Nat → Value

def RepPtr (g : G) (t off : Nat) (v : Value) : Prop := g.U t ∧ ∃ b, g.σ t = .pointer (some ⟨b, 0, none⟩) ∧ v = .pointer (some ⟨b, off, none⟩)
/-- A pointer to cells that are not written. -/
def RepEl (w : World) (S : Nat → Prop) (c : List PV) (v : Value) : Prop := ∃ b o, v = .pointer (some ⟨b, o, none⟩) ∧ S b ∧ ∀ j p, c[j]? = some p → ∃ u, w.cell? ⟨b, o + j, none⟩ = some u ∧ Rep w S p u
/-- A function with what it has captured. -/
def RepClo (w : World) (S : Nat → Prop) (f : FuncId) (caps : List (List PV)) (v : Value) : Prop :=
  ∃ vs : List Value, v = .func (.func f) #[] vs.toArray ∧ vs.length = caps.length ∧ ∀ (j : Nat) c, caps[j]? = some c → ∃ u, vs[j]? = some u ∧ RepEl w S c u
theorem RepEl.mono {w w' : World} {S S' : Nat → Prop} {c : List PV} {v : Value} (h : RepEl w S c v) (hw : ∀ x, S x → w'.heap[x]? = w.heap[x]?) (hS : ∀ x, S x → S' x) : RepEl w' S' c v := by
  obtain ⟨b, o, hv, hb, hc⟩ := h
  refine ⟨b, o, hv, hS b hb, fun j p hp => ?_⟩
  obtain ⟨u, hu, hr⟩ := hc j p hp
  exact ⟨u, (cell_same (hw b hb)).trans hu, hr.mono hw hS⟩
theorem RepClo.mono {w w' : World} {S S' : Nat → Prop} {f : FuncId} {caps : List (List PV)} {v : Value} (h : RepClo w S f caps v) (hw : ∀ x, S x → w'.heap[x]? = w.heap[x]?) (hS : ∀ x, S x → S' x) : RepClo w' S' f caps v := by
  obtain ⟨vs, hv, hl, hc⟩ := h
  refine ⟨vs, hv, hl, fun j c hj => ?_⟩
  obtain ⟨u, hu, hr⟩ := hc j c hj
  exact ⟨u, hu, hr.mono hw hS⟩
def RepC (g : G) (w : World) : AC → Value → Prop
  | .pv p, v => Rep w g.S p v
  | .nil _, v => v = .slice none 0 0
  | .row t, v => g.U t ∧ v = g.σ t ∧ v.oneCell' = true
  | .ptr t off, v => RepPtr g t off v
  | .rel t sz i j, v => g.U t ∧ ∃ b o n c, g.σ t = .slice (some ⟨b, o, none⟩) n c ∧ v = .pointer (some ⟨b, o + i * sz + j, none⟩)
  | .el c, v => ∃ b o, v = .pointer (some ⟨b, o, none⟩) ∧ g.S b ∧ ∀ j p, c[j]? = some p → ∃ u, w.cell? ⟨b, o + j, none⟩ = some u ∧ Rep w g.S p u
  | .fn f caps, v => ∃ vs : List Value, v = .func (.func f) #[] vs.toArray ∧ vs.length = caps.length ∧ ∀ (j : Nat) t, caps[j]? = some t → ∃ u, vs[j]? = some u ∧ RepPtr g t 0 u
  | .clo f caps, v => RepClo w g.S f caps v
  | .undef, _ => True
  | .void, v => v = undef
/-- Cells of a struct. -/
def RepCs (g : G) (w : World) (cs : List AC) (vs : List Value) : Prop := vs.length = cs.length ∧ ∀ (j : Nat) a, cs[j]? = some a → ∃ u, vs[j]? = some u ∧ u.oneCell' = true ∧ RepC g w a u
def RepA1 (g : G) (w : World) : AV → Value → Prop
  | .c a, v => RepC g w a v
  | .agg cs, v => ∃ vs : List Value, v = .agg vs.toArray ∧ RepCs g w cs vs
  | .tup _, _ => False
def RepAV (g : G) (w : World) : AV → Value → Prop
  | .tup as, v => ∃ vs : List Value, v = .tuple vs.toArray ∧ vs.length = as.length ∧ ∀ (j : Nat) a, as[j]? = some a → ∃ u, vs[j]? = some u ∧ RepA1 g w a u
  | a, v => RepA1 g w a v

/-- From one moment of a run to a later one. -/
structure Evo (g g' : G) (w w' : World) : Prop where
  u : ∀ t, g.U t → g'.U t
  σ : ∀ t, g.U t → g'.σ t = g.σ t
  s : ∀ x, g.S x → g'.S x
  heap : ∀ x, g.S x → w'.heap[x]? = w.heap[x]?
  fr : g'.fr = g.fr
theorem Evo.refl (g : G) (w : World) : Evo g g w w := ⟨fun _ h => h, fun _ _ => rfl, fun _ h => h, fun _ _ => rfl, rfl⟩
theorem Evo.trans {g1 g2 g3 : G} {w1 w2 w3 : World} (h : Evo g1 g2 w1 w2) (k : Evo g2 g3 w2 w3) : Evo g1 g3 w1 w3 :=
  ⟨fun t ht => k.u t (h.u t ht), fun t ht => (k.σ t (h.u t ht)).trans (h.σ t ht), fun x hx => k.s x (h.s x hx), fun x hx => (k.heap x (h.s x hx)).trans (h.heap x hx), k.fr.trans h.fr⟩
section
variable {g g' : G} {w w' : World}
theorem RepPtr.evo {t off : Nat} {v : Value} (h : RepPtr g t off v) (e : Evo g g' w w') : RepPtr g' t off v := by
  obtain ⟨hu, b, hs, hv⟩ := h
  exact ⟨e.u t hu, b, (e.σ t hu).trans hs, hv⟩
theorem RepC.evo {a : AC} {v : Value} (h : RepC g w a v) (e : Evo g g' w w') : RepC g' w' a v := by
  cases a with
  | pv p => exact Rep.mono h e.heap e.s
  | nil sz => exact h
  | row t => exact ⟨e.u t h.1, h.2.1.trans (e.σ t h.1).symm, h.2.2⟩
  | ptr t off => exact RepPtr.evo h e
  | rel t sz i j =>
    obtain ⟨hu, b, o, n, c, hs, hv⟩ := h
    exact ⟨e.u t hu, b, o, n, c, (e.σ t hu).trans hs, hv⟩
  | el c =>
    obtain ⟨b, o, hv, hb, hc⟩ := h
    refine ⟨b, o, hv, e.s b hb, fun j p hp => ?_⟩
    obtain ⟨u, hu, hr⟩ := hc j p hp
    exact ⟨u, (cell_same (e.heap b hb)).trans hu, hr.mono e.heap e.s⟩
  | fn f caps =>
    obtain ⟨vs, hv, hl, hc⟩ := h
    refine ⟨vs, hv, hl, fun j t ht => ?_⟩
    obtain ⟨u, hu, hr⟩ := hc j t ht
    exact ⟨u, hu, hr.evo e⟩
  | clo f caps => exact RepClo.mono h e.heap e.s
  | undef => trivial
  | void => exact h
theorem RepCs.evo {cs : List AC} {vs : List Value} (h : RepCs g w cs vs) (e : Evo g g' w w') : RepCs g' w' cs vs :=
  ⟨h.1, fun j a ha => by
    obtain ⟨u, hu, h1, hr⟩ := h.2 j a ha
    exact ⟨u, hu, h1, hr.evo e⟩⟩
theorem RepA1.evo {a : AV} {v : Value} (h : RepA1 g w a v) (e : Evo g g' w w') : RepA1 g' w' a v := by
  cases a with
  | c a => exact RepC.evo h e
  | agg cs =>
    obtain ⟨vs, hv, hr⟩ := h
    exact ⟨vs, hv, hr.evo e⟩
  | tup vs => exact h.elim
theorem RepAV.evo {a : AV} {v : Value} (h : RepAV g w a v) (e : Evo g g' w w') : RepAV g' w' a v := by
  cases a with
  | c a => exact RepA1.evo (a := .c a) h e
  | agg cs => exact RepA1.evo (a := .agg cs) h e
  | tup as =>
    obtain ⟨vs, hv, hl, hr⟩ := h
    refine ⟨vs, hv, hl, fun j a ha => ?_⟩
    obtain ⟨u, hu, hr⟩ := hr j a ha
    exact ⟨u, hu, hr.evo e⟩
end

/-! ### Tokens -/
def ElOk (w : World) (S D : Nat → Prop) (own : Bool) (p : PV) (u : Value) : Prop := if own then Own w D p u else Rep w S p u
/-- A row of the call's own: a slice value, its block, its elements. -/
def RowOk (w : World) (S D : Nat → Prop) (own : Bool) (sz : Nat) (xs : List (List PV)) (v : Value) : Prop :=
  (xs = [] ∧ v = .slice none 0 0) ∨
  ∃ (b o c : Nat) (e : TypeId) (cs : Array Value) (us : Nat → Nat → Value) (Ds : Nat → Nat → Nat → Prop), v = .slice (some ⟨b, o, none⟩) xs.length c ∧
    D b ∧ CellsAt w b cs e ∧ o + c * sz ≤ cs.size ∧ xs.length ≤ c ∧ c ≤ 9223372036854775807 ∧ (∀ el ∈ xs, el.length = sz) ∧
    (∀ i j p, at2 xs i j = some p → cs[o + i * sz + j]? = some (us i j)) ∧ (∀ i j x, Ds i j x → D x ∧ x ≠ b) ∧ (∀ i j i' j' x, Ds i j x → Ds i' j' x → i = i' ∧ j = j') ∧
    ∀ i j p, at2 xs i j = some p → ElOk w S (Ds i j) own p (us i j)
theorem row_of_own {w : World} {S D : Nat → Prop} {sz : Nat} {xs : List (List PV)} {v : Value} (h : Own w D (.sl sz xs) v) : RowOk w S D true sz xs v := by
  cases h with
  | nil => exact .inl ⟨rfl, rfl⟩
  | sl _ _ _ b o c e cs us Ds hg hh hsz hc hm hz ha hD hdis hr => exact .inr ⟨b, o, c, e, cs, us, Ds, rfl, hg, hh, hsz, hc, hm, hz, ha, hD, hdis, hr⟩
theorem own_of_row {w : World} {S D : Nat → Prop} {sz : Nat} {xs : List (List PV)} {v : Value} (h : RowOk w S D true sz xs v) : Own w D (.sl sz xs) v := by
  rcases h with ⟨rfl, rfl⟩ | ⟨b, o, c, e, cs, us, Ds, rfl, hg, hh, hsz, hc, hm, hz, ha, hD, hdis, hr⟩
  · exact .nil _ _
  · exact .sl D sz xs b o c e cs us Ds hg hh hsz hc hm hz ha hD hdis hr
theorem ElOk.mono {w w' : World} {S S' D D' : Nat → Prop} {own : Bool} {p : PV} {u : Value} (h : ElOk w S D own p u) (hw : ∀ x, D x → w'.heap[x]? = w.heap[x]?) (hD : ∀ x, D x → D' x)
    (hwS : ∀ x, S x → w'.heap[x]? = w.heap[x]?) (hS : ∀ x, S x → S' x) : ElOk w' S' D' own p u := by
  unfold ElOk at *
  cases own with
  | true => exact Own.mono h hw hD
  | false => exact Rep.mono h hwS hS
theorem RowOk.mono {w w' : World} {S S' D D' : Nat → Prop} {own : Bool} {sz : Nat} {xs : List (List PV)} {v : Value} (h : RowOk w S D own sz xs v) (hw : ∀ x, D x → w'.heap[x]? = w.heap[x]?) (hD : ∀ x, D x → D' x)
    (hwS : ∀ x, S x → w'.heap[x]? = w.heap[x]?) (hS : ∀ x, S x → S' x) : RowOk w' S' D' own sz xs v := by
  rcases h with h | ⟨b, o, c, e, cs, us, Ds, hv, hg, hh, hsz, hc, hm, hz, ha, hDs, hdis, hr⟩
  · exact .inl h
  · exact .inr ⟨b, o, c, e, cs, us, Ds, hv, hD b hg, hh.keep (hw b hg), hsz, hc, hm, hz, ha, fun i j x hx => ⟨hD x (hDs i j x hx).1, (hDs i j x hx).2⟩, hdis,
      fun i j p hp => (hr i j p hp).mono (fun x hx => hw x (hDs i j x hx).1) (fun _ h => h) hwS hS⟩
theorem ElOk.rep {w : World} {S D : Nat → Prop} {own : Bool} {p : PV} {u : Value} (h : ElOk w S D own p u) (hS : ∀ x, D x → S x) : Rep w S p u := by
  unfold ElOk at h
  cases own with
  | true => exact Own.rep h hS
  | false => exact h
/-- A row reads as its list, where all its memory may be read. -/
theorem RowOk.rep {w : World} {S S' D : Nat → Prop} {own : Bool} {sz : Nat} {xs : List (List PV)} {v : Value} (h : RowOk w S D own sz xs v) (hS : ∀ x, D x → S' x) (hSS : ∀ x, S x → S' x) : Rep w S' (.sl sz xs) v := by
  rcases h with ⟨rfl, rfl⟩ | ⟨b, o, c, e, cs, us, Ds, rfl, hg, hh, hsz, hc, hm, hz, ha, hDs, hdis, hr⟩
  · exact Own.rep (.nil (fun _ => False) sz) (fun _ h => h.elim)
  · exact .sl sz xs _ c us hc hm hz (fun _ => ⟨b, o, rfl, hS b hg, fun i j p hp => (CellsAt.cell hh).trans (ha i j p hp)⟩)
      fun i j p hp => by
        have h1 := hr i j p hp
        unfold ElOk at h1
        cases own with
        | true => exact Own.rep h1 (fun x hx => hS x (hDs i j x hx).1)
        | false => exact Rep.mono h1 (fun _ _ => rfl) hSS
theorem RowOk.len {w : World} {S D : Nat → Prop} {own : Bool} {sz : Nat} {xs : List (List PV)} {v : Value} (h : RowOk w S D own sz xs v) : ∃ A c, v = .slice A xs.length c ∧ xs.length ≤ c ∧ c ≤ 9223372036854775807 := by
  rcases h with ⟨rfl, rfl⟩ | ⟨b, o, c, e, cs, us, Ds, rfl, hg, hh, hsz, hc, hm, _⟩
  · exact ⟨none, 0, rfl, Nat.le_refl _, by decide⟩
  · exact ⟨_, c, rfl, hc, hm⟩
def BoxOk (g : G) (w : World) (D : Nat → Prop) (v : Value) (cs : List AC) : Prop :=
  ∃ (b : Nat) (ty : TypeId) (vs : List Value), v = .pointer (some ⟨b, 0, none⟩) ∧ D b ∧ w.heap[b]? = some (.cells vs.toArray ty (0, 0)) ∧ RepCs g w cs vs
/-- A row whose first element was taken out: its rest is another token. -/
def TailOk (g : G) (t sz t2 : Nat) : Prop := g.U t2 ∧ ∃ (A : Option Addr) (n c : Nat), g.σ t = .slice A (n + 1) c ∧ n + 1 ≤ c ∧ g.σ t2 = .slice (if c = 1 then A else A.map (·.add (1 * sz))) n (c - 1)
/-- A row of one element that is written no more: its cells, one by one. -/
def OpenOk (g : G) (w : World) (t sz : Nat) (cs : List AC) : Prop :=
  ∃ (b q c : Nat) (us : List Value), g.σ t = .slice (some ⟨b, q, none⟩) 1 c ∧ g.S b ∧ cs.length = sz ∧ RepCs g w cs us ∧ ∀ (j : Nat) u, us[j]? = some u → w.cell? ⟨b, q + j, none⟩ = some u
/-- A row of the call's own of which one element is told cell by cell: its slices are tokens of their own. -/
def HolOk (g : G) (w : World) (D : Nat → Prop) (sz i : Nat) (xs : List (List PV)) (cs : List AC) (v : Value) : Prop :=
  ∃ (b o c : Nat) (e : TypeId) (ca : Array Value) (us : Nat → Nat → Value) (Ds : Nat → Nat → Nat → Prop), v = .slice (some ⟨b, o, none⟩) xs.length c ∧
    D b ∧ CellsAt w b ca e ∧ o + c * sz ≤ ca.size ∧ xs.length ≤ c ∧ c ≤ 9223372036854775807 ∧ (∀ el ∈ xs, el.length = sz) ∧ (i < xs.length ∧ cs.length = sz) ∧
    (∀ k j p, at2 xs k j = some p → ca[o + k * sz + j]? = some (us k j)) ∧ (∀ k j x, Ds k j x → D x ∧ x ≠ b) ∧ (∀ k j k' j' x, Ds k j x → Ds k' j' x → k = k' ∧ j = j') ∧
    (∀ k j p, k ≠ i → at2 xs k j = some p → Own w (Ds k j) p (us k j)) ∧ (∀ (j : Nat) a, cs[j]? = some a → (us i j).oneCell' = true ∧ RepC g w a (us i j)) ∧ ∀ j v, at2 xs i j = some (.any v) → us i j = v
theorem HolOk.mono {g g' : G} {w w' : World} {D : Nat → Prop} {sz i : Nat} {xs : List (List PV)} {cs cs' : List AC} {v : Value} (h : HolOk g w D sz i xs cs v) (hw : ∀ x, D x → w'.heap[x]? = w.heap[x]?)
    (hl : cs'.length = cs.length) (hc : ∀ (j : Nat) a' u, cs'[j]? = some a' → (∀ a, cs[j]? = some a → RepC g w a u) → RepC g' w' a' u) : HolOk g' w' D sz i xs cs' v := by
  obtain ⟨b, o, c, e, ca, us, Ds, hv, hg, hh, hsz, hcc, hm, hz, ⟨hi, hcl⟩, ha, hDs, hdis, ho, hcs, hany⟩ := h
  refine ⟨b, o, c, e, ca, us, Ds, hv, hg, hh.keep (hw b hg), hsz, hcc, hm, hz, ⟨hi, hl.trans hcl⟩, ha, hDs, hdis, fun k j p hk hp => (ho k j p hk hp).mono (fun x hx => hw x (hDs k j x hx).1) fun _ h => h, fun j a' hj => ?_, hany⟩
  have hlt : j < cs.length := by rw [← hl]; exact (List.getElem?_eq_some_iff.1 hj).1
  have h1 := hcs j _ (List.getElem?_eq_getElem hlt)
  exact ⟨h1.1, hc j a' _ hj fun a h2 => (hcs j a h2).2⟩
/-- Whose the memory is that opaque cells lead to. -/
def GhoOk (w : World) (D : Nat → Prop) (xs xo : List (List PV)) : Prop :=
  ∃ Ds : Nat → Nat → Nat → Prop, (∀ i j x, Ds i j x → D x) ∧ (∀ i j i' j' x, Ds i j x → Ds i' j' x → i = i' ∧ j = j') ∧ ∀ i j p v, at2 xs i j = some p → at2 xo i j = some (.any v) → Own w (Ds i j) p v
theorem GhoOk.mono {w w' : World} {D : Nat → Prop} {xs xo : List (List PV)} (h : GhoOk w D xs xo) (hw : ∀ x, D x → w'.heap[x]? = w.heap[x]?) : GhoOk w' D xs xo := by
  obtain ⟨Ds, h1, h2, h3⟩ := h
  exact ⟨Ds, h1, h2, fun i j p v hp hv => (h3 i j p v hp hv).mono (fun x hx => hw x (h1 i j x hx)) fun _ h => h⟩
def TokOk (g : G) (w : World) (t : Nat) : ARes → Prop
  | .box cs => BoxOk g w (g.D t) (g.σ t) cs
  | .row own sz xs => RowOk w g.S (g.D t) own sz xs (g.σ t)
  | .ro sz xs => Rep w g.S (.sl sz xs) (g.σ t)
  | .fro sz xs => RowOk w g.S (g.D t) true sz xs (g.σ t)
  | .tl sz t2 => TailOk g t sz t2
  | .opn sz cs => OpenOk g w t sz cs
  | .raw sz xs => RowOk w g.S (g.D t) true sz xs (g.σ t)
  | .hol sz i xs cs => HolOk g w (g.D t) sz i xs cs (g.σ t)
  | .gho xs xo => GhoOk w (g.D t) xs xo
  | .env l => ∀ k v, (k, v) ∈ l → RepAV g w v (g.fr t k)
/-- The blocks of a token that may be written: in the deep way of looking all of a row's, else its first one alone. -/
def Mut (dm : Bool) (v : Value) : ARes → Nat → Prop
  | .box _, _ => True
  | .row .., x => dm = true ∨ v.ownBlock = some x
  | .ro .., _ => False
  | .fro .., _ => False
  | .tl .., _ => False
  | .opn .., _ => False
  | .raw .., _ => True
  | .gho .., _ => False
  | .hol .., x => dm = true ∨ v.ownBlock = some x
  | .env _, _ => False
/-- WHAT A SEAT'S LAID VARIABLES HOLD (none here): blocks below 'lowN', which nothing turns. -/
def lowN : Nat := 0
def Laid (w : World) : Prop := lowN ≤ w.heap.size
theorem Laid.low {w : World} (h : Laid w) : lowN ≤ w.heap.size := h
theorem Laid.keep {w w' : World} (h : Laid w) (hs : w.heap.size ≤ w'.heap.size) (_ : ∀ k, k < lowN → w'.heap[k]? = w.heap[k]?) : Laid w' := Nat.le_trans h hs
theorem laid_any (w : World) : Laid w := Nat.zero_le _
-- end of what is laid
/-- Where a run began, and which of its memory was handed over to it. -/
structure Base where
  w : World
  E : Nat → Prop
  pin : Nat → Option Value
  pinLt : ∀ t v, pin t = some v → t < 64
  pinF : Nat → Option (Nat → Value)
  laid : Laid w
  eLow : ∀ x, E x → lowN ≤ x
def Base.of (w : World) (q : Laid w) : Base := ⟨w, fun _ => False, fun _ => none, fun _ _ h => (by cases h), fun _ => none, q, fun _ h => h.elim⟩
abbrev Base.heap (b : Base) : Array Obj := b.w.heap
structure BelowE (w0 : Base) (w : World) : Prop where
  os : w.os = w0.w.os
  tape : w.tape = w0.w.tape
  output : w.output = w0.w.output
  size : w0.heap.size ≤ w.heap.size
  block : ∀ k, k < w0.heap.size → ¬ w0.E k → w.heap[k]? = w0.heap[k]?
theorem BelowE.laid {w0 : Base} {w : World} (h : BelowE w0 w) : Laid w :=
  w0.laid.keep h.size fun k hk => h.block k (Nat.lt_of_lt_of_le hk w0.laid.low) fun he => absurd (w0.eLow k he) (Nat.not_le.2 hk)
theorem BelowE.to {w0 : Base} {w w' : World} (h : BelowE w0 w) (ho : w'.os = w.os) (ht : w'.tape = w.tape) (hp : w'.output = w.output) (hs : w.heap.size ≤ w'.heap.size) (hb : ∀ k, k < w0.heap.size → ¬ w0.E k → w'.heap[k]? = w.heap[k]?) : BelowE w0 w' :=
  ⟨ho.trans h.os, ht.trans h.tape, hp.trans h.output, Nat.le_trans h.size hs, fun k hk hE => (hb k hk hE).trans (h.block k hk hE)⟩
structure Models (dm : Bool) (w0 : Base) (g : G) (res : Nat → Option ARes) (w : World) : Prop where
  below : BelowE w0 w
  sBase : ∀ x, x < w0.heap.size → ¬ w0.E x → g.S x
  sLt : ∀ x, g.S x → x < w.heap.size
  tok : ∀ t r, res t = some r → g.U t ∧ TokOk g w t r
  dNew : ∀ t r x, res t = some r → g.D t x → (w0.E x ∨ w0.heap.size ≤ x) ∧ x < w.heap.size
  dApart : ∀ t t' r r' x, res t = some r → res t' = some r' → g.D t x → g.D t' x → t = t'
  sMut : ∀ t r x, res t = some r → g.D t x → Mut dm (g.σ t) r x → ¬ g.S x
  sFro : dm = false → ∀ t r x, res t = some r → g.D t x → ¬ Mut false (g.σ t) r x → g.S x
theorem Models.low {dm : Bool} {w0 : Base} {g : G} {res : Nat → Option ARes} {w : World} (h : Models dm w0 g res w) {t : Nat} {r : ARes} {x : Nat} (hr : res t = some r) (hx : g.D t x) : lowN ≤ x := by
  rcases (h.dNew t r x hr hx).1 with h1 | h1
  · exact w0.eLow x h1
  · exact Nat.le_trans w0.laid.low h1
/-- A test: both ways. -/
def br (b : Bool) (X Y : Prop) : Prop :=
  match b with
  | true => X
  | false => Y
theorem br_i {b : Bool} {X Y : Prop} (h : b = true → X) (h' : b = false → Y) : br b X Y := by
  cases b with
  | true => exact h rfl
  | false => exact h' rfl
theorem br_e {b : Bool} {X Y : Prop} (h : br b X Y) : (b = true ∧ X) ∨ (b = false ∧ Y) := by
  cases b with
  | true => exact .inl ⟨rfl, h⟩
  | false => exact .inr ⟨rfl, h⟩
def upd {α : Type} (f : Nat → α) (k : Nat) (v : α) : Nat → α := fun x => bif Nat.beq x k then v else f x
theorem upd_same {α : Type} (f : Nat → α) (k : Nat) (v : α) : upd f k v k = v := by simp [upd]
theorem upd_ne {α : Type} (f : Nat → α) {k x : Nat} (v : α) (h : x ≠ k) : upd f k v x = f x := by
  have hb : Nat.beq x k = false := by
    cases hb : Nat.beq x k with
    | false => rfl
    | true => exact absurd (Nat.eq_of_beq_eq_true hb) h
  simp [upd, hb]
theorem upd_cases {α : Type} {f : Nat → α} {k : Nat} {v : α} {x : Nat} {r : α} (h : upd f k v x = r) : (x = k ∧ v = r) ∨ (x ≠ k ∧ f x = r) := by
  by_cases e : x = k
  · subst e
    exact .inl ⟨rfl, by rw [upd_same] at h; exact h⟩
  · exact .inr ⟨e, by rw [upd_ne f v e] at h; exact h⟩
end Go.Vi
