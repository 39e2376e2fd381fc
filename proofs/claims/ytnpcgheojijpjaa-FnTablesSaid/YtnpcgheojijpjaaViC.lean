/- A table of types, and what the machine's operations on memory do, said for lists of cells. -/
import Derived.Test.YtnpcgheojijpjaaViB
import Derived.Laws.AppendOwn
import Derived.Laws.MakeOwn
import Derived.Laws.OwnMore
set_option linter.unusedVariables false
set_option linter.unusedSimpArgs false
namespace Go.Vi
open Go.RowKit

structure TI where
  sz : Nat
  bytes : Nat
  agg : Bool
  zero : List AC
  fields : List (Nat × Nat)
  elem : Option Nat
  kind : Option IntKind
  str : Bool
  bool : Bool
  flat : Bool
  arr : Option (Nat × Nat)
def zeroVal : AC → Value
  | .pv (.int k n) => .int k n
  | .pv (.bool b) => .bool b
  | .pv (.str s) => .string s
  | _ => .slice none 0 0
/-- Is the cell one that 'zeroVal' reads? -/
def zeroC : AC → Bool
  | .pv (.sl _ _) => false
  | .pv (.fn _) => false
  | .pv (.err _) => false
  | .pv (.any _) => false
  | .pv _ => true
  | .nil _ => true
  | _ => false
def aggD : TypeDesc → Bool
  | .struct _ | .array _ _ => true
  | _ => false
structure TIOk (P : Program) (t : TypeId) (ti : TI) : Prop where
  info : ∃ i z, P.info? t = some i ∧ i.size = ti.sz ∧ i.bytes = ti.bytes ∧ i.zero = some z ∧ z.cells.toList = ti.zero.map zeroVal
  zc : ∀ a ∈ ti.zero, zeroC a = true
  zl : ti.zero.length = ti.sz
  fl : ti.flat = true → ∀ a ∈ ti.zero, (∃ p, a = .pv p)
  desc : ∃ d, P.underlying t = some d ∧ aggD d = ti.agg ∧ (∀ e, ti.elem = some e → d = .slice e) ∧ (∀ k, ti.kind = some k → d = .int k) ∧ (ti.str = true → d = .string) ∧ (ti.bool = true → d = .bool) ∧
    (∀ (k off s : Nat), ti.fields[k]? = some (off, s) → 0 < s ∧ ∃ fs f, d = .struct fs ∧ fs[k]? = some f ∧ f.offset = off ∧ P.cellsOf f.type = s ∧ ∃ i, P.info? f.type = some i ∧ i.size = s)
  one : ti.agg = false → ti.sz = 1
  all : ∃ d, P.underlying t = some d ∧ (∀ fs, d = .struct fs → ti.fields.length = fs.size) ∧ (∀ n e, d = .array n e → ti.arr ≠ none) ∧ (∀ n s, ti.arr = some (n, s) → ∃ e i, d = .array n e ∧ P.info? e = some i ∧ i.size = s ∧ 0 < s)
/-- The same, computed. -/
def valB : Value → Value → Bool
  | .int k n, .int k' n' => k == k' && n == n'
  | .bool b, .bool b' => b == b'
  | .string s, .string s' => s.toList == s'.toList && s.size == s'.size && s.size == 0
  | .slice none 0 0, .slice none 0 0 => true
  | _, _ => false
theorem valB_eq {a b : Value} (h : valB a b = true) : a = b := by
  cases a <;> cases b <;> simp [valB] at h
  case int.int => simp [h.1, h.2]
  case bool.bool => simp [h]
  case string.string s s' =>
    obtain ⟨⟨h1, h2⟩, h3⟩ := h
    subst h3
    have e2 : s' = ByteArray.empty := ByteArray.size_eq_zero_iff.1 (by rw [← h2]; rfl)
    rw [e2]
  case slice.slice a1 n1 c1 a2 n2 c2 =>
    split at h <;> simp_all
def valsB : List Value → List Value → Bool
  | [], [] => true
  | a :: l, b :: m => valB a b && valsB l m
  | _, _ => false
theorem valsB_eq : ∀ {a b : List Value}, valsB a b = true → a = b
  | [], [], _ => rfl
  | [], _ :: _, h => by simp [valsB] at h
  | _ :: _, [], h => by simp [valsB] at h
  | a :: l, b :: m, h => by
    simp [valsB] at h
    rw [valB_eq h.1, valsB_eq h.2]
def elemB (d : TypeDesc) : Option Nat → Bool
  | none => true
  | some e => match d with | .slice e' => Nat.beq e e' | _ => false
def kindB (d : TypeDesc) : Option IntKind → Bool
  | none => true
  | some k => match d with | .int k' => k == k' | _ => false
def strB (d : TypeDesc) : Bool → Bool
  | false => true
  | true => match d with | .string => true | _ => false
def boolB (d : TypeDesc) : Bool → Bool
  | false => true
  | true => match d with | .bool => true | _ => false
def fieldsB (P : Program) (fs : Array Field) : Nat → List (Nat × Nat) → Bool
  | _, [] => true
  | k, (off, s) :: l => (match fs[k]? with | some f => Nat.beq f.offset off && (match P.info? f.type with | some i => Nat.beq i.size s | none => false) && Nat.blt 0 s | none => false) && fieldsB P fs (k + 1) l
def fldB (P : Program) (d : TypeDesc) (l : List (Nat × Nat)) : Bool :=
  match l with
  | [] => true
  | _ => match d with | .struct fs => fieldsB P fs 0 l | _ => false
def allB (d : TypeDesc) (l : List (Nat × Nat)) (a : Option (Nat × Nat)) : Bool :=
  match d with | .struct fs => Nat.beq l.length fs.size | .array _ _ => a.isSome | _ => true
def arrB (P : Program) (d : TypeDesc) : Option (Nat × Nat) → Bool
  | none => true
  | some (n, s) => match d with | .array m e => Nat.beq m n && (match P.info? e with | some i => Nat.beq i.size s && Nat.blt 0 s | none => false) | _ => false
def pvC : AC → Bool
  | .pv _ => true
  | _ => false
def tiB (P : Program) (t : TypeId) (ti : TI) : Bool :=
  match P.info? t, P.underlying t with
  | some i, some d => Nat.beq i.size ti.sz && Nat.beq i.bytes ti.bytes && (match i.zero with | some z => valsB z.cells.toList (ti.zero.map zeroVal) | none => false) && ti.zero.all zeroC && Nat.beq ti.zero.length ti.sz &&
      (!ti.flat || ti.zero.all pvC) && (aggD d == ti.agg) && elemB d ti.elem && kindB d ti.kind && strB d ti.str && boolB d ti.bool && fldB P d ti.fields && (ti.agg || Nat.beq ti.sz 1) && allB d ti.fields ti.arr && arrB P d ti.arr
  | _, _ => false
theorem fieldsB_ok {P : Program} {fs : Array Field} : ∀ {l : List (Nat × Nat)} {k0 : Nat}, fieldsB P fs k0 l = true → ∀ (k off s : Nat), l[k]? = some (off, s) →
    0 < s ∧ ∃ f, fs[k0 + k]? = some f ∧ f.offset = off ∧ ∃ i, P.info? f.type = some i ∧ i.size = s
  | [], _, _, k, off, s, hk => by simp at hk
  | (o, z) :: l, k0, h, k, off, s, hk => by
    simp only [fieldsB, Bool.and_eq_true] at h
    obtain ⟨h1, h2⟩ := h
    cases k with
    | zero =>
      simp at hk
      obtain ⟨rfl, rfl⟩ := hk
      cases hf : fs[k0]? with
      | none => simp [hf] at h1
      | some f =>
        simp only [hf, Bool.and_eq_true] at h1
        obtain ⟨⟨h3, h4⟩, h5⟩ := h1
        cases hi : P.info? f.type with
        | none => simp [hi] at h4
        | some i =>
          simp only [hi] at h4
          exact ⟨by simp [Nat.blt] at h5; omega, f, by simp, Nat.eq_of_beq_eq_true h3, i, hi, Nat.eq_of_beq_eq_true h4⟩
    | succ k =>
      have := fieldsB_ok h2 k off s (by simpa using hk)
      rw [show k0 + (k + 1) = k0 + 1 + k by omega]
      exact this
theorem TIOk.of {P : Program} {t : TypeId} {ti : TI} (h : tiB P t ti = true) : TIOk P t ti := by
  unfold tiB at h
  cases hi : P.info? t with
  | none => simp [hi] at h
  | some i =>
    cases hd : P.underlying t with
    | none => simp [hi, hd] at h
    | some d =>
      simp only [hi, hd, Bool.and_eq_true] at h
      obtain ⟨⟨⟨⟨⟨⟨⟨⟨⟨⟨⟨⟨⟨⟨h1, h2⟩, h3⟩, h4⟩, h5⟩, h6⟩, h7⟩, h8⟩, h9⟩, h10⟩, h10b⟩, h11⟩, h12⟩, h13⟩, h14⟩ := h
      cases hz : i.zero with
      | none => simp [hz] at h3
      | some z =>
        simp only [hz] at h3
        refine ⟨⟨i, z, hi, Nat.eq_of_beq_eq_true h1, Nat.eq_of_beq_eq_true h2, hz, valsB_eq h3⟩, List.all_eq_true.1 h4, Nat.eq_of_beq_eq_true h5, ?_, ⟨d, hd, by simpa using h7, ?_, ?_, ?_, ?_, ?_⟩, ?_, ⟨d, hd, ?_, ?_, ?_⟩⟩
        · intro hf a ha
          rw [hf] at h6
          have := List.all_eq_true.1 (by simpa using h6) a ha
          cases a <;> simp [pvC] at this
          exact ⟨_, rfl⟩
        · intro e he
          rw [he] at h8
          cases d <;> simp [elemB] at h8
          rw [h8]
        · intro k hk
          rw [hk] at h9
          cases d <;> simp [kindB] at h9
          rw [h9]
        · intro hs
          rw [hs] at h10
          cases d <;> simp [strB] at h10
          rfl
        · intro hs
          rw [hs] at h10b
          cases d <;> simp [boolB] at h10b
          rfl
        · intro k off s hk
          cases hl : ti.fields with
          | nil => rw [hl] at hk; simp at hk
          | cons x l =>
            rw [hl] at h11
            cases d <;> simp [fldB] at h11
            rename_i fs
            rw [hl] at hk
            obtain ⟨h0, f, hf, ho, i', hi', hs⟩ := fieldsB_ok h11 k off s hk
            refine ⟨h0, fs, f, rfl, by simpa using hf, ho, ?_, i', hi', hs⟩
            simp [Program.cellsOf, hi', hs]
        · intro ha
          rw [ha] at h12
          exact Nat.eq_of_beq_eq_true (by simpa using h12)
        · intro fs hfs
          subst hfs
          exact Nat.eq_of_beq_eq_true h13
        · intro n e hne hn
          subst hne
          rw [hn] at h13
          cases h13
        · intro n s hn
          rw [hn] at h14
          cases d <;> simp only [arrB] at h14 <;> try cases h14
          rename_i m e
          simp only [Bool.and_eq_true] at h14
          obtain ⟨h15, h16⟩ := h14
          cases hi : P.info? e with
          | none => rw [hi] at h16; cases h16
          | some i =>
            rw [hi] at h16
            simp only [Bool.and_eq_true] at h16
            refine ⟨e, i, ?_, hi, Nat.eq_of_beq_eq_true h16.1, by have := h16.2; simp [Nat.blt] at this; omega⟩
            rw [Nat.eq_of_beq_eq_true h15]
theorem zero_rep {g : G} {w : World} {a : AC} (h : zeroC a = true) : RepC g w a (zeroVal a) ∧ (zeroVal a).oneCell' = true := by
  cases a with
  | pv p => cases p with
    | int k n => exact ⟨.int k n, rfl⟩
    | bool b => exact ⟨.bool b, rfl⟩
    | str s => exact ⟨.str s, rfl⟩
    | fn f => simp [zeroC] at h
    | err b => simp [zeroC] at h
    | any v => simp [zeroC] at h
    | sl sz xs => simp [zeroC] at h
  | nil sz => exact ⟨rfl, rfl⟩
  | _ => simp [zeroC] at h

section
variable {P : Program} {w : World} {t : TypeId} {ti : TI}
theorem add_at (b o k : Nat) : (⟨b, o, none⟩ : Addr).add k = ⟨b, o + k, none⟩ := by unfold Addr.add; split <;> simp_all
theorem TIOk.isAgg (h : TIOk P t ti) (w : World) : (isAgg t).run P w = .ok ti.agg w := by
  obtain ⟨d, hd, ha, _⟩ := h.desc
  cases d <;> simp [Go.isAgg, run_underlying hd, aggD] at ha ⊢ <;> simp [← ha]
theorem TIOk.sizeOf (h : TIOk P t ti) (w : World) : (sizeOf t).run P w = .ok ti.sz w := by
  obtain ⟨i, z, hi, hs, _⟩ := h.info
  simp [Go.sizeOf, typeInfo, hi, hs]
theorem TIOk.cells (h : TIOk P t ti) : P.cellsOf t = ti.sz := by
  obtain ⟨i, z, hi, hs, _⟩ := h.info
  simp [Program.cellsOf, hi, hs]
theorem TIOk.zeroValue (h : TIOk P t ti) (w : World) : ∃ z, (zeroValue t).run P w = .ok z w ∧ z.cells.toList = ti.zero.map zeroVal := by
  obtain ⟨i, z, hi, hs, hb, hz, hc⟩ := h.info
  exact ⟨z, by simp [Go.zeroValue, typeInfo, hi, hz], hc⟩
theorem run_load_agg (h : TIOk P t ti) (ha : ti.agg = true) (b o : Nat) (vs : List Value) (hl : vs.length = ti.sz) (hc : ∀ (j : Nat) u, vs[j]? = some u → w.cell? ⟨b, o + j, none⟩ = some u) :
    (Instr.loadAt t (.pointer (some ⟨b, o, none⟩))).run P w = .ok (.agg vs.toArray) w := by
  have h1 := run_loadCells_list (P := P) w ⟨b, o, none⟩ vs (fun j v hv => by rw [add_at]; exact hc j v hv)
  simp [Instr.loadAt, Instr.sureAddr, loadVar, h.isAgg w, ha, h.sizeOf w, ← hl, h1]
theorem run_load_one (h : TIOk P t ti) (ha : ti.agg = false) (b o : Nat) (u : Value) (hc : w.cell? ⟨b, o, none⟩ = some u) :
    (Instr.loadAt t (.pointer (some ⟨b, o, none⟩))).run P w = .ok u w := by
  simp [Instr.loadAt, Instr.sureAddr, loadVar, h.isAgg w, ha, load, Sem.run, hc]
theorem run_storeCells_row (g o : Nat) (t : TypeId) : ∀ (vs : List Value) (i : Nat) (cur : Array Value) (w : World), CellsAt w g cur t → o + i + vs.length ≤ cur.size → (∀ v ∈ vs, v.oneCell' = true) →
    (storeCells ⟨g, o, none⟩ vs i).run P w = .ok () (w.setRow g (cur.toList.take (o + i) ++ vs ++ cur.toList.drop (o + i + vs.length)).toArray)
  | [], i, cur, w, ⟨fz, hg, _⟩, _, _ => by
    simp only [storeCells, List.append_nil, List.length_nil, Nat.add_zero, List.take_append_drop, Array.toArray_toList]
    rw [setRow_self w g cur t fz hg]
    rfl
  | v :: rest, i, cur, w, ⟨fz, hg, hfz⟩, hl, h1 => by
    have hi : o + i < cur.size := by simp at hl; omega
    have hadd : (⟨g, o, none⟩ : Addr).add i = ⟨g, o + i, none⟩ := by unfold Addr.add; split <;> simp_all
    have hcell : w.cell? ⟨g, o + i, none⟩ = some cur[o + i] := by simp [World.cell?, hg, hi]
    have hfro : w.frozen? ⟨g, o + i, none⟩ = false := by
      rcases hfz with rfl | hfz
      · simp [World.frozen?, hg]
      · obtain ⟨lo, hi'⟩ := fz
        simp only [World.frozen?, hg, Bool.and_eq_false_iff, decide_eq_false_iff_not]
        left
        simp only at hfz
        omega
    have hst : (store ((⟨g, o, none⟩ : Addr).add i) v).run P w = .ok () (w.setRow g (cur.setIfInBounds (o + i) v)) := by
      rw [hadd, run_store P w _ v _ (h1 v (by simp)), hcell]
      simp [hfro, setCell_eq_setRow w g (o + i) cur t fz v hg]
    have ih := run_storeCells_row g o t rest (i + 1) (cur.setIfInBounds (o + i) v) (w.setRow g (cur.setIfInBounds (o + i) v)) ⟨fz, setRow_heap w g cur _ t _ hg, by simpa using hfz⟩ (by simp at hl ⊢; omega) (fun x hx => h1 x (by simp [hx]))
    simp only [storeCells, Sem.run_bind, hst, Result.andThen_ok, ih, setRow_setRow]
    congr 3
    have e := list_seg_step cur.toList (o + i) v rest (by simp at hl ⊢; omega)
    simpa [Array.toList_setIfInBounds, Nat.add_assoc] using e
theorem run_store_vi (h : TIOk P t ti) (b o : Nat) (cur : Array Value) (e : TypeId) (v : Value) (hg : CellsAt w b cur e) (hl : v.cells.toList.length = ti.sz) (hfit : o + ti.sz ≤ cur.size)
    (h1 : ∀ u ∈ v.cells.toList, u.oneCell' = true) :
    (Instr.storeAt t (.pointer (some ⟨b, o, none⟩)) v).run P w = .ok () (w.setRow b (cur.toList.take o ++ v.cells.toList ++ cur.toList.drop (o + ti.sz)).toArray) := by
  have hst := run_storeCells_row (P := P) b o e v.cells.toList 0 cur w hg (by simpa [hl] using hfit) h1
  have hs : v.cells.size = ti.sz := by simpa using hl
  simp only [Nat.add_zero, hl] at hst
  simp [Instr.storeAt, Instr.sureAddr, storeVar, h.sizeOf w, hs, hst]
end
end Go.Vi
