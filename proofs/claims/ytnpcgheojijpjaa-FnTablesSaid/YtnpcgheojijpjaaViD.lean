/- What one operation does to the abstract state: slots, tests, numbers, struct variables. Sound for every run. -/
import Derived.Test.YtnpcgheojijpjaaViC
set_option linter.unusedVariables false
set_option linter.unusedSimpArgs false
namespace Go.Vi
open Go.RowKit

abbrev Res := Nat → Option ARes
abbrev Upd := List (Nat × Option ARes)
def updL (res : Res) : Upd → Res
  | [] => res
  | (t, r) :: l => updL (upd res t r) l
def constC : Value → AC
  | .int k n => .pv (.int k n)
  | .bool b => .pv (.bool b)
  | .string s => .pv (.str s)
  | .slice none 0 0 => .nil 0
  | .nilIface => .pv (.err false)
  | _ => .undef
def opv (env : Nat → AV) : Operand → AV
  | .tmp t => env t
  | .const v => .c (constC v)
  | .func f => .c (.pv (.fn f))
  | .global _ => .c .undef
theorem constC_rep (g : G) (w : World) (v : Value) : RepC g w (constC v) v := by
  unfold constC
  split
  · exact .int _ _
  · exact .bool _
  · exact .str _
  · rfl
  · exact .err0
  · trivial
/-- What comes of an operation, whatever its kind. -/
def Runs (P : Program) (o : Oper) (a : Act) (w : World) (Post : Value → World → Prop) : Prop :=
  ∀ (next : Act → World → Prop) (Q : Exit → Act → World → Prop), (∀ v w', Post v w' → next (a.put o.dst v) w') → o.wp P a w next Q
def OpsAt (o : Oper) (env : Nat → AV) (g : G) (w : World) (a : Act) : Prop := ∀ x ∈ o.op.operands, RepAV g w (opv env x) (a.eval x)
def OpS (P : Program) (dm : Bool) (o : Oper) (env : Nat → AV) (rs : List (Nat × ARes)) (id : Nat) (val : AV) (u : Upd) : Prop :=
  ∀ (w0 : Base) (g : G) (res : Res) (w : World) (a : Act), Models dm w0 g res w → OpsAt o env g w a → (∀ t r, (t, r) ∈ rs → res t = some r) → (∀ x, id ≤ x → x < id + 1024 → ¬ g.U x) →
    Runs P o a w fun v w' => ∃ g', Models dm w0 g' (updL res u) w' ∧ Evo g g' w w' ∧ RepAV g' w' val v ∧ ∀ x, g'.U x → g.U x ∨ (id ≤ x ∧ x < id + 1024)
abbrev KT := AV → Upd → List Nat → Prop
def Good (P : Program) (dm : Bool) (o : Oper) (env : Nat → AV) (res : Res) (id : Nat) (K : KT) : Prop :=
  ∃ val u rs, OpS P dm o env rs id val u ∧ (∀ t r, (t, r) ∈ rs → res t = some r) ∧ K val u (rs.map Prod.fst)
section
variable {P : Program} {dm : Bool} {o : Oper} {env : Nat → AV} {res : Res} {id : Nat} {K : KT}
theorem runs_value {a : Act} {w w' : World} {v : Value} {Post : Value → World → Prop} (h : (execOp a.eval o).run P w = .ok (.value v) w') (hp : Post v w') : Runs P o a w Post := by
  intro next Q hn
  unfold Oper.wp
  rw [h]
  exact hn v w' hp
theorem runs_skip {a : Act} {w w' : World} {Post : Value → World → Prop} (h : (execOp a.eval o).run P w = .ok .skip w') (hp : Post undef w') : Runs P o a w Post := by
  intro next Q hn
  unfold Oper.wp
  rw [h]
  exact hn undef w' hp
/-- An operation that leaves the world as it is. -/
theorem good_pure {val : AV} (rs : List (Nat × ARes)) (hrs : ∀ t r, (t, r) ∈ rs → res t = some r) (hK : K val [] (rs.map Prod.fst))
    (h : ∀ (w0 : Base) (g : G) (res : Res) (w : World) (a : Act), Models dm w0 g res w → OpsAt o env g w a → (∀ t r, (t, r) ∈ rs → res t = some r) → ∃ v, (execOp a.eval o).run P w = .ok (.value v) w ∧ RepAV g w val v) :
    Good P dm o env res id K := by
  refine ⟨val, [], rs, fun w0 g res w a hM ho hr hid => ?_, hrs, hK⟩
  obtain ⟨v, hv, hrep⟩ := h w0 g res w a hM ho hr
  exact runs_value hv ⟨g, hM, Evo.refl _ _, hrep, fun _ h => .inl h⟩
end

/-! ### Values brought into their plain form -/
def forceP : PV → (PV → Prop) → Prop
  | .int k n, K => K (.int k n)
  | .bool b, K => K (.bool b)
  | .str s, K => K (.str s)
  | .fn f, K => K (.fn f)
  | .err b, K => K (.err b)
  | .any v, K => K (.any v)
  | .sl sz xs, K => K (.sl sz xs)
def forceC : AC → (AC → Prop) → Prop
  | .pv p, K => forceP p fun p => K (.pv p)
  | .nil sz, K => K (.nil sz)
  | .row t, K => K (.row t)
  | .ptr t off, K => K (.ptr t off)
  | .rel t sz i j, K => K (.rel t sz i j)
  | .el c, K => K (.el c)
  | .fn f caps, K => K (.fn f caps)
  | .clo f caps, K => K (.clo f caps)
  | .undef, K => K .undef
  | .void, K => K .void
def forceL : List AC → (List AC → Prop) → Prop
  | [], K => K []
  | a :: l, K => forceC a fun a => forceL l fun l => K (a :: l)
def forceV : AV → (AV → Prop) → Prop
  | .c a, K => forceC a fun a => K (.c a)
  | .agg cs, K => forceL cs fun cs => K (.agg cs)
  | .tup vs, K => K (.tup vs)
theorem forceP_eq {p : PV} {K : PV → Prop} (h : forceP p K) : K p := by cases p <;> exact h
theorem forceC_eq {a : AC} {K : AC → Prop} (h : forceC a K) : K a := by
  cases a <;> first | exact h | exact forceP_eq (K := fun p => K (.pv p)) h
theorem forceL_eq : ∀ {l : List AC} {K : List AC → Prop}, forceL l K → K l
  | [], _, h => h
  | a :: l, K, h => forceL_eq (K := fun l => K (a :: l)) (forceC_eq (K := fun a => forceL l fun l => K (a :: l)) h)
theorem forceV_eq {v : AV} {K : AV → Prop} (h : forceV v K) : K v := by
  cases v with
  | c a => exact forceC_eq (K := fun a => K (.c a)) h
  | agg cs => exact forceL_eq (K := fun cs => K (.agg cs)) h
  | tup vs => exact h
abbrev TG := Nat → Option TI
def TGOk (P : Program) (Γ : TG) : Prop := ∀ t ti, Γ t = some ti → TIOk P t ti
/-- A nil slice is told its elements' size. -/
def rtyC (Γ : TG) (t : TypeId) : AC → AC
  | .nil s => match Γ t with
    | some ti => match ti.elem with
      | some e => match Γ e with
        | some te => .nil te.sz
        | none => .nil s
      | none => .nil s
    | none => .nil s
  | a => a
def rtyV (Γ : TG) (t : TypeId) : AV → AV
  | .c a => .c (rtyC Γ t a)
  | v => v
theorem rtyC_rep {Γ : TG} {t : TypeId} {a : AC} {g : G} {w : World} {v : Value} (h : RepC g w a v) : RepC g w (rtyC Γ t a) v := by
  cases a <;> try exact h
  unfold rtyC
  (repeat' split) <;> exact h
theorem rtyV_rep {Γ : TG} {t : TypeId} {a : AV} {g : G} {w : World} {v : Value} (h : RepAV g w a v) : RepAV g w (rtyV Γ t a) v := by
  cases a with
  | c a => exact rtyC_rep (a := a) h
  | _ => exact h
/-- As many cells as are wanted. -/
def takeL : Nat → List AC → (List AC → Prop) → Prop
  | 0, _, K => K []
  | _ + 1, [], _ => False
  | n + 1, a :: l, K => forceC a fun a => takeL n l fun l => K (a :: l)
theorem takeL_eq : ∀ {n : Nat} {l : List AC} {K : List AC → Prop}, takeL n l K → n ≤ l.length ∧ K (l.take n)
  | 0, l, K, h => ⟨Nat.zero_le _, h⟩
  | n + 1, [], K, h => h.elim
  | n + 1, a :: l, K, h => by
    have := takeL_eq (K := fun l => K (a :: l)) (forceC_eq (K := fun a => takeL n l fun l => K (a :: l)) h)
    exact ⟨by simp; exact this.1, this.2⟩
def takeA (ti : TI) (l : List AC) (K : AV → Prop) : Prop :=
  match ti.agg with
  | true => takeL ti.sz l fun l => K (.agg l)
  | false => match l with
    | a :: _ => forceC a fun a => K (.c a)
    | [] => False
/-- A store: the list's cells over others, from a place on. -/
def over : List AC → List AC → (List AC → Prop) → Prop
  | [], cs, K => K cs
  | a :: l, _ :: cs, K => over l cs fun r => K (a :: r)
  | _ :: _, [], _ => False
def setL : Nat → List AC → List AC → (List AC → Prop) → Prop
  | 0, l, cs, K => over l cs K
  | n + 1, l, a :: cs, K => setL n l cs fun r => K (a :: r)
  | _ + 1, _, [], _ => False
theorem over_eq : ∀ {l cs : List AC} {K : List AC → Prop}, over l cs K → l.length ≤ cs.length ∧ K (l ++ cs.drop l.length)
  | [], cs, K, h => ⟨Nat.zero_le _, by cases cs <;> simpa [over] using h⟩
  | a :: l, b :: cs, K, h => by
    have := over_eq (K := fun r => K (a :: r)) h
    exact ⟨by simp; exact this.1, by simpa using this.2⟩
  | _ :: _, [], _, h => h.elim
theorem setL_eq : ∀ {n : Nat} {l cs : List AC} {K : List AC → Prop}, setL n l cs K → n + l.length ≤ cs.length ∧ K (cs.take n ++ l ++ cs.drop (n + l.length))
  | 0, l, cs, K, h => by
    have := over_eq h
    exact ⟨by simpa using this.1, by simpa using this.2⟩
  | n + 1, l, a :: cs, K, h => by
    have := setL_eq (K := fun r => K (a :: r)) (n := n) h
    refine ⟨by simp; omega, ?_⟩
    have e : (a :: cs).drop (n + 1 + l.length) = cs.drop (n + l.length) := by rw [show n + 1 + l.length = (n + l.length) + 1 by omega]; rfl
    rw [e]
    simpa using this.2
  | _ + 1, _, [], _, h => h.elim
/-- A value's cells, as many as its type has. -/
def defC : AC → Bool
  | .undef => false
  | .void => false
  | _ => true
def cellsA (ti : TI) (v : AV) (K : List AC → Prop) : Prop :=
  match ti.agg, v with
  | false, .c a => forceC a fun a => match defC a with
    | true => K [a]
    | false => False
  | true, .agg l => match Nat.beq l.length ti.sz with
    | true => K l
    | false => False
  | _, _ => False
theorem RepC.one {g : G} {w : World} {a : AC} {v : Value} (h : RepC g w a v) (hd : defC a = true) : v.oneCell' = true := by
  cases a with
  | pv p => exact Rep.one (S := g.S) h
  | nil sz => have : v = .slice none 0 0 := h; subst this; rfl
  | row t => exact h.2.2
  | ptr t off => obtain ⟨_, b, _, rfl⟩ := h; rfl
  | rel t sz i j => obtain ⟨_, b, o, n, c, _, rfl⟩ := h; rfl
  | el c => obtain ⟨b, o, rfl, _⟩ := h; rfl
  | fn f caps => obtain ⟨vs, rfl, _⟩ := h; rfl
  | clo f caps => obtain ⟨vs, rfl, _⟩ := h; rfl
  | undef => cases hd
  | void => cases hd
end Go.Vi
