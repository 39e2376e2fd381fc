/- A region that draws its order: the rule. -/
import Derived.Test.YtnpcgheojijpjaaViP
import Derived.Test.YtnpcgheojijpjaaViOb
set_option linter.unusedVariables false
set_option linter.unusedSimpArgs false
namespace Go.Vi
open Go.RowKit
structure Rec where
  ex : Bool
  val : AV
  u : Upd
  rs : List (Nat × ARes)
def aft (o : Oper) (i : Nat) : Bool := o.after.toList.any fun e => Nat.beq e.on i && Region.binds .any e
/-- As `aft`, also by way of another. -/
def stepB (ops : Array Oper) (F : Oper → Nat → Bool) (o : Oper) (i : Nat) : Bool := aft o i || o.after.toList.any fun e => Region.binds .any e && (match ops[e.on]? with | some p => F p i | none => false)
def aftC (ops : Array Oper) : Oper → Nat → Bool := stepB ops (stepB ops aft)
def tmpOf : Operand → Option Nat
  | .tmp t => some t
  | _ => none
def guardT (ops : Array Oper) (o : Oper) : List Nat :=
  match o.guard with
  | some (j, _) => ((ops[j]?).bind (·.dst)).toList
  | none => []
def looks (ops : Array Oper) (o : Oper) : List Nat := o.op.operands.toList.filterMap tmpOf ++ guardT ops o
def hasN (l : List Nat) (t : Nat) : Bool := l.any fun x => Nat.beq x t
def meets (l m : List Nat) : Bool := l.any fun x => hasN m x
/-- Do the two act on each other? -/
def confB (ops : Array Oper) (x y : Oper × List Nat × List Nat) : Bool :=
  meets x.1.dst.toList (looks ops y.1 ++ y.1.dst.toList) || meets y.1.dst.toList (looks ops x.1) || meets x.2.2 (y.2.1 ++ y.2.2) || meets y.2.2 x.2.1
def laterB (ops : Array Oper) (i : Nat) (x : Oper × List Nat × List Nat) : List (Oper × List Nat × List Nat) → Bool
  | [] => true
  | y :: l => (!confB ops x y || aftC ops y.1 i) && laterB ops i x l
def pairsB (ops : Array Oper) : Nat → List (Oper × List Nat × List Nat) → Bool
  | _, [] => true
  | i, x :: l => laterB ops i x l && pairsB ops (i + 1) l
/-- Edges go back; a guard is waited for. -/
def edgesB : Nat → List Oper → Bool
  | _, [] => true
  | i, o :: l => ((o.after.toList.all fun e => Nat.blt e.on i || !Region.binds .any e) && (match o.guard with | some (j, _) => aft o j | none => true)) && edgesB (i + 1) l
def zipT : List Oper → List (List Nat × List Nat) → List (Oper × List Nat × List Nat)
  | o :: l, t :: m => (o, t.1, t.2) :: zipT l m
  | _, _ => []
/-- A call that moves a cursor: its first argument leads to a box of the run's own. -/
def curB (env : Nat → AV) (o : Oper) : Option (FuncId × List Operand × List TypeId) :=
  match o.op with
  | .call c => (match c.callee with
    | .value x => (match c.args.toList with
      | x0 :: _ => (match opv env x0 with
        | .c (.ptr _ _) => (match opv env x with
          | .c (.pv (.fn f)) => (match o.guard with
            | none => some (f, c.args.toList, c.argTypes.toList.tail)
            | some _ => none)
          | _ => none)
        | _ => none)
      | [] => none)
    | _ => none)
  | _ => none
/-- What is checked ahead of such a call: all that the text has behind it waits for it. -/
def lateB (ops : Array Oper) (m : Nat) (rest : List Oper) : Bool := rest.all fun o => aftC ops o m
def stageB (ops : Array Oper) (tr : List (List Nat × List Nat)) (m : Nat) (rest : List Oper) : Bool := pairsB ops 0 (zipT ops.toList tr.reverse) && edgesB 0 (ops.toList.take (m + 1)) && lateB ops m rest
/-- The text's order; what each operation read and wrote is noted. -/
def dOps (P : Program) (Γ : TG) (dm : Bool) (ops : Array Oper) : List Oper → AS → List (List Nat × List Nat) → (AS → List (List Nat × List Nat) → Prop) → Prop
  | [], s, tr, K => K s tr
  | o :: rest, s, tr, K => match dm, curB s.env o with
    | false, some (f, args, ts) => (match s with
      | ⟨env, res, nx, n⟩ => kCurO P Γ env res nx f args ts (fun rd => stageB ops ((rd, []) :: tr) tr.length rest = true) fun v u rd => putA ⟨env, res, nx, n⟩ o.dst v u (nx + 1024) fun s => dOps P Γ dm ops rest s ((rd, keys u) :: tr) K)
    | _, _ => guardA ops o s
      (fun s => match s with
        | ⟨env, res, nx, n⟩ => opA P Γ dm env res nx o fun v u rd => putA ⟨env, res, nx, n⟩ o.dst v u (nx + 1024) fun s => dOps P Γ dm ops rest s ((rd, keys u) :: tr) K)
      (fun s => match s with
        | ⟨env, res, nx, n⟩ => putA ⟨env, res, nx, n⟩ o.dst (.c .void) [] (nx + 1024) fun s => dOps P Γ dm ops rest s (([], []) :: tr) K)
def drawR0 (P : Program) (Γ : TG) (dm : Bool) (_id : Nat) (ops : Array Oper) (s : AS) (K : AS → Prop) : Prop :=
  dOps P Γ dm ops ops.toList s [] fun s tr => (pairsB ops 0 (zipT ops.toList tr.reverse) && edgesB 0 ops.toList) = true ∧ K s
/-- Does it slice, and look at a row of the call's own? -/
def rowB (ops : Array Oper) (env : Nat → AV) : Bool :=
  (ops.toList.any fun o => match o.op with
    | .slice .. => true
    | _ => false) && ops.toList.any fun o => match o.op with
      | .move x => (match opv env x with
        | .c (.row _) => true
        | _ => false)
      | _ => false
/-- The same operations in another order of the text: `p` tells which comes when. -/
def posOf : List Nat → Nat → Nat
  | [], _ => 0
  | a :: l, x => match Nat.beq a x with
    | true => 0
    | false => posOf l x + 1
def renO (p : List Nat) (o : Oper) : Oper := { o with after := (o.after.toList.map fun e => { e with on := posOf p e.on }).toArray, guard := o.guard.map fun g => (posOf p g.1, g.2) }
def permOps (p : List Nat) (ops : Array Oper) : Array Oper := (p.map fun i => match ops[i]? with
  | some o => renO p o
  | none => (default : Oper)).toArray
def permB (p : List Nat) (ops : Array Oper) : Bool :=
  Nat.beq p.length ops.size && ((List.range ops.size).all fun i => match p[posOf p i]? with
    | some j => Nat.beq i j
    | none => false) && (List.range ops.size).all fun k => match p[k]? with
    | some i => Nat.beq (posOf p i) k && Nat.blt i ops.size
    | none => false
/-- Is a call's first argument a pointer, moved here? -/
def srcB (ops : Array Oper) (env : Nat → AV) (x : Operand) : Bool :=
  match x with
  | .tmp t => ops.toList.any fun o => match o.op with
    | .move y => (match o.dst with
      | some d => (match Nat.beq d t with
        | true => (match opv env y with
          | .c (.ptr _ _) => true
          | _ => false)
        | false => false)
      | none => false)
    | _ => false
  | _ => false
def callB (ops : Array Oper) (env : Nat → AV) (o : Oper) : Bool :=
  match o.op with
  | .call c => (match c.callee with
    | .value (.func _) => (match c.args.toList with
      | x0 :: _ => (match o.guard with
        | none => srcB ops env x0
        | some _ => false)
      | [] => false)
    | _ => false)
  | _ => false
/-- Is there a call that moves a cursor for which what comes behind it in the text does not wait? -/
def needB (ops : Array Oper) (env : Nat → AV) : Nat → List Oper → Bool
  | _, [] => false
  | m, o :: l => (match callB ops env o with
    | true => l.any fun o' => !aftC ops o' m
    | false => false) || needB ops env (m + 1) l
/-- Does it end with a call's result kept in a box of its own? -/
def endL (ops : List Oper) : List Oper → Bool
  | [] => false
  | [o] => (match o.op with
    | .store _ (.tmp a) (.tmp v) => (ops.any fun o => match o.op with
      | .alloc _ => (match o.dst with
        | some d => Nat.beq d a
        | none => false)
      | _ => false) && (ops.any fun o => match o.op with
      | .call _ => (match o.dst with
        | some d => Nat.beq d v
        | none => false)
      | _ => false)
    | _ => false)
  | _ :: l => endL ops l
def drawR (P : Program) (Γ : TG) (dm : Bool) (id : Nat) (ops : Array Oper) (s : AS) (K : AS → Prop) : Prop :=
  match rowB ops s.env with
  | false => (match dm with
    | true => drawR0 P Γ dm id ops s K
    | false => (match needB ops s.env 0 ops.toList with
      | false => (match endL ops.toList ops.toList with
        | false => drawR0 P Γ dm id ops s K
        | true => drawR0 P Γ dm id ops s fun s => ∃ s', Le dm s s' ∧ K s')
      | true => ∃ p : List Nat, permB p ops = true ∧ drawR0 P Γ dm id (permOps p ops) s K))
  | true => ∃ s', Le dm s s' ∧ drawR0 P Γ dm id ops s' K

def dstU (o : Oper) (v : AV) : List (Nat × AV) :=
  match o.dst with
  | some d => [(d, v)]
  | none => []
def envsU : List Oper → List Rec → List (List (Nat × AV))
  | o :: l, r :: m => dstU o r.val :: envsU l m
  | _, _ => []
def GuardIs (ops : Array Oper) (o : Oper) (env : Nat → AV) (b : Bool) : Prop :=
  match o.guard with
  | none => b = true
  | some (j, want) => ∃ d, (ops[j]?).bind (·.dst) = some d ∧ ((∃ q, env d = .c (.pv (.bool q)) ∧ b = (q == want)) ∨ (env d = .c .void ∧ b = false))
structure Fact (P : Program) (dm : Bool) (ops : Array Oper) (n : Nat) (o : Oper) (r : Rec) (env : Nat → AV) (res : Res) (id : Nat) : Prop where
  guard : GuardIs ops o env r.ex
  dst : ∀ d, o.dst = some d → d < n
  yes : r.ex = true → OpS P dm o env r.rs id r.val r.u ∧ ∀ t x, (t, x) ∈ r.rs → res t = some x
  no : r.ex = false → r.val = .c .void ∧ r.u = [] ∧ r.rs = []
section
variable {P : Program} {Γ : TG} {dm : Bool} {ops : Array Oper}
theorem upd_id {α : Type} {f : Nat → α} {k : Nat} {v : α} (h : f k = v) : upd f k v = f := by
  funext x
  by_cases e : x = k
  · subst e; rw [upd_same, h]
  · rw [upd_ne _ _ e]
theorem guardA_eq {o : Oper} {env : Nat → AV} {res : Res} {nx n : Nat} {X Y : AS → Prop} (h : guardA ops o ⟨env, res, nx, n⟩ X Y) : (GuardIs ops o env true ∧ X ⟨env, res, nx, n⟩) ∨ (GuardIs ops o env false ∧ Y ⟨env, res, nx, n⟩) := by
  unfold guardA at h
  dsimp only at h
  unfold GuardIs
  split at h
  · rename_i hg
    rw [hg]
    exact .inl ⟨rfl, h⟩
  · rename_i j want hg
    rw [hg]
    split at h
    · rename_i d hd
      split at h
      · rename_i b hb
        rcases br_e h with ⟨rfl, h⟩ | ⟨rfl, h⟩ <;> cases want <;> rw [upd_id hb] at h
        · exact .inr ⟨⟨d, hd, .inl ⟨true, hb, rfl⟩⟩, h⟩
        · exact .inl ⟨⟨d, hd, .inl ⟨true, hb, rfl⟩⟩, h⟩
        · exact .inl ⟨⟨d, hd, .inl ⟨false, hb, rfl⟩⟩, h⟩
        · exact .inr ⟨⟨d, hd, .inl ⟨false, hb, rfl⟩⟩, h⟩
      · rename_i hb
        exact .inr ⟨⟨d, hd, .inr ⟨hb, rfl⟩⟩, h⟩
      · exact h.elim
    · exact h.elim
theorem putA_eq {env : Nat → AV} {res : Res} {nx0 n nx : Nat} {d : Option Tmp} {v : AV} {u : Upd} {K : AS → Prop} (h : putA ⟨env, res, nx0, n⟩ d v u nx K) (o : Oper) (ho : o.dst = d) : (∀ q, o.dst = some q → q < n) ∧ K ⟨putL env (dstU o v), putL res u, nx, n⟩ := by
  subst ho
  unfold putA at h
  dsimp only at h
  unfold dstU
  split at h
  · rename_i q hq
    split at h
    · rename_i hlt
      have h := forceU_eq (forceN_eq (K := fun nx => forceU res u fun res => K ⟨upd env q v, res, nx, n⟩) h)
      rw [updL_putL] at h
      rw [hq]
      exact ⟨fun x hx => (by cases hx; exact nblt hlt), h⟩
    · exact h.elim
  · rename_i hq
    have h := forceU_eq (forceN_eq (K := fun nx => forceU res u fun res => K ⟨env, res, nx, n⟩) h)
    rw [updL_putL] at h
    rw [hq]
    exact ⟨fun x hx => (by cases hx), h⟩
theorem hasN_mem {l : List Nat} {t : Nat} : hasN l t = true ↔ t ∈ l := by
  unfold hasN
  rw [List.any_eq_true]
  constructor
  · rintro ⟨x, hx, h⟩
    rw [← Nat.eq_of_beq_eq_true h]
    exact hx
  · intro h
    exact ⟨t, h, by simp⟩
theorem meets_of {l m : List Nat} {t : Nat} (h : t ∈ l) (h' : t ∈ m) : meets l m = true := List.any_eq_true.2 ⟨t, h, hasN_mem.2 h'⟩
theorem laterB_ok {i : Nat} {x : Oper × List Nat × List Nat} : ∀ {l : List (Oper × List Nat × List Nat)}, laterB ops i x l = true → ∀ {j : Nat} {y}, l[j]? = some y → confB ops x y = true → aftC ops y.1 i = true
  | [], _, j, y, h, _ => by simp at h
  | z :: l, h, j, y, hy, hc => by
    simp only [laterB, Bool.and_eq_true] at h
    cases j with
    | zero =>
      simp at hy
      subst hy
      have := h.1
      rw [hc] at this
      simpa using this
    | succ j => exact laterB_ok h.2 (by simpa using hy) hc
theorem pairsB_ok : ∀ {l : List (Oper × List Nat × List Nat)} {b : Nat}, pairsB ops b l = true → ∀ {i j : Nat} {x y}, i < j → l[i]? = some x → l[j]? = some y → confB ops x y = true → aftC ops y.1 (b + i) = true
  | [], _, _, i, j, x, y, _, hx, _, _ => by simp at hx
  | z :: l, b, h, i, j, x, y, hij, hx, hy, hc => by
    simp only [pairsB, Bool.and_eq_true] at h
    cases j with
    | zero => omega
    | succ j =>
      cases i with
      | zero =>
        simp at hx
        subst hx
        exact laterB_ok h.1 (by simpa using hy) hc
      | succ i =>
        have := pairsB_ok h.2 (i := i) (j := j) (by omega) (by simpa using hx) (by simpa using hy) hc
        rwa [show b + (i + 1) = b + 1 + i by omega]
theorem edgesB_ok : ∀ {l : List Oper} {b : Nat}, edgesB b l = true → ∀ {i : Nat} {o}, l[i]? = some o → (∀ e ∈ o.after, Region.binds .any e = true → e.on < b + i) ∧ ∀ j q, o.guard = some (j, q) → aft o j = true
  | [], _, _, i, o, ho => by simp at ho
  | z :: l, b, h, i, o, ho => by
    simp only [edgesB, Bool.and_eq_true, List.all_eq_true] at h
    cases i with
    | zero =>
      simp at ho
      subst ho
      refine ⟨fun e he hb => (by
        have := h.1.1 e (by simpa using he)
        rw [hb] at this
        exact nblt (by simpa using this)), fun j q hg => ?_⟩
      have := h.1.2
      rw [hg] at this
      exact this
    | succ i =>
      have := edgesB_ok h.2 (i := i) (by simpa using ho)
      refine ⟨fun e he hb => by have := this.1 e he hb; omega, this.2⟩
theorem zipT_get : ∀ {l : List Oper} {m : List (List Nat × List Nat)} {i : Nat} {o : Oper} {t : List Nat × List Nat}, l[i]? = some o → m[i]? = some t → (zipT l m)[i]? = some (o, t.1, t.2)
  | [], m, i, o, t, ho, _ => by simp at ho
  | z :: l, [], i, o, t, _, ht => by simp at ht
  | z :: l, x :: m, i, o, t, ho, ht => by
    cases i with
    | zero => simp at ho ht; subst ho ht; rfl
    | succ i => exact zipT_get (l := l) (m := m) (by simpa using ho) (by simpa using ht)
theorem envsU_get : ∀ {l : List Oper} {m : List Rec} {i : Nat} {u}, (envsU l m)[i]? = some u → ∃ o r, l[i]? = some o ∧ m[i]? = some r ∧ u = dstU o r.val
  | [], m, i, u, h => by simp [envsU] at h
  | z :: l, [], i, u, h => by simp [envsU] at h
  | z :: l, x :: m, i, u, h => by
    cases i with
    | zero => simp [envsU] at h; exact ⟨z, x, rfl, rfl, h.symm⟩
    | succ i => simpa using envsU_get (l := l) (m := m) (i := i) (by simpa [envsU] using h)
theorem envsU_at : ∀ {l : List Oper} {m : List Rec} {i : Nat} {o r}, l[i]? = some o → m[i]? = some r → (envsU l m)[i]? = some (dstU o r.val)
  | [], m, i, o, r, h, _ => by simp at h
  | z :: l, [], i, o, r, _, h => by simp at h
  | z :: l, x :: m, i, o, r, ho, hr => by
    cases i with
    | zero => simp at ho hr; subst ho hr; rfl
    | succ i => exact envsU_at (l := l) (m := m) (by simpa using ho) (by simpa using hr)
theorem keys_dstU {o : Oper} {v : AV} {t : Nat} : t ∈ keys (dstU o v) ↔ o.dst = some t := by
  unfold dstU
  split
  · rename_i d hd
    rw [hd]
    simp [keys]
    exact eq_comm
  · rename_i hd
    rw [hd]
    simp [keys]
theorem guard_wanted {o : Oper} {env : Nat → AV} {b : Bool} {g : G} {w : World} {a : Act} (hg : GuardIs ops o env b) (h : ∀ t ∈ guardT ops o, RepAV g w (env t) (a.tmps.getD t undef)) : Region.wanted o (yielded ops a.tmps) = b := by
  unfold GuardIs at hg
  unfold Region.wanted
  split at hg
  · rename_i hn
    rw [hn, hg]
  · rename_i j want hgd
    rw [hgd]
    obtain ⟨d, hd, hv⟩ := hg
    have hr := h d (by unfold guardT; rw [hgd]; simp [hd])
    show (yielded ops a.tmps j == some want) = b
    rcases hv with ⟨q, hq, rfl⟩ | ⟨hq, rfl⟩
    · rw [hq] at hr
      have hv := rep_bool hr
      have hy : yielded ops a.tmps j = some q := by
        unfold yielded
        have hlt : d < a.tmps.size := by
          rcases Nat.lt_or_ge d a.tmps.size with h1 | h1
          · exact h1
          · simp [Array.getD, Nat.not_lt.2 h1, undef] at hv
        have : a.tmps[d]? = some (.bool q) := by
          rw [Array.getD_eq_getD_getElem?, Array.getElem?_eq_getElem hlt] at hv
          rw [Array.getElem?_eq_getElem hlt]
          simpa using hv
        rw [hd]
        simp [this]
      rw [hy]
      cases q <;> cases want <;> rfl
    · rw [hq] at hr
      have hv : a.tmps.getD d undef = undef := hr
      have hy : yielded ops a.tmps j = none := by
        unfold yielded
        rw [hd]
        rw [Array.getD_eq_getD_getElem?] at hv
        cases hx : a.tmps[d]? with
        | none => simp [hx]
        | some x =>
          rw [hx] at hv
          simp at hv
          subst hv
          simp [hx, undef]
      rw [hy]
      rfl
theorem curB_eq {env : Nat → AV} {o : Oper} {f : FuncId} {args : List Operand} {ts : List TypeId} (h : curB env o = some (f, args, ts)) : ∃ cx a t, o.op = .call { callee := .value cx, args := a, argTypes := t } ∧ opv env cx = .c (.pv (.fn f)) ∧ a.toList = args ∧ o.guard = none := by
  unfold curB at h
  split at h
  · rename_i c hc
    obtain ⟨callee, ar, ty⟩ := c
    dsimp only at h
    split at h
    · split at h
      · split at h
        · split at h
          · rename_i hcx
            split at h
            · rename_i hg
              cases h
              exact ⟨_, _, _, hc, hcx, rfl, hg⟩
            · cases h
          · cases h
        · cases h
      · cases h
    · cases h
  · cases h
section
variable {α : Type}
theorem foldU_cut : ∀ {a b : List (List (Nat × α))} {i : Nat} {L : Nat → Bool} {f : Nat → α}, foldU (a ++ b) i L f = foldU b (i + a.length) L (foldU a i L f)
  | [], b, i, L, f => by simp [foldU]
  | u :: a, b, i, L, f => by
    show foldU (a ++ b) (i + 1) L _ = foldU b (i + (a.length + 1)) L (foldU a (i + 1) L _)
    rw [foldU_cut, show i + 1 + a.length = i + (a.length + 1) by omega]
theorem foldU_id {us : List (List (Nat × α))} {i : Nat} {L : Nat → Bool} {f : Nat → α} (h : ∀ k, k < us.length → L (i + k) = false) : foldU us i L f = f := by
  funext t
  exact foldU_none fun k u hu _ => h k (List.getElem?_eq_some_iff.1 hu).1
theorem foldU_same {us : List (List (Nat × α))} {i : Nat} {L L' : Nat → Bool} {f : Nat → α} (h : ∀ k, k < us.length → L (i + k) = L' (i + k)) : foldU us i L f = foldU us i L' f := by
  funext t
  exact foldU_agree (fun k u hu _ => h k (List.getElem?_eq_some_iff.1 hu).1) rfl
theorem foldU_pre {a b : List (List (Nat × α))} {L : Nat → Bool} {f : Nat → α} (h : ∀ k, a.length ≤ k → L k = false) : foldU (a ++ b) 0 L f = foldU a 0 L f := by
  rw [foldU_cut, foldU_id fun k _ => h _ (by omega)]
theorem foldU_snoc {a : List (List (Nat × α))} {u : List (Nat × α)} {f : Nat → α} : foldU (a ++ [u]) 0 (fun _ => true) f = putL (foldU a 0 (fun _ => true) f) u := by
  rw [foldU_cut]
  rfl
end
theorem envsU_app : ∀ {l : List Oper} {a b : List Rec}, a.length ≤ l.length → envsU l (a ++ b) = envsU l a ++ envsU (l.drop a.length) b
  | l, [], b, _ => by cases l <;> simp [envsU]
  | [], r :: a, b, h => by simp at h
  | o :: l, r :: a, b, h => by
    show dstU o r.val :: envsU l (a ++ b) = dstU o r.val :: envsU l a ++ _
    rw [envsU_app (by simpa using h)]
    rfl
theorem envsU_len : ∀ {l : List Oper} {a : List Rec}, a.length ≤ l.length → (envsU l a).length = a.length
  | l, [], _ => by cases l <;> rfl
  | [], r :: a, h => by simp at h
  | o :: l, r :: a, h => by
    show (envsU l a).length + 1 = a.length + 1
    rw [envsU_len (by simpa using h)]
def eE (ops : Array Oper) (env : Nat → AV) (recs : List Rec) (L : Nat → Bool) : Nat → AV := foldU (envsU ops.toList recs) 0 L env
def eR (res : Res) (recs : List Rec) (L : Nat → Bool) : Res := foldU (recs.map (·.u)) 0 L res
theorem szT : ops.toList.length = ops.size := Array.length_toList
theorem eE_pre {env : Nat → AV} {a b : List Rec} {L : Nat → Bool} (ha : a.length ≤ ops.size) (h : ∀ k, a.length ≤ k → L k = false) : eE ops env (a ++ b) L = eE ops env a L := by
  have ha' : a.length ≤ ops.toList.length := by rw [szT]; exact ha
  unfold eE
  rw [envsU_app ha', foldU_pre]
  rw [envsU_len ha']
  exact h
theorem eR_pre {res : Res} {a b : List Rec} {L : Nat → Bool} (h : ∀ k, a.length ≤ k → L k = false) : eR res (a ++ b) L = eR res a L := by
  unfold eR
  rw [List.map_append, foldU_pre]
  rw [List.length_map]
  exact h
theorem eE_same {env : Nat → AV} {a : List Rec} {L L' : Nat → Bool} (ha : a.length ≤ ops.size) (h : ∀ k, k < a.length → L k = L' k) : eE ops env a L = eE ops env a L' := by
  have ha' : a.length ≤ ops.toList.length := by rw [szT]; exact ha
  unfold eE
  refine foldU_same fun k hk => ?_
  rw [envsU_len ha'] at hk
  rw [Nat.zero_add]
  exact h k hk
theorem eR_same {res : Res} {a : List Rec} {L L' : Nat → Bool} (h : ∀ k, k < a.length → L k = L' k) : eR res a L = eR res a L' := by
  unfold eR
  refine foldU_same fun k hk => ?_
  rw [List.length_map] at hk
  rw [Nat.zero_add]
  exact h k hk
theorem eE_snoc {env : Nat → AV} {a : List Rec} {o : Oper} {r : Rec} (ho : ops[a.length]? = some o) : eE ops env (a ++ [r]) (fun _ => true) = putL (eE ops env a fun _ => true) (dstU o r.val) := by
  have hlt : a.length < ops.size := (Array.getElem?_eq_some_iff.1 ho).1
  have ha' : a.length ≤ ops.toList.length := by rw [szT]; omega
  have hd : ops.toList.drop a.length = o :: ops.toList.drop (a.length + 1) := by
    rw [List.drop_eq_getElem_cons (by rw [szT]; exact hlt)]
    congr 1
    rw [Array.getElem_toList]
    exact (Array.getElem?_eq_some_iff.1 ho).2
  unfold eE
  rw [envsU_app ha', hd, show envsU (o :: ops.toList.drop (a.length + 1)) [r] = [dstU o r.val] by cases h : ops.toList.drop (a.length + 1) <;> rfl, foldU_snoc]
theorem eR_snoc {res : Res} {a : List Rec} {r : Rec} : eR res (a ++ [r]) (fun _ => true) = putL (eR res a fun _ => true) r.u := by
  unfold eR
  rw [List.map_append, show ([r] : List Rec).map (·.u) = [r.u] from rfl, foldU_snoc]
def EdgeOk (ops : Array Oper) (i : Nat) : Prop := ∀ o, ops[i]? = some o → (∀ e ∈ o.after, Region.binds .any e = true → e.on < i) ∧ ∀ j q, o.guard = some (j, q) → aft o j = true
def ConfOk (ops : Array Oper) (recs : List Rec) : Prop := ∀ (i j : Nat) x y rx ry, i < j → ops[i]? = some x → ops[j]? = some y → recs[i]? = some rx → recs[j]? = some ry → confB ops (x, rx.rs.map Prod.fst, keys rx.u) (y, ry.rs.map Prod.fst, keys ry.u) = true → aftC ops y i = true
def FactsOk (P : Program) (dm : Bool) (ops : Array Oper) (n : Nat) (env : Nat → AV) (res : Res) (nx : Nat) (C : List Nat) (recs : List Rec) : Prop :=
  ∀ (k : Nat) o r, ops[k]? = some o → recs[k]? = some r → k ∉ C → Fact P dm ops n o r (eE ops env recs fun x => decide (x < k)) (eR res recs fun x => decide (x < k)) (nx + 1024 * k)
/-- What is known of a region so far: the records up to its end, or up to the next call that moves a cursor. -/
inductive Stage (P : Program) (dm : Bool) (ops : Array Oper) (env : Nat → AV) (res : Res) (nx n : Nat) (K : AS → Prop) : List Nat → List Rec → Prop
  | fin (C : List Nat) (recs : List Rec) (hlen : recs.length = ops.size) (hconf : ConfOk ops recs) (hedge : ∀ i, EdgeOk ops i) (hfact : FactsOk P dm ops n env res nx C recs)
      (hK : K ⟨eE ops env recs fun _ => true, eR res recs fun _ => true, nx + 1024 * ops.size, n⟩) : Stage P dm ops env res nx n K C recs
  | cur (C : List Nat) (recs : List Rec) (oc : Oper) (rsC : List (Nat × ARes)) (KK : AV → Upd → Prop) (more : AV → Upd → List Rec) (hdm : dm = false) (ho : ops[recs.length]? = some oc) (hg : oc.guard = none) (hconf : ConfOk ops recs)
      (hconfC : ∀ (i : Nat) x rx, ops[i]? = some x → recs[i]? = some rx → confB ops (x, rx.rs.map Prod.fst, keys rx.u) (oc, rsC.map Prod.fst, []) = true → aftC ops oc i = true) (hedge : ∀ i, i ≤ recs.length → EdgeOk ops i)
      (hlate : ∀ (j : Nat) o, recs.length < j → ops[j]? = some o → aftC ops o recs.length = true) (hfact : FactsOk P dm ops n env res nx C recs) (hrs : ∀ t r, (t, r) ∈ rsC → eR res recs (fun _ => true) t = some r)
      (hop : OpC P oc (eE ops env recs fun _ => true) rsC (nx + 1024 * recs.length) KK) (hd : ∀ val u, KK val u → ∀ d, oc.dst = some d → d < n)
      (next : ∀ val u, KK val u → Stage P dm ops env res nx n K (recs.length :: C) (recs ++ (⟨true, val, u, rsC⟩ :: more val u))) : Stage P dm ops env res nx n K C recs
theorem Stage.facts {env : Nat → AV} {res : Res} {nx n : Nat} {K : AS → Prop} {C : List Nat} {recs : List Rec} (h : Stage P dm ops env res nx n K C recs) : FactsOk P dm ops n env res nx C recs := by
  cases h <;> assumption
theorem Stage.conf {env : Nat → AV} {res : Res} {nx n : Nat} {K : AS → Prop} {C : List Nat} {recs : List Rec} (h : Stage P dm ops env res nx n K C recs) : ConfOk ops recs := by
  cases h <;> assumption
theorem Stage.len {env : Nat → AV} {res : Res} {nx n : Nat} {K : AS → Prop} {C : List Nat} {recs : List Rec} (h : Stage P dm ops env res nx n K C recs) : recs.length ≤ ops.size := by
  cases h with
  | fin C recs hlen => omega
  | cur C recs oc rsC KK more hdm ho => have := (Array.getElem?_eq_some_iff.1 ho).1; omega
def trOf (recs : List Rec) : List (List Nat × List Nat) := recs.map fun r => (r.rs.map Prod.fst, keys r.u)
theorem trOf_len (recs : List Rec) : (trOf recs).length = recs.length := by simp [trOf]
theorem conf_of {recs : List Rec} {m : List (List Nat × List Nat)} (h : pairsB ops 0 (zipT ops.toList (trOf recs ++ m)) = true) : ConfOk ops recs := by
  intro i j x y rx ry hij hx hy hrx hry hc
  have key : ∀ {k : Nat} {o : Oper} {r : Rec}, ops[k]? = some o → recs[k]? = some r → (zipT ops.toList (trOf recs ++ m))[k]? = some (o, r.rs.map Prod.fst, keys r.u) := by
    intro k o r ho hr
    have hk : k < recs.length := (List.getElem?_eq_some_iff.1 hr).1
    refine zipT_get (t := (r.rs.map Prod.fst, keys r.u)) (by rw [Array.getElem?_toList]; exact ho) ?_
    rw [List.getElem?_append_left (by rw [trOf_len]; exact hk)]
    unfold trOf
    rw [List.getElem?_map, hr]
    rfl
  have := pairsB_ok h hij (key hx hrx) (key hy hry) hc
  rwa [Nat.zero_add] at this
theorem confC_of {recs : List Rec} {oc : Oper} {rd : List Nat} (ho : ops[recs.length]? = some oc) (h : pairsB ops 0 (zipT ops.toList (trOf recs ++ [(rd, [])])) = true) :
    ∀ (i : Nat) x rx, ops[i]? = some x → recs[i]? = some rx → confB ops (x, rx.rs.map Prod.fst, keys rx.u) (oc, rd, []) = true → aftC ops oc i = true := by
  intro i x rx hx hrx hc
  have hk : i < recs.length := (List.getElem?_eq_some_iff.1 hrx).1
  have h1 : (zipT ops.toList (trOf recs ++ [(rd, [])]))[i]? = some (x, rx.rs.map Prod.fst, keys rx.u) := by
    refine zipT_get (t := (rx.rs.map Prod.fst, keys rx.u)) (by rw [Array.getElem?_toList]; exact hx) ?_
    rw [List.getElem?_append_left (by rw [trOf_len]; exact hk)]
    unfold trOf
    rw [List.getElem?_map, hrx]
    rfl
  have h2 : (zipT ops.toList (trOf recs ++ [(rd, [])]))[recs.length]? = some (oc, rd, []) := by
    refine zipT_get (t := (rd, [])) (by rw [Array.getElem?_toList]; exact ho) ?_
    rw [List.getElem?_append_right (by rw [trOf_len]; omega), trOf_len]
    simp
  have := pairsB_ok h hk h1 h2 hc
  rwa [Nat.zero_add] at this
theorem edge_of {l : List Oper} (h : edgesB 0 l = true) (hl : ∀ i o, ops[i]? = some o → i < l.length → l[i]? = some o) {i : Nat} (hi : i < l.length) : EdgeOk ops i := by
  intro o ho
  have := edgesB_ok h (hl i o ho hi)
  rwa [Nat.zero_add] at this
/-- The records of a walk in the text's order, in stages. -/
theorem dOps_stage (hΓ : TGOk P Γ) {env : Nat → AV} {res : Res} {nx n : Nat} {K : AS → Prop} : ∀ {l : List Oper} {recs : List Rec} {C : List Nat}, ops.toList.drop recs.length = l → recs.length + l.length = ops.size → FactsOk P dm ops n env res nx C recs →
    dOps P Γ dm ops l ⟨eE ops env recs fun _ => true, eR res recs fun _ => true, nx + 1024 * recs.length, n⟩ (trOf recs).reverse (fun s tr => (pairsB ops 0 (zipT ops.toList tr.reverse) && edgesB 0 ops.toList) = true ∧ K s) →
    ∃ more, Stage P dm ops env res nx n K C (recs ++ more)
  | [], recs, C, hdr, hlen, hF, h => by
    simp only [dOps, List.reverse_reverse, Bool.and_eq_true] at h
    have hl : recs.length = ops.size := by simpa using hlen
    refine ⟨[], ?_⟩
    rw [List.append_nil]
    refine .fin C recs hl (conf_of (m := []) (by rw [List.append_nil]; exact h.1.1)) (fun i => ?_) hF (by rw [← hl]; exact h.2)
    rcases Nat.lt_or_ge i ops.size with hi | hi
    · exact edge_of h.1.2 (fun i o ho _ => by rw [Array.getElem?_toList]; exact ho) (by rw [szT]; exact hi)
    · intro o ho
      rw [Array.getElem?_eq_none hi] at ho
      cases ho
  | o :: l, recs, C, hdr, hlen, hF, h => by
    have hms : recs.length < ops.size := by simp at hlen; omega
    have ho : ops[recs.length]? = some o := by
      have h1 : (ops.toList.drop recs.length)[0]? = some o := by rw [hdr]; rfl
      rw [List.getElem?_drop, Nat.add_zero, Array.getElem?_toList] at h1
      exact h1
    have hdr2 : ∀ r : Rec, ops.toList.drop (recs ++ [r]).length = l := by
      intro r
      rw [List.length_append, show [r].length = 1 from rfl, ← List.drop_drop, hdr]
      rfl
    have hlen2 : ∀ r : Rec, (recs ++ [r]).length + l.length = ops.size := by
      intro r
      rw [List.length_append]
      simp at hlen ⊢
      omega
    -- facts of one more
    have hfm : ∀ (r : Rec) (C' : List Nat), (∀ c, c ∈ C → c ∈ C') → (recs.length ∉ C' → Fact P dm ops n o r (eE ops env recs fun _ => true) (eR res recs fun _ => true) (nx + 1024 * recs.length)) → FactsOk P dm ops n env res nx C' (recs ++ [r]) := by
      intro r C' hC hf k o' r' ho' hr' hk
      have e0 : ∀ k', k' ≤ recs.length → eE ops env (recs ++ [r]) (fun x => decide (x < k')) = eE ops env recs (fun x => decide (x < k')) ∧ eR res (recs ++ [r]) (fun x => decide (x < k')) = eR res recs (fun x => decide (x < k')) := fun k' hk' =>
        ⟨eE_pre (by omega) (fun x hx => by simp; omega), eR_pre (fun x hx => by simp; omega)⟩
      rcases Nat.lt_trichotomy k recs.length with hk2 | hk2 | hk2
      · rw [List.getElem?_append_left hk2] at hr'
        rw [(e0 k (by omega)).1, (e0 k (by omega)).2]
        exact hF k o' r' ho' hr' fun hc => hk (hC k hc)
      · subst hk2
        rw [List.getElem?_append_right (Nat.le_refl _), Nat.sub_self] at hr'
        simp at hr'
        subst hr'
        rw [ho] at ho'
        cases ho'
        rw [(e0 _ (Nat.le_refl _)).1, (e0 _ (Nat.le_refl _)).2, eE_same (L' := fun _ => true) (by omega) (fun x hx => by simp; exact hx), eR_same (L' := fun _ => true) (fun x hx => by simp; exact hx)]
        exact hf hk
      · rw [List.getElem?_eq_none (by simp; omega)] at hr'
        cases hr'
    have hnx : nx + 1024 * (recs.length + 1) = nx + 1024 * recs.length + 1024 := by omega
    have htr : ∀ r : Rec, (trOf (recs ++ [r])).reverse = (r.rs.map Prod.fst, keys r.u) :: (trOf recs).reverse := by
      intro r
      simp [trOf]
    -- the rest, behind this one
    have rest : ∀ (r : Rec) (C' : List Nat), FactsOk P dm ops n env res nx C' (recs ++ [r]) → dOps P Γ dm ops l ⟨putL (eE ops env recs fun _ => true) (dstU o r.val), putL (eR res recs fun _ => true) r.u, nx + 1024 * recs.length + 1024, n⟩ ((r.rs.map Prod.fst, keys r.u) :: (trOf recs).reverse) (fun s tr => (pairsB ops 0 (zipT ops.toList tr.reverse) && edgesB 0 ops.toList) = true ∧ K s) →
        ∃ more, Stage P dm ops env res nx n K C' (recs ++ (r :: more)) := by
      intro r C' hF' h
      obtain ⟨more, hst⟩ := dOps_stage hΓ (hdr2 r) (hlen2 r) hF' (by
        rw [eE_snoc ho, eR_snoc, htr, List.length_append, show [r].length = 1 from rfl, hnx]
        exact h)
      exact ⟨more, by simpa using hst⟩
    simp only [dOps] at h
    split at h
    · rename_i f args ts hcb
      obtain ⟨cx, ar, ty, hoc, hcx, rfl, hg⟩ := curB_eq hcb
      obtain ⟨rsC, hchk, hrs, hop⟩ := opC_cur ts hoc hcx h
      simp only [stageB, Bool.and_eq_true, List.reverse_cons, List.reverse_reverse] at hchk
      obtain ⟨⟨hpairs, hedges⟩, hlate⟩ := hchk
      have hput : ∀ val u, putA ⟨eE ops env recs fun _ => true, eR res recs fun _ => true, nx + 1024 * recs.length, n⟩ o.dst val u (nx + 1024 * recs.length + 1024) (fun s => dOps P Γ false ops l s ((rsC.map Prod.fst, keys u) :: (trOf recs).reverse) (fun s tr => (pairsB ops 0 (zipT ops.toList tr.reverse) && edgesB 0 ops.toList) = true ∧ K s)) →
          ∃ more, Stage P false ops env res nx n K (recs.length :: C) (recs ++ (⟨true, val, u, rsC⟩ :: more)) := fun val u h => by
        obtain ⟨_, h⟩ := putA_eq h o rfl
        exact rest ⟨true, val, u, rsC⟩ (recs.length :: C) (hfm _ _ (fun c hc => List.mem_cons_of_mem _ hc) fun hn => absurd (List.mem_cons_self ..) hn) h
      refine ⟨[], ?_⟩
      rw [List.append_nil]
      refine .cur C recs o rsC _ (fun val u => @dite _ (putA ⟨eE ops env recs fun _ => true, eR res recs fun _ => true, nx + 1024 * recs.length, n⟩ o.dst val u (nx + 1024 * recs.length + 1024) (fun s => dOps P Γ false ops l s ((rsC.map Prod.fst, keys u) :: (trOf recs).reverse) (fun s tr => (pairsB ops 0 (zipT ops.toList tr.reverse) && edgesB 0 ops.toList) = true ∧ K s))) (Classical.propDecidable _) (fun hk => (hput val u hk).choose) fun _ => []) rfl ho hg (conf_of hpairs) (confC_of ho hpairs) (fun i hi => ?_) (fun j o' hj ho' => ?_) hF hrs hop (fun val u hk => (putA_eq hk o rfl).1) (fun val u hk => ?_)
      · refine edge_of hedges (fun i o ho hi => ?_) (by rw [List.length_take, szT, List.length_reverse, trOf_len]; omega)
        rw [List.getElem?_take_of_lt (by rw [List.length_take] at hi; omega), Array.getElem?_toList]
        exact ho
      · unfold lateB at hlate
        rw [List.all_eq_true] at hlate
        have hmem : o' ∈ l := by
          have h1 : (ops.toList.drop recs.length)[j - recs.length]? = some o' := by
            rw [List.getElem?_drop, show recs.length + (j - recs.length) = j by omega, Array.getElem?_toList]
            exact ho'
          rw [hdr] at h1
          obtain ⟨q, hq⟩ : ∃ q, j - recs.length = q + 1 := ⟨j - recs.length - 1, by omega⟩
          rw [hq, List.getElem?_cons_succ] at h1
          exact List.mem_of_getElem? h1
        have := hlate o' hmem
        simpa [trOf_len] using this
      · rw [dif_pos hk]
        exact (hput val u hk).choose_spec
    · rcases guardA_eq h with ⟨hg, h⟩ | ⟨hg, h⟩
      · obtain ⟨val, u, rs, hop, hrs, h⟩ := opA_good hΓ h
        obtain ⟨hd, h⟩ := putA_eq h o rfl
        obtain ⟨more, hst⟩ := rest ⟨true, val, u, rs⟩ C (hfm _ _ (fun c hc => hc) fun _ => ⟨hg, hd, fun _ => ⟨hop, hrs⟩, fun h => by cases h⟩) h
        exact ⟨_, hst⟩
      · obtain ⟨hd, h⟩ := putA_eq h o rfl
        obtain ⟨more, hst⟩ := rest ⟨false, .c .void, [], []⟩ C (hfm _ _ (fun c hc => hc) fun _ => ⟨hg, hd, fun h => (by cases h), fun _ => ⟨rfl, rfl, rfl⟩⟩) h
        exact ⟨_, hst⟩
end
end Go.Vi
