/- A region that draws its order: the rule. -/
import Derived.Test.YtieenbofbfkhpaaViP
set_option linter.unusedVariables false
set_option linter.unusedSimpArgs false
namespace Go.Vi
open Go.RowKit
structure Rec where
  ex : Bool
  val : AV
  u : Upd
  rs : List (Nat × ARes)
/-- The text's order; what each operation read and wrote is noted. -/
def dOps (P : Program) (Γ : TG) (dm : Bool) (ops : Array Oper) : List Oper → AS → List (List Nat × List Nat) → (AS → List (List Nat × List Nat) → Prop) → Prop
  | [], s, tr, K => K s tr
  | o :: rest, s, tr, K => guardA ops o s
    (fun s => match s with
      | ⟨env, res, nx, n⟩ => opA P Γ dm env res nx o fun v u rd => putA ⟨env, res, nx, n⟩ o.dst v u (nx + 1024) fun s => dOps P Γ dm ops rest s ((rd, keys u) :: tr) K)
    (fun s => match s with
      | ⟨env, res, nx, n⟩ => putA ⟨env, res, nx, n⟩ o.dst (.c .void) [] (nx + 1024) fun s => dOps P Γ dm ops rest s (([], []) :: tr) K)
def aft (o : Oper) (i : Nat) : Bool := o.after.toList.any fun e => Nat.beq e.on i && Region.binds .any e
/-- As `aft`, also by way of another. -/
def stepB (ops : Array Oper) (F : Oper → Nat → Bool) (o : Oper) (i : Nat) : Bool := aft o i || o.after.toList.any fun e => Region.binds .any e && (match ops[e.on]? with | some p => F p i | none => false)
def aftC (ops : Array Oper) : Oper → Nat → Bool := stepB ops (stepB ops aft)
def tmpOf : Operand → Option Nat
  | .tmp t => some t
  | _ => none
def guardT (ops : Array Oper) (o : Oper) : List Nat :=
  match o.guard with
  | some (j, _) => ((ops[j]?).bind (·.dst)).toList
  | none => []
def looks (ops : Array Oper) (o : Oper) : List Nat := o.op.operands.toList.filterMap tmpOf ++ guardT ops o
def hasN (l : List Nat) (t : Nat) : Bool := l.any fun x => Nat.beq x t
def meets (l m : List Nat) : Bool := l.any fun x => hasN m x
/-- Do the two act on each other? -/
def confB (ops : Array Oper) (x y : Oper × List Nat × List Nat) : Bool :=
  meets x.1.dst.toList (looks ops y.1 ++ y.1.dst.toList) || meets y.1.dst.toList (looks ops x.1) || meets x.2.2 (y.2.1 ++ y.2.2) || meets y.2.2 x.2.1
def laterB (ops : Array Oper) (i : Nat) (x : Oper × List Nat × List Nat) : List (Oper × List Nat × List Nat) → Bool
  | [] => true
  | y :: l => (!confB ops x y || aftC ops y.1 i) && laterB ops i x l
def pairsB (ops : Array Oper) : Nat → List (Oper × List Nat × List Nat) → Bool
  | _, [] => true
  | i, x :: l => laterB ops i x l && pairsB ops (i + 1) l
/-- Edges go back; a guard is waited for. -/
def edgesB : Nat → List Oper → Bool
  | _, [] => true
  | i, o :: l => ((o.after.toList.all fun e => Nat.blt e.on i || !Region.binds .any e) && (match o.guard with | some (j, _) => aft o j | none => true)) && edgesB (i + 1) l
def zipT : List Oper → List (List Nat × List Nat) → List (Oper × List Nat × List Nat)
  | o :: l, t :: m => (o, t.1, t.2) :: zipT l m
  | _, _ => []
def drawR0 (P : Program) (Γ : TG) (dm : Bool) (_id : Nat) (ops : Array Oper) (s : AS) (K : AS → Prop) : Prop :=
  dOps P Γ dm ops ops.toList s [] fun s tr => (pairsB ops 0 (zipT ops.toList tr.reverse) && edgesB 0 ops.toList) = true ∧ K s
/-- Does it slice, and look at a row of the call's own? -/
def rowB (ops : Array Oper) (env : Nat → AV) : Bool :=
  (ops.toList.any fun o => match o.op with
    | .slice .. => true
    | _ => false) && ops.toList.any fun o => match o.op with
      | .move x => (match opv env x with
        | .c (.row _) => true
        | _ => false)
      | _ => false
def drawR (P : Program) (Γ : TG) (dm : Bool) (id : Nat) (ops : Array Oper) (s : AS) (K : AS → Prop) : Prop :=
  match rowB ops s.env with
  | false => drawR0 P Γ dm id ops s K
  | true => ∃ s', Le dm s s' ∧ drawR0 P Γ dm id ops s' K

def dstU (o : Oper) (v : AV) : List (Nat × AV) :=
  match o.dst with
  | some d => [(d, v)]
  | none => []
def envsU : List Oper → List Rec → List (List (Nat × AV))
  | o :: l, r :: m => dstU o r.val :: envsU l m
  | _, _ => []
def GuardIs (ops : Array Oper) (o : Oper) (env : Nat → AV) (b : Bool) : Prop :=
  match o.guard with
  | none => b = true
  | some (j, want) => ∃ d, (ops[j]?).bind (·.dst) = some d ∧ ((∃ q, env d = .c (.pv (.bool q)) ∧ b = (q == want)) ∨ (env d = .c .void ∧ b = false))
structure Fact (P : Program) (dm : Bool) (ops : Array Oper) (n : Nat) (o : Oper) (r : Rec) (env : Nat → AV) (res : Res) (id : Nat) : Prop where
  guard : GuardIs ops o env r.ex
  dst : ∀ d, o.dst = some d → d < n
  yes : r.ex = true → OpS P dm o env r.rs id r.val r.u ∧ ∀ t x, (t, x) ∈ r.rs → res t = some x
  no : r.ex = false → r.val = .c .void ∧ r.u = [] ∧ r.rs = []
section
variable {P : Program} {Γ : TG} {dm : Bool} {ops : Array Oper}
theorem upd_id {α : Type} {f : Nat → α} {k : Nat} {v : α} (h : f k = v) : upd f k v = f := by
  funext x
  by_cases e : x = k
  · subst e; rw [upd_same, h]
  · rw [upd_ne _ _ e]
theorem guardA_eq {o : Oper} {env : Nat → AV} {res : Res} {nx n : Nat} {X Y : AS → Prop} (h : guardA ops o ⟨env, res, nx, n⟩ X Y) : (GuardIs ops o env true ∧ X ⟨env, res, nx, n⟩) ∨ (GuardIs ops o env false ∧ Y ⟨env, res, nx, n⟩) := by
  unfold guardA at h
  dsimp only at h
  unfold GuardIs
  split at h
  · rename_i hg
    rw [hg]
    exact .inl ⟨rfl, h⟩
  · rename_i j want hg
    rw [hg]
    split at h
    · rename_i d hd
      split at h
      · rename_i b hb
        rcases br_e h with ⟨rfl, h⟩ | ⟨rfl, h⟩ <;> cases want <;> rw [upd_id hb] at h
        · exact .inr ⟨⟨d, hd, .inl ⟨true, hb, rfl⟩⟩, h⟩
        · exact .inl ⟨⟨d, hd, .inl ⟨true, hb, rfl⟩⟩, h⟩
        · exact .inl ⟨⟨d, hd, .inl ⟨false, hb, rfl⟩⟩, h⟩
        · exact .inr ⟨⟨d, hd, .inl ⟨false, hb, rfl⟩⟩, h⟩
      · rename_i hb
        exact .inr ⟨⟨d, hd, .inr ⟨hb, rfl⟩⟩, h⟩
      · exact h.elim
    · exact h.elim
theorem putA_eq {env : Nat → AV} {res : Res} {nx0 n nx : Nat} {d : Option Tmp} {v : AV} {u : Upd} {K : AS → Prop} (h : putA ⟨env, res, nx0, n⟩ d v u nx K) (o : Oper) (ho : o.dst = d) : (∀ q, o.dst = some q → q < n) ∧ K ⟨putL env (dstU o v), putL res u, nx, n⟩ := by
  subst ho
  unfold putA at h
  dsimp only at h
  unfold dstU
  split at h
  · rename_i q hq
    split at h
    · rename_i hlt
      have h := forceU_eq (forceN_eq (K := fun nx => forceU res u fun res => K ⟨upd env q v, res, nx, n⟩) h)
      rw [updL_putL] at h
      rw [hq]
      exact ⟨fun x hx => (by cases hx; exact nblt hlt), h⟩
    · exact h.elim
  · rename_i hq
    have h := forceU_eq (forceN_eq (K := fun nx => forceU res u fun res => K ⟨env, res, nx, n⟩) h)
    rw [updL_putL] at h
    rw [hq]
    exact ⟨fun x hx => (by cases hx), h⟩
/-- The records of a walk in the text's order. -/
theorem dOps_eq (hΓ : TGOk P Γ) : ∀ {l : List Oper} {env : Nat → AV} {res : Res} {nx n : Nat} {tr : List (List Nat × List Nat)} {K : AS → List (List Nat × List Nat) → Prop}, dOps P Γ dm ops l ⟨env, res, nx, n⟩ tr K →
    ∃ recs : List Rec, recs.length = l.length ∧ K ⟨foldU (envsU l recs) 0 (fun _ => true) env, foldU (recs.map (·.u)) 0 (fun _ => true) res, nx + 1024 * l.length, n⟩ ((recs.map fun r => (r.rs.map Prod.fst, keys r.u)).reverse ++ tr) ∧
      ∀ (k : Nat) o r, l[k]? = some o → recs[k]? = some r → Fact P dm ops n o r (foldU (envsU l recs) 0 (fun x => decide (x < k)) env) (foldU (recs.map (·.u)) 0 (fun x => decide (x < k)) res) (nx + 1024 * k)
  | [], env, res, nx, n, tr, K, h => by
    simp only [dOps] at h
    exact ⟨[], rfl, by simpa [envsU, foldU] using h, by simp⟩
  | o :: l, env, res, nx, n, tr, K, h => by
    simp only [dOps] at h
    -- the rest, behind this one
    have rest : ∀ (r : Rec), Fact P dm ops n o r env res nx → dOps P Γ dm ops l ⟨putL env (dstU o r.val), putL res r.u, nx + 1024, n⟩ ((r.rs.map Prod.fst, keys r.u) :: tr) K →
        ∃ recs : List Rec, recs.length = (o :: l).length ∧ K ⟨foldU (envsU (o :: l) recs) 0 (fun _ => true) env, foldU (recs.map (·.u)) 0 (fun _ => true) res, nx + 1024 * (o :: l).length, n⟩ ((recs.map fun r => (r.rs.map Prod.fst, keys r.u)).reverse ++ tr) ∧
          ∀ (k : Nat) o' r, (o :: l)[k]? = some o' → recs[k]? = some r → Fact P dm ops n o' r (foldU (envsU (o :: l) recs) 0 (fun x => decide (x < k)) env) (foldU (recs.map (·.u)) 0 (fun x => decide (x < k)) res) (nx + 1024 * k) := by
      intro r hf h
      obtain ⟨recs, hl, hK, hfact⟩ := dOps_eq hΓ h
      have shift : ∀ {α : Type} (us : List (List (Nat × α))) (L : Nat → Bool) (f : Nat → α), foldU us 1 (fun x => L (x - 1)) f = foldU us 0 L f := by
        intro α us L f
        funext t
        have : ∀ (us : List (List (Nat × α))) (i : Nat) (f : Nat → α), foldU us (i + 1) (fun x => L (x - 1)) f t = foldU us i L f t := by
          intro us
          induction us with
          | nil => intro i f; rfl
          | cons u us ih => intro i f; exact ih (i + 1) _
        exact this us 0 f
      refine ⟨r :: recs, by simp [hl], ?_, fun k o' r' ho hr => ?_⟩
      · have e1 : foldU (envsU (o :: l) (r :: recs)) 0 (fun _ => true) env = foldU (envsU l recs) 0 (fun _ => true) (putL env (dstU o r.val)) := by
          show foldU (envsU l recs) 1 (fun _ => true) (putL env (dstU o r.val)) = _
          exact shift _ (fun _ => true) _
        have e2 : foldU ((r :: recs).map (·.u)) 0 (fun _ => true) res = foldU (recs.map (·.u)) 0 (fun _ => true) (putL res r.u) := by
          show foldU (recs.map (·.u)) 1 (fun _ => true) (putL res r.u) = _
          exact shift _ (fun _ => true) _
        rw [e1, e2]
        have e3 : nx + 1024 * (o :: l).length = nx + 1024 + 1024 * l.length := by simp; omega
        rw [e3]
        simpa using hK
      · cases k with
        | zero =>
          simp at ho hr
          subst ho hr
          have e1 : foldU (envsU (o :: l) (r :: recs)) 0 (fun x => decide (x < 0)) env = env := by
            funext t
            exact foldU_none (fun k u _ _ => by simp)
          have e2 : foldU ((r :: recs).map (·.u)) 0 (fun x => decide (x < 0)) res = res := by
            funext t
            exact foldU_none (fun k u _ _ => by simp)
          rw [e1, e2]
          exact hf
        | succ k =>
          have hfk := hfact k o' r' (by simpa using ho) (by simpa using hr)
          have e0 : (fun x => decide (x < k + 1)) = (fun x => if x = 0 then true else decide (x - 1 < k)) := by
            funext x
            cases x with
            | zero => simp
            | succ x => simp
          have e1 : foldU (envsU (o :: l) (r :: recs)) 0 (fun x => decide (x < k + 1)) env = foldU (envsU l recs) 0 (fun x => decide (x < k)) (putL env (dstU o r.val)) := by
            show foldU (envsU l recs) 1 _ (if decide (0 < k + 1) = true then putL env (dstU o r.val) else env) = _
            rw [if_pos (by simp), ← shift]
            funext t
            exact foldU_agree (fun j u _ _ => by simp; omega) rfl
          have e2 : foldU ((r :: recs).map (·.u)) 0 (fun x => decide (x < k + 1)) res = foldU (recs.map (·.u)) 0 (fun x => decide (x < k)) (putL res r.u) := by
            show foldU (recs.map (·.u)) 1 _ (if decide (0 < k + 1) = true then putL res r.u else res) = _
            rw [if_pos (by simp), ← shift]
            funext t
            exact foldU_agree (fun j u _ _ => by simp; omega) rfl
          rw [e1, e2, show nx + 1024 * (k + 1) = nx + 1024 + 1024 * k by omega]
          exact hfk
    rcases guardA_eq h with ⟨hg, h⟩ | ⟨hg, h⟩
    · obtain ⟨val, u, rs, hop, hrs, h⟩ := opA_good hΓ h
      obtain ⟨hd, h⟩ := putA_eq h o rfl
      exact rest ⟨true, val, u, rs⟩ ⟨hg, hd, fun _ => ⟨hop, hrs⟩, fun h => by cases h⟩ h
    · obtain ⟨hd, h⟩ := putA_eq h o rfl
      exact rest ⟨false, .c .void, [], []⟩ ⟨hg, hd, fun h => (by cases h), fun _ => ⟨rfl, rfl, rfl⟩⟩ h
theorem hasN_mem {l : List Nat} {t : Nat} : hasN l t = true ↔ t ∈ l := by
  unfold hasN
  rw [List.any_eq_true]
  constructor
  · rintro ⟨x, hx, h⟩
    rw [← Nat.eq_of_beq_eq_true h]
    exact hx
  · intro h
    exact ⟨t, h, by simp⟩
theorem meets_of {l m : List Nat} {t : Nat} (h : t ∈ l) (h' : t ∈ m) : meets l m = true := List.any_eq_true.2 ⟨t, h, hasN_mem.2 h'⟩
theorem laterB_ok {i : Nat} {x : Oper × List Nat × List Nat} : ∀ {l : List (Oper × List Nat × List Nat)}, laterB ops i x l = true → ∀ {j : Nat} {y}, l[j]? = some y → confB ops x y = true → aftC ops y.1 i = true
  | [], _, j, y, h, _ => by simp at h
  | z :: l, h, j, y, hy, hc => by
    simp only [laterB, Bool.and_eq_true] at h
    cases j with
    | zero =>
      simp at hy
      subst hy
      have := h.1
      rw [hc] at this
      simpa using this
    | succ j => exact laterB_ok h.2 (by simpa using hy) hc
theorem pairsB_ok : ∀ {l : List (Oper × List Nat × List Nat)} {b : Nat}, pairsB ops b l = true → ∀ {i j : Nat} {x y}, i < j → l[i]? = some x → l[j]? = some y → confB ops x y = true → aftC ops y.1 (b + i) = true
  | [], _, _, i, j, x, y, _, hx, _, _ => by simp at hx
  | z :: l, b, h, i, j, x, y, hij, hx, hy, hc => by
    simp only [pairsB, Bool.and_eq_true] at h
    cases j with
    | zero => omega
    | succ j =>
      cases i with
      | zero =>
        simp at hx
        subst hx
        exact laterB_ok h.1 (by simpa using hy) hc
      | succ i =>
        have := pairsB_ok h.2 (i := i) (j := j) (by omega) (by simpa using hx) (by simpa using hy) hc
        rwa [show b + (i + 1) = b + 1 + i by omega]
theorem edgesB_ok : ∀ {l : List Oper} {b : Nat}, edgesB b l = true → ∀ {i : Nat} {o}, l[i]? = some o → (∀ e ∈ o.after, Region.binds .any e = true → e.on < b + i) ∧ ∀ j q, o.guard = some (j, q) → aft o j = true
  | [], _, _, i, o, ho => by simp at ho
  | z :: l, b, h, i, o, ho => by
    simp only [edgesB, Bool.and_eq_true, List.all_eq_true] at h
    cases i with
    | zero =>
      simp at ho
      subst ho
      refine ⟨fun e he hb => (by
        have := h.1.1 e (by simpa using he)
        rw [hb] at this
        exact nblt (by simpa using this)), fun j q hg => ?_⟩
      have := h.1.2
      rw [hg] at this
      exact this
    | succ i =>
      have := edgesB_ok h.2 (i := i) (by simpa using ho)
      refine ⟨fun e he hb => by have := this.1 e he hb; omega, this.2⟩
theorem zipT_get : ∀ {l : List Oper} {m : List (List Nat × List Nat)} {i : Nat} {o : Oper} {t : List Nat × List Nat}, l[i]? = some o → m[i]? = some t → (zipT l m)[i]? = some (o, t.1, t.2)
  | [], m, i, o, t, ho, _ => by simp at ho
  | z :: l, [], i, o, t, _, ht => by simp at ht
  | z :: l, x :: m, i, o, t, ho, ht => by
    cases i with
    | zero => simp at ho ht; subst ho ht; rfl
    | succ i => exact zipT_get (l := l) (m := m) (by simpa using ho) (by simpa using ht)
theorem envsU_get : ∀ {l : List Oper} {m : List Rec} {i : Nat} {u}, (envsU l m)[i]? = some u → ∃ o r, l[i]? = some o ∧ m[i]? = some r ∧ u = dstU o r.val
  | [], m, i, u, h => by simp [envsU] at h
  | z :: l, [], i, u, h => by simp [envsU] at h
  | z :: l, x :: m, i, u, h => by
    cases i with
    | zero => simp [envsU] at h; exact ⟨z, x, rfl, rfl, h.symm⟩
    | succ i => simpa using envsU_get (l := l) (m := m) (i := i) (by simpa [envsU] using h)
theorem envsU_at : ∀ {l : List Oper} {m : List Rec} {i : Nat} {o r}, l[i]? = some o → m[i]? = some r → (envsU l m)[i]? = some (dstU o r.val)
  | [], m, i, o, r, h, _ => by simp at h
  | z :: l, [], i, o, r, _, h => by simp at h
  | z :: l, x :: m, i, o, r, ho, hr => by
    cases i with
    | zero => simp at ho hr; subst ho hr; rfl
    | succ i => exact envsU_at (l := l) (m := m) (by simpa using ho) (by simpa using hr)
theorem keys_dstU {o : Oper} {v : AV} {t : Nat} : t ∈ keys (dstU o v) ↔ o.dst = some t := by
  unfold dstU
  split
  · rename_i d hd
    rw [hd]
    simp [keys]
    exact eq_comm
  · rename_i hd
    rw [hd]
    simp [keys]
theorem guard_wanted {o : Oper} {env : Nat → AV} {b : Bool} {g : G} {w : World} {a : Act} (hg : GuardIs ops o env b) (h : ∀ t ∈ guardT ops o, RepAV g w (env t) (a.tmps.getD t undef)) : Region.wanted o (yielded ops a.tmps) = b := by
  unfold GuardIs at hg
  unfold Region.wanted
  split at hg
  · rename_i hn
    rw [hn, hg]
  · rename_i j want hgd
    rw [hgd]
    obtain ⟨d, hd, hv⟩ := hg
    have hr := h d (by unfold guardT; rw [hgd]; simp [hd])
    show (yielded ops a.tmps j == some want) = b
    rcases hv with ⟨q, hq, rfl⟩ | ⟨hq, rfl⟩
    · rw [hq] at hr
      have hv := rep_bool hr
      have hy : yielded ops a.tmps j = some q := by
        unfold yielded
        have hlt : d < a.tmps.size := by
          rcases Nat.lt_or_ge d a.tmps.size with h1 | h1
          · exact h1
          · simp [Array.getD, Nat.not_lt.2 h1, undef] at hv
        have : a.tmps[d]? = some (.bool q) := by
          rw [Array.getD_eq_getD_getElem?, Array.getElem?_eq_getElem hlt] at hv
          rw [Array.getElem?_eq_getElem hlt]
          simpa using hv
        rw [hd]
        simp [this]
      rw [hy]
      cases q <;> cases want <;> rfl
    · rw [hq] at hr
      have hv : a.tmps.getD d undef = undef := hr
      have hy : yielded ops a.tmps j = none := by
        unfold yielded
        rw [hd]
        rw [Array.getD_eq_getD_getElem?] at hv
        cases hx : a.tmps[d]? with
        | none => simp [hx]
        | some x =>
          rw [hx] at hv
          simp at hv
          subst hv
          simp [hx, undef]
      rw [hy]
      rfl
end
end Go.Vi
