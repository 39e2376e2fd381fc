/- The interpreter: operations, code, functions. Sound for every run. -/
import Derived.Test.YtnpcgheojijpjaaViTk
set_option linter.unusedVariables false
set_option linter.unusedSimpArgs false
namespace Go.Vi
open Go.RowKit
/-- The mark of a function that takes elements out of its rows: two slots that no other state has so. -/
def takeM (env : Nat → AV) : Bool :=
  match env 999999 with
  | .c .undef => (match env 999998 with
    | .c .void => true
    | _ => false)
  | _ => false
/-- Another one: an element that is taken out leaves the rest frozen. -/
def takeB (env : Nat → AV) : Bool :=
  match env 999999 with
  | .c .void => (match env 999998 with
    | .c .undef => true
    | _ => false)
  | _ => false
def opA (P : Program) (Γ : TG) (dm : Bool) (env : Nat → AV) (res : Res) (id : Nat) (o : Oper) (K : KT) : Prop :=
  match o.op with
  | .move x => kMove Γ env o.type x K
  | .assign x => kMove Γ env o.type x K
  | .pick c a b => kPick env c a b K
  | .alloc t => kAlloc Γ id t K
  | .box _ x => kBox env id x K
  | .load t x => (match takeM env with
    | true => kTake Γ dm env res id t x K
    | false => (match takeB env with
      | true => kLoose Γ dm env res id t x K
      | false => kLoad Γ dm env res t x K))
  | .store t x y => kStoreR Γ dm env res t x y K
  | .fieldAddr t x f => kField Γ env t x f K
  | .nilCheck x => kNil env x K
  | .indexAddr t x i => kIndex Γ env res t x i K
  | .binOp op t x y _ => (match eqErr env x y with
    | some b => kEqE P op t b K
    | none => (match eqAgg env x y with
      | some (n, r) => kEqS P op t n r K
      | none => kBin Γ env res op t x y K))
  | .unOp op _ x => kUn env op x K
  | .convert s t x => kConvR Γ env res id s t x K
  | .index t x i => kIndexS Γ env t x i K
  | .makeFunc fn first caps => kMakeFn env fn first.toList caps.toList K
  | .extract x i => kExtract env x i K
  | .build t ps => kBuild Γ env t ps.toList K
  | .buildSlice t n ps => kBuildS Γ dm env res id t n ps.toList K
  | .makeSlice t x y => kMake Γ dm env id t x y K
  | .slice t x lo hi mx => kSlice Γ dm env res id t x lo hi mx K
  | .call c => (match c.callee with
    | .builtin .len => (match c.args.toList, c.argTypes.toList with
      | [x], [t] => kLen Γ env res t x K
      | _, _ => False)
    | .builtin .cap => (match c.args.toList, c.argTypes.toList with
      | [x], [t] => kCap Γ env t x K
      | _, _ => False)
    | .builtin .min => (match c.args.toList with
      | [x, y] => kMin env x y K
      | _ => False)
    | .builtin .append => (match c.args.toList, c.argTypes.toList with
      | [s, x], [t, t'] => (match Nat.beq t t' with
        | true => kAppend Γ dm env res id t s x K
        | false => (match strT Γ t' with
          | true => kAppend Γ dm env res id t s x K
          | false => kAppendZ Γ dm env id t t' s x K))
      | _, _ => False)
    | .value x => (match opv env x with
      | .c (.clo f caps) => kCallC P Γ env res id f caps c.args.toList c.argTypes.toList K
      | .c (.pv (.fn f)) => (match dm with
        | false => (match passArg env c.args.toList with
          | none => kCall P Γ env res id f c.args.toList c.argTypes.toList K
          | some _ => kCall P Γ env res id f c.args.toList c.argTypes.toList K ∨ kPass P env f c.args.toList K)
        | true => kCall P Γ env res id f c.args.toList c.argTypes.toList K ∨ kMark P Γ true env res f c.args.toList c.argTypes.toList K)
      | _ => False)
    | _ => False)
  | _ => False
theorem arr1 {α : Type} {a : Array α} {l : List α} (h : a.toList = l) : a = l.toArray := by rw [← h]
section
variable {P : Program} {Γ : TG} {dm : Bool} {env : Nat → AV} {res : Res} {id : Nat}
theorem opA_good (hΓ : TGOk P Γ) {o : Oper} {K : KT} (h : opA P Γ dm env res id o K) : Good P dm o env res id K := by
  unfold opA at h
  split at h
  case h_1 x ho => exact good_move (.inl ho) h
  case h_2 x ho => exact good_move (.inr ho) h
  case h_3 c a b ho => exact good_pick ho h
  case h_4 t ho => exact good_alloc hΓ ho h
  case h_5 t x ho => exact good_box ho h
  case h_6 t x ho =>
    split at h
    · exact good_take hΓ ho h
    · split at h
      · exact good_loose hΓ ho h
      · exact good_load hΓ ho h
  case h_7 t x y ho => exact good_storeR hΓ ho h
  case h_8 t x f ho => exact good_field hΓ ho h
  case h_9 x ho => exact good_nil ho h
  case h_10 t x i ho => exact good_index hΓ ho h
  case h_11 op t x y t' ho =>
    split at h
    · rename_i ha; exact good_eqE ho ha h
    · split at h
      · rename_i ha; exact good_eqS ho ha h
      · exact good_bin hΓ ho h
  case h_12 op t x ho => exact good_un ho h
  case h_13 s t x ho => exact good_convR hΓ ho h
  case h_14 t x i ho => exact good_indexS hΓ ho h
  case h_15 fn first caps ho => exact good_makeFn ho h
  case h_16 x i ho => exact good_extract ho h
  case h_17 t ps ho => exact good_build hΓ ho h
  case h_18 t n ps ho => exact good_buildS hΓ ho h
  case h_19 t x y ho => exact good_make hΓ ho h
  case h_20 t x lo hi mx ho => exact good_slice hΓ ho h
  case h_21 c ho =>
    obtain ⟨callee, args, ts⟩ := c
    dsimp only at h
    split at h
    · split at h
      · rename_i x t ha ht
        have ha := arr1 ha
        have ht := arr1 ht
        subst ha ht
        exact good_len hΓ ho h
      · exact h.elim
    · split at h
      · rename_i x t ha ht
        have ha := arr1 ha
        have ht := arr1 ht
        subst ha ht
        exact good_cap hΓ ho h
      · exact h.elim
    · split at h
      · rename_i x y ha
        have ha := arr1 ha
        subst ha
        exact good_min ho h
      · exact h.elim
    · split at h
      · rename_i s x t t' ha ht
        split at h
        · rename_i hb
          have := Nat.eq_of_beq_eq_true hb
          subst this
          have ha := arr1 ha
          have ht := arr1 ht
          subst ha ht
          exact good_append hΓ (.inl rfl) ho h
        · have ha := arr1 ha
          have ht := arr1 ht
          subst ha ht
          split at h
          · rename_i hst
            exact good_append hΓ (.inr (strT_ok hΓ hst)) ho h
          · exact good_appendZ hΓ ho h
      · exact h.elim
    · split at h
      · rename_i x f caps hf
        exact good_callC ho hf h
      · rename_i x f hf
        split at h
        · split at h
          · exact good_call ho hf h
          · rcases h with h | h
            · exact good_call ho hf h
            · exact good_pass ho hf h
        · rcases h with h | h
          · exact good_call ho hf h
          · exact good_mark ho hf h
      · exact h.elim
    · exact h.elim
  case h_22 => exact h.elim
end

/-! ### Code -/
structure AS where
  env : Nat → AV
  res : Res
  next : Nat
  n : Nat
inductive AX where
  | normal
  | exit (id : Nat)
  | ret
/-- Numbers and updates in their plain form. -/
def forceN : Nat → (Nat → Prop) → Prop
  | 0, K => K 0
  | n + 1, K => K (n + 1)
theorem forceN_eq {n : Nat} {K : Nat → Prop} (h : forceN n K) : K n := by cases n <;> exact h
def forceU (res : Res) : Upd → (Res → Prop) → Prop
  | [], K => K res
  | (t, r) :: l, K => forceU (upd res t r) l K
theorem forceU_eq : ∀ {u : Upd} {res : Res} {K : Res → Prop}, forceU res u K → K (updL res u)
  | [], _, _, h => h
  | (t, r) :: l, res, K, h => forceU_eq (u := l) h
def putA (s : AS) (d : Option Tmp) (v : AV) (u : Upd) (nx : Nat) (K : AS → Prop) : Prop :=
  match s with
  | ⟨env, res, _, n⟩ => match d with
    | some d => (match Nat.blt d n with
      | true => forceN nx fun nx => forceU res u fun res => K ⟨upd env d v, res, nx, n⟩
      | false => False)
    | none => forceN nx fun nx => forceU res u fun res => K ⟨env, res, nx, n⟩
/-- An operation under a guard: it is carried out, or it is not. -/
def guardA (ops : Array Oper) (o : Oper) (s : AS) (X Y : AS → Prop) : Prop :=
  match s with
  | ⟨env, res, nx, n⟩ => match o.guard with
    | none => X ⟨env, res, nx, n⟩
    | some (j, want) => match (ops[j]?).bind (·.dst) with
      | some d => (match env d with
        | .c (.pv (.bool b)) => br b
          (match want with
            | true => X ⟨upd env d (.c (.pv (.bool true))), res, nx, n⟩
            | false => Y ⟨upd env d (.c (.pv (.bool true))), res, nx, n⟩)
          (match want with
            | true => Y ⟨upd env d (.c (.pv (.bool false))), res, nx, n⟩
            | false => X ⟨upd env d (.c (.pv (.bool false))), res, nx, n⟩)
        | .c .void => Y ⟨env, res, nx, n⟩
        | _ => False)
      | none => False
/-- A state of a run. -/
structure Sim (dm : Bool) (w0 : Base) (s : AS) (g : G) (w : World) (a : Act) : Prop where
  mod : Models dm w0 g s.res w
  env : ∀ t, RepAV g w (s.env t) (a.tmps.getD t undef)
  size : a.tmps.size = s.n
  defers : a.defers = []
  next : ∀ x, g.U x → x < s.next
  pin : dm = true → ∀ t v, w0.pin t = some v → g.U t ∧ g.σ t = v
  pinF : ∀ t F, w0.pinF t = some F → g.fr t = F
/-- A test of a slice for nil: what it tells is not known of an empty one. -/
def nilS (env : Nat → AV) (op : BinOp) (t : TypeId) (x y : Operand) : Option (TypeId × List (List PV) × Bool) :=
  match op with
  | .eql => (match opv env y with
    | .c (.nil _) => (match opv env x with
      | .c (.pv (.sl _ xs)) => some (t, xs, false)
      | _ => none)
    | _ => none)
  | .neq => (match opv env y with
    | .c (.nil _) => (match opv env x with
      | .c (.pv (.sl _ xs)) => some (t, xs, true)
      | _ => none)
    | _ => none)
  | _ => none
def nilB (env : Nat → AV) (o : Oper) : Option (TypeId × List (List PV) × Bool) :=
  match o.op with
  | .binOp op t x y _ => (match o.guard with
    | none => nilS env op t x y
    | some _ => none)
  | _ => none
def memN (f : Nat) : List Nat → Bool
  | [] => false
  | a :: l => bif Nat.beq a f then true else memN f l
def inlB (il : List Nat) (o : Oper) : Option (FuncId × List Operand) :=
  match o.op with
  | .call c => (match c.callee with
    | .value x => (match x with
      | .func f => (match memN f il with
        | true => some (f, c.args.toList)
        | false => none)
      | _ => none)
    | _ => none)
  | _ => none
/-- A call whose function is run in its place: it begins in the state in which it is called. -/
structure InlA (P : Program) (dm : Bool) (env : Nat → AV) (res : Res) (nx n : Nat) (f : FuncId) (args : List Operand) (dst : Option Tmp) (K : AS → Prop) : Prop where
  enter : Enters P f
  run : ∀ (w0 : Base) (g : G) (w : World) (a : Act), Sim dm w0 ⟨env, res, nx, n⟩ g w a → Calls P f (args.map a.eval).toArray w fun e w' => ∃ v s' g', e = .returned v ∧ Sim dm w0 s' g' w' (a.put dst v) ∧ K s'
/-- One operation: what is left is told by 'ih', which may pass over some. -/
def opStep (P : Program) (Γ : TG) (dm : Bool) (il : List Nat) (ops : Array Oper) (o : Oper) (rest : List Oper) (ih : Nat → AS → (AS → Prop) → Prop) (sk : Nat) (s : AS) (K : AS → Prop) : Prop :=
  match sk with
  | n + 1 => ih n s K
  | 0 => match triB dm s.env o with
    | none => (match nilB s.env o with
      | none => guardA ops o s
        (fun s => match s with
          | ⟨env, res, nx, n⟩ => match inlB il o with
            | none => opA P Γ dm env res nx o fun v u _ => putA ⟨env, res, nx, n⟩ o.dst v u (nx + 1024) fun s => ih 0 s K
            | some (f, args) => InlA P dm env res nx n f args o.dst fun s => ih 0 s K)
        (fun s => match s with
          | ⟨env, res, nx, n⟩ => putA ⟨env, res, nx, n⟩ o.dst (.c .void) [] nx fun s => ih 0 s K)
      | some (t, xs, neg) => (∃ ti e, Γ t = some ti ∧ ti.elem = some e) ∧ ∀ b : Bool, (b = true → xs = []) → putA s o.dst (.c (.pv (.bool (neg != b)))) [] s.next fun s => ih 0 s K)
    | some (tk, sz, i, j) => match rest with
      | o2 :: o3 :: _ => (match s with
        | ⟨env, res, nx, n⟩ => triA P Γ env res n tk sz i j o o2 o3 fun env res => ih 2 ⟨env, res, nx, n⟩ K)
      | _ => False
noncomputable def opsR (P : Program) (Γ : TG) (dm : Bool) (il : List Nat) (ops : Array Oper) (l : List Oper) : Nat → AS → (AS → Prop) → Prop :=
  List.rec (motive := fun _ => Nat → AS → (AS → Prop) → Prop) (fun _ s K => K s) (fun o rest ih sk s K => opStep P Γ dm il ops o rest ih sk s K) l
noncomputable def opsA (P : Program) (Γ : TG) (dm : Bool) (il : List Nat) (ops : Array Oper) (l : List Oper) (s : AS) (K : AS → Prop) : Prop := opsR P Γ dm il ops l 0 s K
theorem opsA_cons (P : Program) (Γ : TG) (dm : Bool) (il : List Nat) (ops : Array Oper) (o : Oper) (rest : List Oper) (s : AS) (K : AS → Prop) : opsA P Γ dm il ops (o :: rest) s K = match triB dm s.env o with
    | none => (match nilB s.env o with
      | none => guardA ops o s
        (fun s => match s with
          | ⟨env, res, nx, n⟩ => match inlB il o with
            | none => opA P Γ dm env res nx o fun v u _ => putA ⟨env, res, nx, n⟩ o.dst v u (nx + 1024) fun s => opsA P Γ dm il ops rest s K
            | some (f, args) => InlA P dm env res nx n f args o.dst fun s => opsA P Γ dm il ops rest s K)
        (fun s => match s with
          | ⟨env, res, nx, n⟩ => putA ⟨env, res, nx, n⟩ o.dst (.c .void) [] nx fun s => opsA P Γ dm il ops rest s K)
      | some (t, xs, neg) => (∃ ti e, Γ t = some ti ∧ ti.elem = some e) ∧ ∀ b : Bool, (b = true → xs = []) → putA s o.dst (.c (.pv (.bool (neg != b)))) [] s.next fun s => opsA P Γ dm il ops rest s K)
    | some (tk, sz, i, j) => match rest with
      | o2 :: o3 :: rest2 => (match s with
        | ⟨env, res, nx, n⟩ => triA P Γ env res n tk sz i j o o2 o3 fun env res => opsA P Γ dm il ops rest2 ⟨env, res, nx, n⟩ K)
      | _ => False := by
  cases rest with
  | nil => rfl
  | cons o2 l => cases l with
    | nil => rfl
    | cons o3 l => rfl
def Le (dm : Bool) (s s' : AS) : Prop := ∀ (w0 : Base) (g : G) (w : World) (a : Act), Sim dm w0 s g w a → ∃ g', Sim dm w0 s' g' w a
structure LoopA (dm : Bool) (body : AS → (AX → AS → Prop) → Prop) (s : AS) (K : AX → AS → Prop) : Prop where
  out : ∃ (ι : Type) (sh : ι → AS) (inv : ι → Prop) (μ : ι → Nat), (∃ i, inv i ∧ Le dm s (sh i)) ∧
    ∀ i, inv i → body (sh i) fun e s' => match e with
      | .normal => ∃ i', (inv i' ∧ μ i' < μ i) ∧ Le dm s' (sh i')
      | .exit j => K (.exit j) s'
      | .ret => K .ret s'
/-- A region that draws its order: told apart (ViN). -/
def DrawA (P : Program) (Γ : TG) (dm : Bool) (id : Nat) (ops : Array Oper) (s : AS) (K : AS → Prop) : Prop :=
  ∀ (w0 : Base) (g : G) (w : World) (a : Act) (Q : Exit → Act → World → Prop), Sim dm w0 s g w a → (∀ (s' : AS) (g' : G) (w' : World) (a' : Act), Sim dm w0 s' g' w' a' → K s' → Q .normal a' w') → (Code.region id ops true).wp P Q a w
abbrev CK := AS → (AX → AS → Prop) → Prop
def regA (P : Program) (Γ : TG) (dm : Bool) (il : List Nat) (draw : Nat → Array Oper → AS → (AS → Prop) → Prop) (id : Nat) (ops : Array Oper) (d : Bool) (s : AS) (K : AX → AS → Prop) : Prop :=
  match d with
  | false => opsA P Γ dm il ops ops.toList s (K .normal)
  | true => draw id ops s (K .normal)
def seqA (x y : CK) (s : AS) (K : AX → AS → Prop) : Prop := x s fun e s => match e with
  | .normal => y s K
  | .exit i => K (.exit i) s
  | .ret => K .ret s
def condA (c : Operand) (x y : CK) (s : AS) (K : AX → AS → Prop) : Prop :=
  match opv s.env c with
  | .c (.pv (.bool b)) => br b (x s K) (y s K)
  | _ => False
def blockA (id : Nat) (x : CK) (s : AS) (K : AX → AS → Prop) : Prop := x s fun e s => match e with
  | .exit i => (match Nat.beq i id with
    | true => K .normal s
    | false => K (.exit i) s)
  | .normal => K .normal s
  | .ret => K .ret s
noncomputable def codeA (P : Program) (Γ : TG) (dm : Bool) (il : List Nat) (draw : Nat → Array Oper → AS → (AS → Prop) → Prop) (c : Code) : CK :=
  Code.rec (motive := fun _ => CK)
    (fun s K => K .normal s)
    (fun id ops d s K => regA P Γ dm il draw id ops d s K)
    (fun _ _ x y s K => seqA x y s K)
    (fun c _ _ x y s K => condA c x y s K)
    (fun id _ x s K => blockA id x s K)
    (fun _ x s K => LoopA dm x s K)
    (fun _ _ _ _ _ _ _ _ => False)
    (fun id s K => K (.exit id) s)
    (fun _ _ _ _ => False)
    (fun _ _ _ => False)
    (fun _ _ _ => False)
    (fun s K => K .ret s)
    (fun _ _ _ => False)
    c
def AX.toExit : AX → Exit
  | .normal => .normal
  | .exit i => .exit i
  | .ret => .ret
section
variable {P : Program} {Γ : TG} {dm : Bool}
theorem getD_set_same {a : Array Value} {d : Nat} {v : Value} (h : d < a.size) : (a.setIfInBounds d v).getD d undef = v := by simp [Array.getD, h]
theorem getD_set_ne {a : Array Value} {d t : Nat} {v : Value} (h : t ≠ d) : (a.setIfInBounds d v).getD t undef = a.getD t undef := by
  simp only [Array.getD_eq_getD_getElem?]
  rw [Array.getElem?_setIfInBounds_ne (Ne.symm h)]
theorem Sim.eval {w0 : Base} {s : AS} {g : G} {w : World} {a : Act} (h : Sim dm w0 s g w a) (x : Operand) : RepAV g w (opv s.env x) (a.eval x) := by
  cases x with
  | tmp t => exact h.env t
  | const v => exact constC_rep g w v
  | func f => exact .fn f
  | global n => trivial
theorem Sim.put {w0 : Base} {s : AS} {g g' : G} {w w' : World} {a : Act} (h : Sim dm w0 s g w a) {d : Option Tmp} {v : AV} {u : Upd} {nx : Nat} {K : AS → Prop} (hk : putA s d v u nx K) {x : Value} (hM : Models dm w0 g' (updL s.res u) w') (e : Evo g g' w w')
    (hr : RepAV g' w' v x) (hn : ∀ t, g'.U t → t < nx) : ∃ s', K s' ∧ Sim dm w0 s' g' w' (a.put d x) := by
  obtain ⟨env, res, nx0, n⟩ := s
  unfold putA at hk
  dsimp only at hk
  split at hk
  · rename_i d
    split at hk
    · rename_i hd
      have hk := forceU_eq (forceN_eq (K := fun nx => forceU res u fun res => K ⟨upd env d v, res, nx, n⟩) hk)
      have hd : d < a.tmps.size := by rw [h.size]; exact Nat.le_of_ble_eq_true hd
      refine ⟨_, hk, hM, fun t => ?_, by simp only [Act.put]; rw [Array.size_setIfInBounds]; exact h.size, h.defers, hn, fun hd t v hp => ⟨e.u t (h.pin hd t v hp).1, (e.σ t (h.pin hd t v hp).1).trans (h.pin hd t v hp).2⟩, fun t F hF => by rw [e.fr]; exact h.pinF t F hF⟩
      by_cases ht : t = d
      · subst ht
        show RepAV g' w' (upd env t v t) ((a.tmps.setIfInBounds t x).getD t undef)
        rw [upd_same, getD_set_same hd]
        exact hr
      · show RepAV g' w' (upd env d v t) ((a.tmps.setIfInBounds d x).getD t undef)
        rw [upd_ne _ _ ht, getD_set_ne ht]
        exact (h.env t).evo e
    · exact hk.elim
  · have hk := forceU_eq (forceN_eq (K := fun nx => forceU res u fun res => K ⟨env, res, nx, n⟩) hk)
    exact ⟨_, hk, hM, fun t => (h.env t).evo e, h.size, h.defers, hn, fun hd t v hp => ⟨e.u t (h.pin hd t v hp).1, (e.σ t (h.pin hd t v hp).1).trans (h.pin hd t v hp).2⟩, fun t F hF => by rw [e.fr]; exact h.pinF t F hF⟩
/-- A guard, in a run. -/
theorem guard_run {w0 : Base} {ops : Array Oper} {o : Oper} {s : AS} {g : G} {w : World} {a : Act} {X Y : AS → Prop} (h : Sim dm w0 s g w a) (hg : guardA ops o s X Y) :
    (Region.wanted o (yielded ops a.tmps) = true ∧ ∃ s', X s' ∧ Sim dm w0 s' g w a ∧ s'.n = s.n ∧ s'.res = s.res ∧ s'.next = s.next) ∨ (Region.wanted o (yielded ops a.tmps) = false ∧ ∃ s', Y s' ∧ Sim dm w0 s' g w a ∧ s'.n = s.n ∧ s'.res = s.res ∧ s'.next = s.next) := by
  obtain ⟨env, res, nx, n⟩ := s
  unfold guardA at hg
  dsimp only at hg
  split at hg
  · rename_i hn
    exact .inl ⟨by simp [Region.wanted, hn], _, hg, h, rfl, rfl, rfl⟩
  · rename_i j want hgd
    split at hg
    · rename_i d hd
      split at hg
      · rename_i b hb
        have hv : a.tmps.getD d undef = .bool b := by
          have h0 : RepAV g w (env d) (a.tmps.getD d undef) := h.env d
          rw [hb] at h0
          exact rep_bool h0
        have hlt : d < a.tmps.size := by
          rcases Nat.lt_or_ge d a.tmps.size with h1 | h1
          · exact h1
          · simp [Array.getD, Nat.not_lt.2 h1, undef] at hv
        have hy : yielded ops a.tmps j = some b := by
          unfold yielded
          have : a.tmps[d]? = some (.bool b) := by
            rw [Array.getD_eq_getD_getElem?] at hv
            rw [Array.getElem?_eq_getElem hlt] at hv ⊢
            simpa using hv
          rw [hd]
          simp [this]
        have hS : ∀ b', b' = b → Sim dm w0 ⟨upd env d (.c (.pv (.bool b'))), res, nx, n⟩ g w a := by
          intro b' hb'
          subst hb'
          refine ⟨h.mod, fun t => ?_, h.size, h.defers, h.next, h.pin, h.pinF⟩
          by_cases ht : t = d
          · subst ht
            show RepAV g w (upd env t _ t) _
            rw [upd_same, hv]
            exact rav (.bool _)
          · show RepAV g w (upd env d _ t) _
            rw [upd_ne _ _ ht]
            exact h.env t
        rcases br_e hg with ⟨rfl, hg⟩ | ⟨rfl, hg⟩ <;> cases want
        · exact .inr ⟨by simp [Region.wanted, hgd, hy], _, hg, hS _ rfl, rfl, rfl, rfl⟩
        · exact .inl ⟨by simp [Region.wanted, hgd, hy], _, hg, hS _ rfl, rfl, rfl, rfl⟩
        · exact .inl ⟨by simp [Region.wanted, hgd, hy], _, hg, hS _ rfl, rfl, rfl, rfl⟩
        · exact .inr ⟨by simp [Region.wanted, hgd, hy], _, hg, hS _ rfl, rfl, rfl, rfl⟩
      · rename_i hb
        have hv : a.tmps.getD d undef = undef := by
          have h0 : RepAV g w (env d) (a.tmps.getD d undef) := h.env d
          rw [hb] at h0
          exact h0
        have hy : yielded ops a.tmps j = none := by
          unfold yielded
          rw [hd]
          rw [Array.getD_eq_getD_getElem?] at hv
          cases hq : a.tmps[d]? with
          | none => simp [hq]
          | some x =>
            rw [hq] at hv
            simp at hv
            subst hv
            simp [hq, undef]
        exact .inr ⟨by simp [Region.wanted, hgd, hy], _, hg, h, rfl, rfl, rfl⟩
      · exact hg.elim
    · exact hg.elim
theorem inlB_eq {il : List Nat} {o : Oper} {f : FuncId} {args : List Operand} (h : inlB il o = some (f, args)) : ∃ c, o.op = .call c ∧ c.callee = .value (.func f) ∧ c.args.toList = args := by
  unfold inlB at h
  split at h
  · rename_i c hc
    split at h
    · rename_i x hx
      split at h
      · rename_i f'
        split at h
        · cases h
          exact ⟨c, hc, hx, rfl⟩
        · cases h
      · cases h
    · cases h
  · cases h
theorem nilS_eq {env : Nat → AV} {op : BinOp} {t t' : TypeId} {x y : Operand} {xs : List (List PV)} {neg : Bool} (h : nilS env op t x y = some (t', xs, neg)) : t' = t ∧ (op = .eql ∧ neg = false ∨ op = .neq ∧ neg = true) ∧ (∃ s, opv env y = .c (.nil s)) ∧ ∃ s, opv env x = .c (.pv (.sl s xs)) := by
  unfold nilS at h
  split at h <;> (try (cases h; done)) <;>
  · split at h
    · rename_i s hy
      split at h
      · rename_i s2 xs2 hx
        cases h
        exact ⟨rfl, by simp, ⟨_, hy⟩, ⟨_, hx⟩⟩
      · cases h
    · cases h
theorem nil_run (hΓ : TGOk P Γ) {w0 : Base} {s : AS} {g : G} {w : World} {a : Act} {o : Oper} {t : TypeId} {ti : TI} {e : TypeId} {xs : List (List PV)} {neg : Bool} (ht : Γ t = some ti) (he : ti.elem = some e) (h : nilB s.env o = some (t, xs, neg)) (hS : Sim dm w0 s g w a) :
    ∃ b : Bool, (b = true → xs = []) ∧ o.guard = none ∧ (execOp a.eval o).run P w = .ok (.value (.bool (neg != b))) w := by
  unfold nilB at h
  split at h
  · rename_i op t0 x y t1 ho
    split at h
    · rename_i hg
      obtain ⟨rfl, hop, ⟨s1, hy⟩, ⟨s2, hx⟩⟩ := nilS_eq h
      have h1 := hS.eval x
      rw [hx] at h1
      have h2 := hS.eval y
      rw [hy] at h2
      have h2 : a.eval y = .slice none 0 0 := h2
      obtain ⟨d, hd, _, hel, _⟩ := (hΓ t ti ht).desc
      rw [hel e he] at hd
      have h1 : Rep w g.S (.sl s2 xs) (a.eval x) := h1
      generalize hv : a.eval x = v at h1
      cases h1 with
      | sl _ _ A c us hc hm hz hA hr =>
        refine ⟨A.isNone, fun hb => ?_, hg, ?_⟩
        · rcases Nat.eq_zero_or_pos xs.length with h0 | h0
          · exact List.length_eq_zero_iff.1 h0
          · obtain ⟨b, q, hAe, _⟩ := hA (by intro e; rw [e] at h0; simp at h0)
            rw [hAe] at hb
            simp at hb
        · have hq : ∀ W : World, (Op.equal t (.slice A xs.length c) (.slice none 0 0)).run P W = .ok A.isNone W := by
            intro W
            have hu : ∀ W : World, (Go.underlying t).run P W = .ok (.slice e) W := fun W => run_underlying hd W
            unfold Op.equal
            rw [show Op.maxDepth = (Op.maxDepth - 1) + 1 from rfl]
            unfold Op.equalIn
            rw [Sem.run_bind, hu]
            cases A <;> simp
          have hgd : (eqGuard op t x y (.slice A xs.length c) (.slice none 0 0)).run P w = .ok () w := by
            rcases hop with ⟨rfl, _⟩ | ⟨rfl, _⟩ <;> simp [eqGuard]
          rcases hop with ⟨rfl, rfl⟩ | ⟨rfl, rfl⟩
          · simp [execOp, ho, hv, h2, hgd, binOp, hq]
          · simp [execOp, ho, hv, h2, hgd, binOp, hq]
    · cases h
  · cases h
theorem opsA_sound (hΓ : TGOk P Γ) {il : List Nat} {ops : Array Oper} {w0 : Base} {Q : Exit → Act → World → Prop} : ∀ {l : List Oper} {s : AS} {K : AS → Prop} {g : G} {w : World} {a : Act}, opsA P Γ dm il ops l s K → Sim dm w0 s g w a →
    (∀ (s' : AS) (g' : G) (w' : World) (a' : Act), Sim dm w0 s' g' w' a' → K s' → Q .normal a' w') → wpList P ops Q l a w
  | [], s, K, g, w, a, h, hS, hQ => hQ s g w a hS h
  | o :: rest, s, K, g, w, a, h, hS, hQ => by
    rw [opsA_cons] at h
    split at h
    · split at h
      · unfold wpList
        rcases guard_run hS h with ⟨hw, s', h, hS', _⟩ | ⟨hw, s', h, hS', _⟩ <;> obtain ⟨env, res, nx, n⟩ := s'
        · rw [if_pos hw]
          dsimp only at h
          split at h
          · obtain ⟨val, u, rs, hop, hrs, hK⟩ := opA_good hΓ h
            refine .inl (hop w0 g res w a hS'.mod (fun x _ => hS'.eval x) hrs (fun x h1 h2 h3 => by have h9 : x < nx := hS'.next x h3; omega) _ _ fun v w' hp => ?_)
            obtain ⟨g', hM', e, hr, hU⟩ := hp
            obtain ⟨s2, hK2, hS2⟩ := hS'.put hK hM' e hr (fun t ht => by
              rcases hU t ht with h1 | h1
              · have h9 : t < nx := hS'.next t h1; show t < nx + 1024; omega
              · show t < nx + 1024; omega)
            exact opsA_sound hΓ hK2 hS2 hQ
          · rename_i f args hi
            obtain ⟨hE, hI⟩ := h
            obtain ⟨c, ho, hc, ha⟩ := inlB_eq hi
            obtain ⟨fn, hf, hname, hbody⟩ := hE.enter
            have hrun : (execOp a.eval o).run P w = .ok (.enter f (args.map a.eval).toArray) w := by
              have hn : fn.body.isNone = false := by cases hb : fn.body <;> simp_all
              simp only [execOp, ho, hc, resolve, invoke, Act.eval, Deferred.ofValue, callFunc, Sem.run_bind, Sem.run_pure, Result.andThen_ok, program, Sem.run, hf, hname, hn]
              simp [← ha]
              apply Array.ext'
              simp
            refine .inl ?_
            unfold Oper.wp
            rw [hrun, Oper.upon_enter]
            refine (hI w0 g w a hS').mono fun e w' hp => ?_
            obtain ⟨v, s2, g2, rfl, hS2, hK2⟩ := hp
            exact opsA_sound hΓ hK2 hS2 hQ
        · rw [if_neg (by simp [hw])]
          obtain ⟨s2, hK2, hS2⟩ := hS'.put h (x := undef) (g' := g) (w' := w) hS'.mod (Evo.refl _ _) rfl hS'.next
          exact opsA_sound hΓ hK2 hS2 hQ
      · rename_i t xs neg hnil
        obtain ⟨⟨ti, e, ht, he⟩, h⟩ := h
        obtain ⟨b, hb, hg, hrun⟩ := nil_run hΓ ht he hnil hS
        unfold wpList
        rw [if_pos (wanted_none hg _)]
        refine .inl ?_
        unfold Oper.wp
        rw [hrun, Oper.upon_value]
        obtain ⟨s2, hK2, hS2⟩ := hS.put (h b hb) (x := .bool (neg != b)) (g' := g) (w' := w) hS.mod (Evo.refl _ _) (rav (.bool _)) hS.next
        exact opsA_sound hΓ hK2 hS2 hQ
    · rename_i tk sz i j htri
      obtain ⟨env, res, nx, n⟩ := s
      have hdm : dm = true := by
        cases dm with
        | true => rfl
        | false => simp [triB] at htri
      have htri' : triB true env o = some (tk, sz, i, j) := by rw [← hdm]; exact htri
      have hM1 : Models true w0 g res w := by rw [← hdm]; exact hS.mod
      split at h
      · rename_i o2 o3 rest2
        refine tri_sound hΓ htri' h hM1 hS.env hS.size hS.defers fun env' res' g' w' a' hK hM' he' hsz' hdf' ev hU => ?_
        have hM2 : Models dm w0 g' res' w' := by rw [hdm]; exact hM'
        exact opsA_sound hΓ hK ⟨hM2, he', hsz', hdf', fun x hx => hS.next x ((hU x).1 hx), fun hd t v hp => ⟨ev.u t (hS.pin hd t v hp).1, (ev.σ t (hS.pin hd t v hp).1).trans (hS.pin hd t v hp).2⟩, fun t F hF => by rw [ev.fr]; exact hS.pinF t F hF⟩ hQ
      · exact h.elim
theorem least {p : Nat → Prop} (h : ∃ n, p n) : ∃ n, p n ∧ ∀ k, p k → n ≤ k := by
  obtain ⟨n, hn⟩ := h
  induction n using Nat.strongRecOn with
  | _ n ih =>
    by_cases h : ∃ k, k < n ∧ p k
    · obtain ⟨k, hk, hp⟩ := h
      exact ih k hk hp
    · exact ⟨n, hn, fun k hk => Nat.le_of_not_lt fun hlt => h ⟨k, hlt, hk⟩⟩
def DrawOk (P : Program) (Γ : TG) (dm : Bool) (draw : Nat → Array Oper → AS → (AS → Prop) → Prop) : Prop := ∀ id ops s K, draw id ops s K → DrawA P Γ dm id ops s K
theorem codeA_sound (hΓ : TGOk P Γ) {il : List Nat} {draw : Nat → Array Oper → AS → (AS → Prop) → Prop} (hdraw : DrawOk P Γ dm draw) {w0 : Base} : ∀ (c : Code) {Q : Exit → Act → World → Prop} {s : AS} {K : AX → AS → Prop} {g : G} {w : World} {a : Act}, codeA P Γ dm il draw c s K → Sim dm w0 s g w a →
    (∀ (e : AX) (s' : AS) (g' : G) (w' : World) (a' : Act), Sim dm w0 s' g' w' a' → K e s' → Q e.toExit a' w') → c.wp P Q a w := by
  intro c
  induction c with
  | skip => intro Q s K g w a h hS hQ; exact wp_skip (hQ .normal s g w a hS h)
  | region id ops d =>
    intro Q s K g w a h hS hQ
    cases d with
    | false => exact wp_region_list (opsA_sound hΓ h hS fun s' g' w' a' hS' hK => hQ .normal s' g' w' a' hS' hK)
    | true => exact hdraw id ops s _ h w0 g w a Q hS fun s' g' w' a' hS' hK => hQ .normal s' g' w' a' hS' hK
  | seq x y ihx ihy =>
    intro Q s K g w a h hS hQ
    refine wp_seq (ihx h hS fun e s' g' w' a' hS' hK => ?_)
    cases e with
    | normal => exact ihy hK hS' hQ
    | exit i => exact hQ (.exit i) s' g' w' a' hS' hK
    | ret => exact hQ .ret s' g' w' a' hS' hK
  | cond c x y ihx ihy =>
    intro Q s K g w a h hS hQ
    have h : condA c (codeA P Γ dm il draw x) (codeA P Γ dm il draw y) s K := h
    unfold condA at h
    split at h
    · rename_i b hb
      have hc := hS.eval c
      rw [hb] at hc
      have hc := rep_bool hc
      rcases br_e h with ⟨rfl, h⟩ | ⟨rfl, h⟩
      · exact wp_cond hc (ihx h hS hQ)
      · exact wp_cond hc (ihy h hS hQ)
    · exact h.elim
  | block id body ih =>
    intro Q s K g w a h hS hQ
    refine wp_block (ih h hS fun e s' g' w' a' hS' hK => ?_)
    cases e with
    | normal => exact hQ .normal s' g' w' a' hS' hK
    | exit i =>
      show if i = id then Q .normal a' w' else Q (.exit i) a' w'
      by_cases hi : i = id
      · rw [if_pos hi]
        subst hi
        simp at hK
        exact hQ .normal s' g' w' a' hS' hK
      · rw [if_neg hi]
        have hb : Nat.beq i id = false := by
          cases hb : Nat.beq i id with
          | false => rfl
          | true => exact absurd (Nat.eq_of_beq_eq_true hb) hi
        simp only [hb] at hK
        exact hQ (.exit i) s' g' w' a' hS' hK
    | ret => exact hQ .ret s' g' w' a' hS' hK
  | loop body ih =>
    intro Q s K g w a h hS hQ
    obtain ⟨ι, sh, inv, μ, ⟨i0, hi0, hle⟩, hround⟩ := h.out
    obtain ⟨g0, hS0⟩ := hle w0 g w a hS
    -- the measure is told by what the state stands for
    classical
    let I : Act → World → Prop := fun a w => ∃ i g, inv i ∧ Sim dm w0 (sh i) g w a
    let M : Act → World → Nat → Prop := fun a w n => ∃ i g, inv i ∧ Sim dm w0 (sh i) g w a ∧ μ i = n
    have hMx : ∀ a w, I a w → ∃ n, M a w n := fun a w ⟨i, g, h1, h2⟩ => ⟨μ i, i, g, h1, h2, rfl⟩
    let m : Act → World → Nat := fun a w => if h : ∃ n, M a w n then Classical.choose (least h) else 0
    refine wp_loop I m ⟨i0, g0, hi0, hS0⟩ fun a w hI => ?_
    have hex := hMx a w hI
    have hm : M a w (m a w) := by
      show M a w (if h : ∃ n, M a w n then Classical.choose (least h) else 0)
      rw [dif_pos hex]
      exact (Classical.choose_spec (least hex)).1
    obtain ⟨i, g, h1, h2, h3⟩ := hm
    refine ih (hround i h1) h2 fun e s' g' w' a' hS' hK => ?_
    cases e with
    | normal =>
      obtain ⟨i', ⟨h4, h5⟩, h6⟩ := hK
      obtain ⟨g2, hS2⟩ := h6 w0 g' w' a' hS'
      refine ⟨⟨i', g2, h4, hS2⟩, ?_⟩
      have hex' : ∃ n, M a' w' n := ⟨μ i', i', g2, h4, hS2, rfl⟩
      have : m a' w' ≤ μ i' := by
        show (if h : ∃ n, M a' w' n then Classical.choose (least h) else 0) ≤ _
        rw [dif_pos hex']
        exact (Classical.choose_spec (least hex')).2 _ ⟨i', g2, h4, hS2, rfl⟩
      omega
    | exit j => exact hQ (.exit j) s' g' w' a' hS' hK
    | ret => exact hQ .ret s' g' w' a' hS' hK
  | exit id => intro Q s K g w a h hS hQ; exact wp_exit (hQ (.exit id) s g w a hS h)
  | ret => intro Q s K g w a h hS hQ; exact wp_ret (hQ .ret s g w a hS h)
  | rangeFunc f ps x y _ _ => intro Q s K g w a h; exact h.elim
  | scope body _ => intro Q s K g w a h; exact h.elim
  | label l => intro Q s K g w a h; exact h.elim
  | goto l => intro Q s K g w a h; exact h.elim
  | refuse why => intro Q s K g w a h; exact h.elim
end
end Go.Vi
