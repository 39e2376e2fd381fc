/- Operation by operation: slots, numbers, tests, struct variables. -/
import Derived.Test.YtnpcgheojijpjaaViD
import Derived.Laws.Small
import Derived.ChangeKeysEq
set_option linter.unusedVariables false
set_option linter.unusedSimpArgs false
namespace Go.Vi
open Go.RowKit
def nth {α : Type} : List α → Nat → Option α
  | [], _ => none
  | a :: _, 0 => some a
  | _ :: l, n + 1 => nth l n
theorem nth_eq {α : Type} : ∀ (l : List α) (n : Nat), nth l n = l[n]?
  | [], n => by simp [nth]
  | a :: l, 0 => by simp [nth]
  | a :: l, n + 1 => by simp [nth, nth_eq l n]
section
variable {P : Program} {Γ : TG} {dm : Bool} {o : Oper} {env : Nat → AV} {res : Res} {id : Nat} {K : KT}

def kMove (Γ : TG) (env : Nat → AV) (t : TypeId) (x : Operand) (K : KT) : Prop := forceV (rtyV Γ t (opv env x)) fun v => K v [] []
theorem good_move {x : Operand} (ho : o.op = .move x ∨ o.op = .assign x) (h : kMove Γ env o.type x K) : Good P dm o env res id K := by
  have h := forceV_eq h
  refine good_pure [] (by simp) (by simpa using h) fun w0 g res w a hM ha _ => ?_
  refine ⟨a.eval x, ?_, rtyV_rep (ha x (by rcases ho with ho | ho <;> simp [ho, Op.operands]))⟩
  rcases ho with ho | ho <;> simp [execOp, ho]

def kPick (env : Nat → AV) (c a b : Operand) (K : KT) : Prop :=
  match opv env c with
  | .c (.pv (.bool q)) => br q (forceV (opv env a) fun v => K v [] []) (forceV (opv env b) fun v => K v [] [])
  | _ => False
theorem good_pick {c x y : Operand} (ho : o.op = .pick c x y) (h : kPick env c x y K) : Good P dm o env res id K := by
  unfold kPick at h
  split at h
  · rename_i q hq
    have key : ∀ z : Operand, z ∈ o.op.operands → K (opv env z) [] [] → (∀ a : Act, a.eval c = .bool q → (execOp a.eval o).run P = fun w => .ok (.value (a.eval z)) w) → Good P dm o env res id K := by
      intro z hz hK hrun
      refine good_pure [] (by simp) (by simpa using hK) fun w0 g res w a hM ha _ => ?_
      have hc := ha c (by simp [ho, Op.operands])
      rw [hq] at hc
      have hc' : a.eval c = .bool q := by
        cases hv : a.eval c <;> rw [hv] at hc <;> cases hc
        rfl
      exact ⟨a.eval z, by rw [hrun a hc'], ha z hz⟩
    rcases br_e h with ⟨rfl, h⟩ | ⟨rfl, h⟩
    · exact key x (by simp [ho, Op.operands]) (forceV_eq h) fun a hc => by funext w; simp [execOp, ho, hc, asBool]
    · exact key y (by simp [ho, Op.operands]) (forceV_eq h) fun a hc => by funext w; simp [execOp, ho, hc, asBool]
  · exact h.elim

/-- Numbers and tests. -/
def binI (op : BinOp) (k : IntKind) (a b : Int) (K : PV → Prop) : Prop :=
  match op with
  | .add => K (.int k (k.wrap (a + b)))
  | .sub => K (.int k (k.wrap (a - b)))
  | .mul => K (.int k (k.wrap (a * b)))
  | .quo => b ≠ 0 ∧ K (.int k (k.wrap (a.tdiv b)))
  | .rem => b ≠ 0 ∧ K (.int k (a.tmod b))
  | .and => K (.int k (k.wrap (BitVec.ofInt k.bits a &&& BitVec.ofInt k.bits b).toNat))
  | .or => K (.int k (k.wrap (BitVec.ofInt k.bits a ||| BitVec.ofInt k.bits b).toNat))
  | .xor => K (.int k (k.wrap (BitVec.ofInt k.bits a ^^^ BitVec.ofInt k.bits b).toNat))
  | .eql => K (.bool (a == b))
  | .neq => K (.bool (a != b))
  | .lss => K (.bool (decide (a < b)))
  | .leq => K (.bool (decide (a ≤ b)))
  | .gtr => K (.bool (decide (a > b)))
  | .geq => K (.bool (decide (a ≥ b)))
  | .shl => 0 ≤ b ∧ K (.int k (k.wrap (a * 2 ^ min b.toNat k.bits)))
  | .shr => 0 ≤ b ∧ K (.int k (a.fdiv (2 ^ min b.toNat k.bits)))
  | _ => False
def kindEq : IntKind → IntKind → Bool
  | .i8, .i8 | .i16, .i16 | .i32, .i32 | .i64, .i64 | .u8, .u8 | .u16, .u16 | .u32, .u32 | .u64, .u64 => true
  | _, _ => false
theorem kindEq_eq {a b : IntKind} (h : kindEq a b = true) : a = b := by cases a <;> cases b <;> first | rfl | cases h
def shiftB : BinOp → Bool
  | .shl | .shr => true
  | _ => false
def kBin (Γ : TG) (env : Nat → AV) (res : Res) (op : BinOp) (t : TypeId) (x y : Operand) (K : KT) : Prop :=
  match opv env x, opv env y with
  | .c (.pv (.int k a)), .c (.pv (.int k' b)) =>
    (match shiftB op || kindEq k k' with
    | true => binI op k a b fun p => K (.c (.pv p)) [] []
    | false => False)
  | .c (.pv (.bool a)), .c (.pv (.bool b)) =>
    match Γ t with
    | some ti => (match ti.bool, op with
      | true, .eql => K (.c (.pv (.bool (a == b)))) [] []
      | true, .neq => K (.c (.pv (.bool (!(a == b))))) [] []
      | _, _ => False)
    | none => False
  | .c (.pv (.str a)), .c (.pv (.str b)) =>
    (match op with
    | .add => (a.size + b.size ≤ 9223372036854775807) ∧ K (.c (.pv (.str (a ++ b)))) [] []
    | .eql => K (.c (.pv (.bool (a.toList == b.toList)))) [] []
    | .neq => K (.c (.pv (.bool (!(a.toList == b.toList))))) [] []
    | _ => False)
  | _, _ => False
theorem binI_run {op : BinOp} {k k' : IntKind} {a b : Int} {K : PV → Prop} (h : binI op k a b K) (hk : (shiftB op || kindEq k k') = true) (t : TypeId) :
    ∃ p v, K p ∧ (∀ w, (binOp op t (.int k a) (.int k' b)).run P w = .ok v w) ∧ ∀ w S, Rep w S p v := by
  have hk' : shiftB op = false → k = k' := fun hs => by
    rw [hs] at hk
    exact kindEq_eq (by simpa using hk)
  cases op <;> simp only [binI] at h
  case add => obtain rfl := hk' rfl; exact ⟨_, _, h, fun w => by simp [binOp, Op.intArith], fun _ _ => .int _ _⟩
  case sub => obtain rfl := hk' rfl; exact ⟨_, _, h, fun w => by simp [binOp, Op.intArith], fun _ _ => .int _ _⟩
  case mul => obtain rfl := hk' rfl; exact ⟨_, _, h, fun w => by simp [binOp, Op.intArith], fun _ _ => .int _ _⟩
  case quo => obtain rfl := hk' rfl; exact ⟨_, _, h.2, fun w => by simp [binOp, Op.intDiv, h.1], fun _ _ => .int _ _⟩
  case rem => obtain rfl := hk' rfl; exact ⟨_, _, h.2, fun w => by simp [binOp, Op.intDiv, h.1], fun _ _ => .int _ _⟩
  case and => obtain rfl := hk' rfl; exact ⟨_, _, h, fun w => by simp [binOp, Op.intBits], fun _ _ => .int _ _⟩
  case or => obtain rfl := hk' rfl; exact ⟨_, _, h, fun w => by simp [binOp, Op.intBits], fun _ _ => .int _ _⟩
  case xor => obtain rfl := hk' rfl; exact ⟨_, _, h, fun w => by simp [binOp, Op.intBits], fun _ _ => .int _ _⟩
  case eql => obtain rfl := hk' rfl; exact ⟨_, _, h, fun w => by simp [binOp, Op.intCmp], fun _ _ => .bool _⟩
  case neq => obtain rfl := hk' rfl; exact ⟨_, _, h, fun w => by simp [binOp, Op.intCmp], fun _ _ => .bool _⟩
  case lss => obtain rfl := hk' rfl; exact ⟨_, _, h, fun w => by simp [binOp, Op.intCmp], fun _ _ => .bool _⟩
  case leq => obtain rfl := hk' rfl; exact ⟨_, _, h, fun w => by simp [binOp, Op.intCmp], fun _ _ => .bool _⟩
  case gtr => obtain rfl := hk' rfl; exact ⟨_, _, h, fun w => by simp [binOp, Op.intCmp], fun _ _ => .bool _⟩
  case geq => obtain rfl := hk' rfl; exact ⟨_, _, h, fun w => by simp [binOp, Op.intCmp], fun _ _ => .bool _⟩
  case shl => exact ⟨_, _, h.2, fun w => by simp [binOp, Op.shift, show ¬ b < 0 by omega], fun _ _ => .int _ _⟩
  case shr => exact ⟨_, _, h.2, fun w => by simp [binOp, Op.shift, show ¬ b < 0 by omega], fun _ _ => .int _ _⟩
theorem rav {g : G} {w : World} {p : PV} {v : Value} (h : Rep w g.S p v) : RepAV g w (.c (.pv p)) v := h
theorem eqIn_bool {t : TypeId} (hd : P.underlying t = some .bool) (d : Nat) (a b : Bool) (w : World) : (Op.equalIn (d + 1) t (.bool a) (.bool b)).run P w = .ok (a == b) w := by
  simp [Op.equalIn, run_underlying hd]
theorem eq_bool {t : TypeId} (hd : P.underlying t = some .bool) (a b : Bool) (w : World) : (Op.equal t (.bool a) (.bool b)).run P w = .ok (a == b) w := eqIn_bool hd 9999 a b w
theorem rep_int {g : G} {w : World} {k : IntKind} {n : Int} {v : Value} (h : RepAV g w (.c (.pv (.int k n))) v) : v = .int k n := by cases h; rfl
theorem rep_bool {g : G} {w : World} {b : Bool} {v : Value} (h : RepAV g w (.c (.pv (.bool b))) v) : v = .bool b := by cases h; rfl
theorem rep_str {g : G} {w : World} {s : ByteArray} {v : Value} (h : RepAV g w (.c (.pv (.str s))) v) : v = .string s := by cases h; rfl
theorem eqGuard_plain {op : BinOp} {t : TypeId} {x y : Operand} {a b : Value} {w : World} (ha : ∀ cs, a ≠ .agg cs) (hn : a ≠ .nilIface) : (eqGuard op t x y a b).run P w = .ok () w := by
  unfold eqGuard
  split <;> (try simp) <;> split <;> simp_all
theorem good_bin (hΓ : TGOk P Γ) {op : BinOp} {t t' : TypeId} {x y : Operand} (ho : o.op = .binOp op t x y t') (h : kBin Γ env res op t x y K) : Good P dm o env res id K := by
  have hox : x ∈ o.op.operands := by simp [ho, Op.operands]
  have hoy : y ∈ o.op.operands := by simp [ho, Op.operands]
  have fin : ∀ (p : PV) (u v1 v2 : Value), K (.c (.pv p)) [] [] → (∀ g w v, RepAV g w (opv env x) v → v = v1) → (∀ g w v, RepAV g w (opv env y) v → v = v2) → (∀ cs, v1 ≠ .agg cs) → v1 ≠ .nilIface →
      (∀ w, (binOp op t v1 v2).run P w = .ok u w) → (∀ w S, Rep w S p u) → Good P dm o env res id K := by
    intro p u v1 v2 hK h1 h2 ha hn hrun hrep
    refine good_pure [] (by simp) (by simpa using hK) fun w0 g res w a hM hop _ => ⟨u, ?_, rav (hrep _ _)⟩
    have e1 := h1 g w _ (hop x hox)
    have e2 := h2 g w _ (hop y hoy)
    simp [execOp, ho, e1, e2, eqGuard_plain (op := op) (t := t) (x := x) (y := y) (b := v2) (w := w) ha hn, hrun]
  unfold kBin at h
  split at h
  · rename_i k a k' b hx hy
    split at h
    · rename_i hk
      obtain ⟨p, v, hK, hrun, hrep⟩ := binI_run (P := P) h hk t
      exact fin p v _ _ hK (fun g w v hv => rep_int (hx ▸ hv)) (fun g w v hv => rep_int (hy ▸ hv)) (by simp) (by simp) hrun hrep
    · exact h.elim
  · rename_i a b hx hy
    split at h
    · rename_i ti hti
      obtain ⟨d, hd, _, _, _, _, hbool, _⟩ := (hΓ t ti hti).desc
      split at h
      · rename_i hb
        have hd' := hd
        rw [hbool hb] at hd'
        exact fin _ (.bool (a == b)) _ _ h (fun g w v hv => rep_bool (hx ▸ hv)) (fun g w v hv => rep_bool (hy ▸ hv)) (by simp) (by simp)
          (fun w => by simp only [binOp, Sem.run_bind, eq_bool hd', Result.andThen_ok]; rfl) (fun _ _ => .bool _)
      · rename_i hb
        have hd' := hd
        rw [hbool hb] at hd'
        exact fin _ (.bool (!(a == b))) _ _ h (fun g w v hv => rep_bool (hx ▸ hv)) (fun g w v hv => rep_bool (hy ▸ hv)) (by simp) (by simp)
          (fun w => by simp only [binOp, Sem.run_bind, eq_bool hd', Result.andThen_ok]; rfl) (fun _ _ => .bool _)
      · exact h.elim
    · exact h.elim
  · rename_i a b hx hy
    split at h
    · exact fin _ (.string (a ++ b)) _ _ h.2 (fun g w v hv => rep_str (hx ▸ hv)) (fun g w v hv => rep_str (hy ▸ hv)) (by simp) (by simp)
        (fun w => by have h1 := h.1; simp [binOp, Op.stringOp, IntKind.max, IntKind.signed, IntKind.bits]; omega) (fun _ _ => .str _)
    · exact fin _ (.bool (a.toList == b.toList)) _ _ h (fun g w v hv => rep_str (hx ▸ hv)) (fun g w v hv => rep_str (hy ▸ hv)) (by simp) (by simp)
        (fun w => by simp [binOp, Op.stringOp]) (fun _ _ => .bool _)
    · exact fin _ (.bool (!(a.toList == b.toList))) _ _ h (fun g w v hv => rep_str (hx ▸ hv)) (fun g w v hv => rep_str (hy ▸ hv)) (by simp) (by simp)
        (fun w => by simp [binOp, Op.stringOp]) (fun _ _ => .bool _)
    · exact h.elim
  · exact h.elim
def kUn (env : Nat → AV) (op : UnOp) (x : Operand) (K : KT) : Prop :=
  match op, opv env x with
  | .not, .c (.pv (.bool b)) => K (.c (.pv (.bool (!b)))) [] []
  | .neg, .c (.pv (.int k n)) => K (.c (.pv (.int k (k.wrap (0 - n))))) [] []
  | _, _ => False
theorem good_un {op : UnOp} {t : TypeId} {x : Operand} (ho : o.op = .unOp op t x) (h : kUn env op x K) : Good P dm o env res id K := by
  have hox : x ∈ o.op.operands := by simp [ho, Op.operands]
  unfold kUn at h
  split at h
  · rename_i b hx
    refine good_pure [] (by simp) (by simpa using h) fun w0 g res w a hM hop _ => ⟨.bool (!b), ?_, rav (.bool _)⟩
    have e1 := rep_bool (hx ▸ hop x hox)
    simp [execOp, ho, e1, Op.unary]
  · rename_i k n hx
    refine good_pure [] (by simp) (by simpa using h) fun w0 g res w a hM hop _ => ⟨.int k (k.wrap (0 - n)), ?_, rav (.int _ _)⟩
    have e1 := rep_int (hx ▸ hop x hox)
    simp [execOp, ho, e1, Op.unary, Op.intArith]
  · exact h.elim
def kConv (Γ : TG) (env : Nat → AV) (src dst : TypeId) (x : Operand) (K : KT) : Prop :=
  match Γ src, Γ dst, opv env x with
  | some _, some ti, .c (.pv (.int k n)) => (match ti.kind with
    | some k' => K (.c (.pv (.int k' (k'.wrap n)))) [] []
    | none => False)
  | _, _, _ => False
theorem good_conv (hΓ : TGOk P Γ) {s t : TypeId} {x : Operand} (ho : o.op = .convert s t x) (h : kConv Γ env s t x K) : Good P dm o env res id K := by
  have hox : x ∈ o.op.operands := by simp [ho, Op.operands]
  unfold kConv at h
  split at h
  · rename_i ts ti k n hs ht hx
    split at h
    · rename_i k' hk
      obtain ⟨d, hd, _, _, hkind, _⟩ := (hΓ t ti ht).desc
      obtain ⟨d2, hd2, _⟩ := (hΓ s ts hs).desc
      rw [hkind k' hk] at hd
      refine good_pure [] (by simp) (by simpa using h) fun w0 g res w a hM hop _ => ⟨.int k' (k'.wrap n), ?_, rav (.int _ _)⟩
      have e1 := rep_int (hx ▸ hop x hox)
      simp [execOp, ho, e1, convert, run_underlying hd, run_underlying hd2, Conv.intToInt]
    · exact h.elim
  · exact h.elim
def kExtract (env : Nat → AV) (x : Operand) (ix : Nat) (K : KT) : Prop :=
  match opv env x with
  | .tup vs => (match nth vs ix with
    | some v => forceV v fun v => K v [] []
    | none => False)
  | _ => False
theorem good_extract {x : Operand} {ix : Nat} (ho : o.op = .extract x ix) (h : kExtract env x ix K) : Good P dm o env res id K := by
  have hox : x ∈ o.op.operands := by simp [ho, Op.operands]
  unfold kExtract at h
  split at h
  · rename_i vs hx
    split at h
    · rename_i v hv
      have h := forceV_eq h
      rw [nth_eq] at hv
      refine good_pure [] (by simp) (by simpa using h) fun w0 g res w a hM hop _ => ?_
      have h1 := hop x hox
      rw [hx] at h1
      obtain ⟨us, hu, hl, hr⟩ := h1
      obtain ⟨u, hu1, hr1⟩ := hr ix v hv
      refine ⟨u, by simp [execOp, ho, hu, Instr.extract, hu1], ?_⟩
      cases v with
      | c a => exact hr1
      | agg cs => exact hr1
      | tup l => exact hr1.elim
    · exact h.elim
  · exact h.elim
def kField (Γ : TG) (env : Nat → AV) (t : TypeId) (x : Operand) (f : Nat) (K : KT) : Prop :=
  match Γ t with
  | none => False
  | some ti => match nth ti.fields f with
    | none => False
    | some (off, _) => match opv env x with
      | .c (.ptr tk q) => K (.c (.ptr tk (q + off))) [] []
      | .c (.rel tk sz i j) => K (.c (.rel tk sz i (j + off))) [] []
      | .c (.el c) => K (.c (.el (c.drop off))) [] []
      | _ => False
theorem run_field (hΓ : TGOk P Γ) {t : TypeId} {ti : TI} (ht : Γ t = some ti) {f off s : Nat} (hf : ti.fields[f]? = some (off, s)) (b q : Nat) (w : World) :
    (Instr.fieldAt t (.pointer (some ⟨b, q, none⟩)) f).run P w = .ok (.pointer (some ⟨b, q + off, none⟩)) w := by
  obtain ⟨d, hd, _, _, _, _, _, hfl⟩ := (hΓ t ti ht).desc
  obtain ⟨h0, fs, fld, hds, hfs, hoff, hc, i, hi, his⟩ := hfl f off s hf
  subst hds
  have hs : (sizeOf fld.type).run P w = .ok s w := by simp [sizeOf, typeInfo, hi, his]
  simp [Instr.fieldAt, run_underlying hd, hfs, Instr.sureAddr, fieldPlace, hs, show ¬ s = 0 by omega, add_at, hoff]
theorem good_field (hΓ : TGOk P Γ) {t : TypeId} {x : Operand} {f : Nat} (ho : o.op = .fieldAddr t x f) (h : kField Γ env t x f K) : Good P dm o env res id K := by
  have hox : x ∈ o.op.operands := by simp [ho, Op.operands]
  unfold kField at h
  split at h
  · exact h.elim
  · rename_i ti ht
    split at h
    · exact h.elim
    · rename_i off s hf
      rw [nth_eq] at hf
      have run := fun b q w => run_field hΓ ht hf b q w
      split at h
      · rename_i tk q hx
        refine good_pure [] (by simp) (by simpa using h) fun w0 g res w a hM hop _ => ?_
        have h1 := hop x hox
        rw [hx] at h1
        obtain ⟨hU, b, hs, hv⟩ := h1
        exact ⟨.pointer (some ⟨b, q + off, none⟩), by simp [execOp, ho, hv, run], hU, b, hs, rfl⟩
      · rename_i tk sz i j hx
        refine good_pure [] (by simp) (by simpa using h) fun w0 g res w a hM hop _ => ?_
        have h1 := hop x hox
        rw [hx] at h1
        obtain ⟨hU, b, o', n, c, hs, hv⟩ := h1
        exact ⟨.pointer (some ⟨b, o' + i * sz + (j + off), none⟩), by simp [execOp, ho, hv, run, Nat.add_assoc], hU, b, o', n, c, hs, rfl⟩
      · rename_i c hx
        refine good_pure [] (by simp) (by simpa using h) fun w0 g res w a hM hop _ => ?_
        have h1 := hop x hox
        rw [hx] at h1
        obtain ⟨b, o', hv, hS, hc⟩ := h1
        refine ⟨.pointer (some ⟨b, o' + off, none⟩), by simp [execOp, ho, hv, run], b, o' + off, rfl, hS, fun j p hp => ?_⟩
        rw [List.getElem?_drop] at hp
        have := hc (off + j) p hp
        rwa [← Nat.add_assoc] at this
      · exact h.elim
/-- A pointer that is none of nil. -/
def kNil (env : Nat → AV) (x : Operand) (K : KT) : Prop :=
  match opv env x with
  | .c (.ptr tk q) => K (.c (.ptr tk q)) [] []
  | .c (.rel tk sz i j) => K (.c (.rel tk sz i j)) [] []
  | _ => False
theorem good_nil {x : Operand} (ho : o.op = .nilCheck x) (h : kNil env x K) : Good P dm o env res id K := by
  have hox : x ∈ o.op.operands := by simp [ho, Op.operands]
  unfold kNil at h
  split at h
  · rename_i tk q hx
    refine good_pure [] (by simp) (by simpa using h) fun w0 g res w a hM hop _ => ?_
    have h1 := hop x hox
    rw [hx] at h1
    obtain ⟨hU, b, hs, hv⟩ := h1
    exact ⟨.pointer (some ⟨b, q, none⟩), by simp [execOp, ho, hv], hU, b, hs, rfl⟩
  · rename_i tk sz i j hx
    refine good_pure [] (by simp) (by simpa using h) fun w0 g res w a hM hop _ => ?_
    have h1 := hop x hox
    rw [hx] at h1
    obtain ⟨hU, b, o', n, c, hs, hv⟩ := h1
    exact ⟨.pointer (some ⟨b, o' + i * sz + j, none⟩), by simp [execOp, ho, hv], hU, b, o', n, c, hs, rfl⟩
  · exact h.elim
/-- A length. -/
def kLen (Γ : TG) (env : Nat → AV) (res : Res) (t : TypeId) (x : Operand) (K : KT) : Prop :=
  match Γ t with
  | none => False
  | some ti => match ti.elem, opv env x with
    | some _, .c (.pv (.sl _ xs)) => K (.c (.pv (.int .i64 xs.length))) [] []
    | some _, .c (.nil _) => K (.c (.pv (.int .i64 0))) [] []
    | some _, .c (.row tk) => (match res tk with
      | some (.row own sz xs) => K (.c (.pv (.int .i64 xs.length))) [] [tk]
      | some (.ro sz xs) => K (.c (.pv (.int .i64 xs.length))) [] [tk]
      | some (.opn sz cs) => K (.c (.pv (.int .i64 1))) [] [tk]
      | some (.hol sz i xs cs) => K (.c (.pv (.int .i64 xs.length))) [] [tk]
      | _ => False)
    | none, .c (.pv (.str s)) => (match ti.str with
      | true => K (.c (.pv (.int .i64 s.size))) [] []
      | false => False)
    | _, _ => False
theorem Rep.slice {w : World} {S : Nat → Prop} {sz : Nat} {xs : List (List PV)} {v : Value} (h : Rep w S (.sl sz xs) v) : ∃ A c, v = .slice A xs.length c := by
  cases h with
  | sl _ _ A c us hc hm hz ha hr => exact ⟨A, c, rfl⟩
theorem good_len (hΓ : TGOk P Γ) {t : TypeId} {x : Operand} (ho : o.op = .call { callee := .builtin .len, args := #[x], argTypes := #[t] }) (h : kLen Γ env res t x K) : Good P dm o env res id K := by
  have hox : x ∈ o.op.operands := by simp [ho, Op.operands, Call.operands]
  unfold kLen at h
  split at h
  · exact h.elim
  · rename_i ti ht
    obtain ⟨d, hd, _, hel, _, hst, _⟩ := (hΓ t ti ht).desc
    have fin : ∀ (n : Nat) (e : TypeId), ti.elem = some e → ∀ rs : List (Nat × ARes), (∀ t r, (t, r) ∈ rs → res t = some r) → K (.c (.pv (.int .i64 n))) [] (rs.map Prod.fst) →
        (∀ (w0 : Base) (g : G) (res : Res) (w : World) (v : Value), Models dm w0 g res w → (∀ t r, (t, r) ∈ rs → res t = some r) → RepAV g w (opv env x) v → ∃ A c, v = .slice A n c) → Good P dm o env res id K := by
      intro n e he rs hrs hK hv
      refine good_pure rs hrs hK fun w0 g res w a hM hop hr => ?_
      obtain ⟨A, c, hs⟩ := hv w0 g res w _ hM hr (hop x hox)
      have hd' := hd
      rw [hel e he] at hd'
      exact ⟨.int .i64 n, by simp [execOp, ho, resolve, invoke, builtin, hs, Builtin.len_, run_underlying hd', goInt], rav (.int _ _)⟩
    split at h
    · rename_i e sz xs he hx
      exact fin xs.length e he [] (by simp) (by simpa using h) fun w0 g res w v _ _ hv => by
        rw [hx] at hv
        exact Rep.slice (S := g.S) (w := w) hv
    · rename_i e sz he hx
      exact fin 0 e he [] (by simp) (by simpa using h) fun w0 g res w v _ _ hv => by
        rw [hx] at hv
        exact ⟨none, 0, hv⟩
    · rename_i e tk he hx
      split at h
      · rename_i own sz xs hres
        exact fin xs.length e he [(tk, .row own sz xs)] (by simpa using hres) (by simpa using h) fun w0 g res w v hM hr hv => by
          rw [hx] at hv
          have h1 : RowOk w g.S (g.D tk) own sz xs (g.σ tk) := (hM.tok tk (.row own sz xs) (hr tk (.row own sz xs) (by simp))).2
          obtain ⟨A, c, hs, _⟩ := h1.len
          exact ⟨A, c, hv.2.1.trans hs⟩
      · rename_i sz xs hres
        exact fin xs.length e he [(tk, .ro sz xs)] (by simpa using hres) (by simpa using h) fun w0 g res w v hM hr hv => by
          rw [hx] at hv
          have h1 : Rep w g.S (.sl sz xs) (g.σ tk) := (hM.tok tk (.ro sz xs) (hr tk (.ro sz xs) (by simp))).2
          obtain ⟨A, c, hs⟩ := h1.slice
          exact ⟨A, c, hv.2.1.trans hs⟩
      · rename_i sz cs hres
        exact fin 1 e he [(tk, .opn sz cs)] (by simpa using hres) (by simpa using h) fun w0 g res w v hM hr hv => by
          rw [hx] at hv
          obtain ⟨b, q, c, us, hs, _⟩ : OpenOk g w tk sz cs := (hM.tok tk (.opn sz cs) (hr tk (.opn sz cs) (by simp))).2
          exact ⟨_, c, hv.2.1.trans hs⟩
      · rename_i sz i xs cs hres
        exact fin xs.length e he [(tk, .hol sz i xs cs)] (by simpa using hres) (by simpa using h) fun w0 g res w v hM hr hv => by
          rw [hx] at hv
          obtain ⟨b, q, c, _, _, _, _, hs, _⟩ : HolOk g w (g.D tk) sz i xs cs (g.σ tk) := (hM.tok tk (.hol sz i xs cs) (hr tk (.hol sz i xs cs) (by simp))).2
          exact ⟨_, c, hv.2.1.trans hs⟩
      · exact h.elim
    · rename_i s he hx
      split at h
      · rename_i hs
        refine good_pure [] (by simp) (by simpa using h) fun w0 g res w a hM hop _ => ⟨.int .i64 s.size, ?_, rav (.int _ _)⟩
        have e1 := rep_str (hx ▸ hop x hox)
        have hd' := hd
        rw [hst hs] at hd'
        simp [execOp, ho, resolve, invoke, builtin, e1, Builtin.len_, run_underlying hd', goInt]
      · exact h.elim
    · exact h.elim
/-- A nil slice's capacity. -/
def kCap (Γ : TG) (env : Nat → AV) (t : TypeId) (x : Operand) (K : KT) : Prop :=
  match Γ t with
  | none => False
  | some ti => match ti.elem, opv env x with
    | some _, .c (.nil _) => K (.c (.pv (.int .i64 0))) [] []
    | _, _ => False
theorem good_cap (hΓ : TGOk P Γ) {t : TypeId} {x : Operand} (ho : o.op = .call { callee := .builtin .cap, args := #[x], argTypes := #[t] }) (h : kCap Γ env t x K) : Good P dm o env res id K := by
  have hox : x ∈ o.op.operands := by simp [ho, Op.operands, Call.operands]
  unfold kCap at h
  split at h
  · exact h.elim
  · rename_i ti ht
    obtain ⟨d, hd, _, hel, _, hst, _⟩ := (hΓ t ti ht).desc
    split at h
    · rename_i e sz he hx
      refine good_pure [] (by simp) (by simpa using h) fun w0 g res w a hM hop _ => ⟨.int .i64 0, ?_, rav (.int _ _)⟩
      have h1 := hop x hox
      rw [hx] at h1
      have h1 : a.eval x = .slice none 0 0 := h1
      rw [hel e he] at hd
      simp [execOp, ho, resolve, invoke, builtin, h1, Builtin.cap_, run_underlying hd, goInt]
    · exact h.elim
/-- The lesser one of two numbers. -/
def kMin (env : Nat → AV) (x y : Operand) (K : KT) : Prop :=
  match opv env x, opv env y with
  | .c (.pv (.int k a)), .c (.pv (.int k' b)) => (match kindEq k k' with
    | true => K (.c (.pv (.int k (if b < a then b else a)))) [] []
    | false => False)
  | _, _ => False
theorem good_min {x y : Operand} {ts : Array TypeId} (ho : o.op = .call { callee := .builtin .min, args := #[x, y], argTypes := ts }) (h : kMin env x y K) : Good P dm o env res id K := by
  have hox : x ∈ o.op.operands := by simp [ho, Op.operands, Call.operands]
  have hoy : y ∈ o.op.operands := by simp [ho, Op.operands, Call.operands]
  unfold kMin at h
  split at h
  · rename_i k a k' b hx hy
    split at h
    · refine good_pure [] (by simp) (by simpa using h) fun w0 g res w ac hM hop _ => ⟨_, ?_, rav (.int _ _)⟩
      have e1 := rep_int (hx ▸ hop x hox)
      have e2 := rep_int (hy ▸ hop y hoy)
      simp [execOp, ho, resolve, invoke, builtin, e1, e2, run_min_int2]
    · exact h.elim
  · exact h.elim
/-- Structs of whole numbers alone, compared at once. -/
def eqCells : List AC → List AC → Option Bool
  | [], [] => some true
  | .pv (.int k a) :: as, .pv (.int k' b) :: bs => (match kindEq k k' with
    | true => (match eqCells as bs with
      | some r => some ((a == b) && r)
      | none => none)
    | false => none)
  | _, _ => none
def intFields (P : Program) : List Field → Nat → Bool
  | [], _ => true
  | f :: fs, k => (f.name != "_") && Nat.beq f.offset k && (match P.underlying f.type with
    | some (.int _) => true
    | _ => false) && intFields P fs (k + 1)
def eqSB (P : Program) (t : TypeId) (n : Nat) : Bool :=
  match P.underlying t with
  | some (.struct fs) => Nat.beq fs.toList.length n && intFields P fs.toList 0 && !P.stoodInHeld t && !P.eqGuardType P.depth t
  | _ => false
def eqAgg (env : Nat → AV) (x y : Operand) : Option (Nat × Bool) :=
  match opv env x, opv env y with
  | .agg as, .agg bs => (match eqCells as bs with
    | some r => some (as.length, r)
    | none => none)
  | _, _ => none
def kEqS (P : Program) (op : BinOp) (t : TypeId) (n : Nat) (r : Bool) (K : KT) : Prop :=
  match op with
  | .eql => eqSB P t n = true ∧ K (.c (.pv (.bool r))) [] []
  | .neq => eqSB P t n = true ∧ K (.c (.pv (.bool (!r)))) [] []
  | _ => False
theorem run_fields (w : World) (d : Nat) (xs ys : Array Value) : ∀ (fs : List Field) (k : Nat) (as bs : List AC) (r : Bool), intFields P fs k = true → eqCells as bs = some r → as.length = fs.length →
    (∀ (j : Nat) q n, as[j]? = some (.pv (.int q n)) → xs[k + j]? = some (.int q n)) → (∀ (j : Nat) q n, bs[j]? = some (.pv (.int q n)) → ys[k + j]? = some (.int q n)) → (Op.eqFields (d + 1) xs ys fs).run P w = .ok r w
  | [], k, as, bs, r, _, he, hl, _, _ => by
    obtain rfl : as = [] := List.eq_nil_of_length_eq_zero (by simpa using hl)
    cases bs with
    | nil => simp [eqCells] at he; subst he; simp [Op.eqFields]
    | cons b bs => simp [eqCells] at he
  | f :: fs, k, as, bs, r, hf, he, hl, hx, hy => by
    unfold eqCells at he
    split at he
    · simp at hl
    · rename_i q a as q' b bs
      split at he
      · rename_i hk
        obtain rfl := kindEq_eq hk
        split at he
        · rename_i r' hr'
          simp only [Option.some.injEq] at he
          subst he
          simp only [intFields, Bool.and_eq_true] at hf
          obtain ⟨⟨⟨h1, h2⟩, h3⟩, h4⟩ := hf
          have hn : f.name ≠ "_" := by simpa using h1
          have ho : f.offset = k := Nat.eq_of_beq_eq_true h2
          split at h3
          · rename_i q2 hu
            have hp : P.plainKey f.type = true := by simp [Program.plainKey, hu]
            have e1 := run_part_plain (P := P) w hp (xs := xs) (off := f.offset) (v := .int q a) (by rw [ho]; exact hx 0 q a rfl)
            have e2 := run_part_plain (P := P) w hp (xs := ys) (off := f.offset) (v := .int q b) (by rw [ho]; exact hy 0 q b rfl)
            have e3 := run_equalIn_int (P := P) w d f.type q q2 a b hu
            have IH := run_fields w d xs ys fs (k + 1) as bs r' h4 hr' (by simpa using hl) (fun j q n h => by have := hx (j + 1) q n h; rwa [show k + (j + 1) = k + 1 + j by omega] at this) (fun j q n h => by have := hy (j + 1) q n h; rwa [show k + (j + 1) = k + 1 + j by omega] at this)
            simp only [Op.eqFields, hn, ne_eq, not_false_eq_true, if_true, Sem.run_bind, e1, e2, e3, Result.andThen_ok]
            cases hab : a == b
            · simp
            · simpa using IH
          · cases h3
        · cases he
      · cases he
    · cases he
theorem eqCells_int : ∀ {as bs : List AC} {r : Bool}, eqCells as bs = some r → as.length = bs.length
  | as, bs, r, h => by
    unfold eqCells at h
    split at h
    · rfl
    · split at h
      · split at h
        · rename_i hr
          simp [eqCells_int hr]
        · cases h
      · cases h
    · cases h
/-- An error against the literal nil. -/
def eqErr (env : Nat → AV) (x : Operand) : Operand → Option Bool
  | .const .nilIface => (match opv env x with
    | .c (.pv (.err b)) => some b
    | _ => none)
  | _ => none
def ifaceB (P : Program) (t : TypeId) : Bool :=
  match P.underlying t with
  | some (.interface _) => true
  | _ => false
def kEqE (P : Program) (op : BinOp) (t : TypeId) (b : Bool) (K : KT) : Prop :=
  match op with
  | .eql => ifaceB P t = true ∧ K (.c (.pv (.bool (!b)))) [] []
  | .neq => ifaceB P t = true ∧ K (.c (.pv (.bool b))) [] []
  | _ => False
theorem eq_nilI {t : TypeId} (hB : ifaceB P t = true) {b : Bool} {S : Nat → Prop} {w : World} {v : Value} (h : Rep w S (.err b) v) : (Op.equal t v .nilIface).run P w = .ok (!b) w := by
  have key : ∀ d : Nat, (Op.equalIn (d + 1) t v .nilIface).run P w = .ok (!b) w := by
    intro d
    unfold ifaceB at hB
    split at hB
    · rename_i ms hd
      cases h <;> simp [Op.equalIn, run_underlying hd]
    · cases hB
  exact key 9999
theorem eqGuard_nilI (op : BinOp) (t : TypeId) (x : Operand) {b : Bool} {S : Nat → Prop} {w : World} {v : Value} (h : Rep w S (.err b) v) : (eqGuard op t x (.const .nilIface) v .nilIface).run P w = .ok () w := by
  cases h <;> unfold eqGuard <;> split <;> simp
theorem good_eqE {op : BinOp} {t t' : TypeId} {x y : Operand} {b : Bool} (ho : o.op = .binOp op t x y t') (ha : eqErr env x y = some b) (h : kEqE P op t b K) : Good P dm o env res id K := by
  have hox : x ∈ o.op.operands := by simp [ho, Op.operands]
  unfold eqErr at ha
  split at ha
  · split at ha
    · rename_i b' hx
      simp only [Option.some.injEq] at ha
      subst ha
      have key : ∀ (u : Bool) (fin : Bool → Bool), (u = fin (!b')) → (∀ w v, (binOp op t v .nilIface).run P w = ((Op.equal t v .nilIface).run P w).andThen fun b w' => .ok (.bool (fin b)) w') → ifaceB P t = true → K (.c (.pv (.bool u))) [] [] → Good P dm o env res id K := by
        intro u fin hu hop hB hK
        refine good_pure [] (by simp) (by simpa using hK) fun w0 g res w a hM hopd _ => ⟨.bool u, ?_, rav (.bool _)⟩
        have e1 := hopd x hox
        rw [hx] at e1
        have e2 : Rep w g.S (.err b') (a.eval x) := e1
        have e3 : (binOp op t (a.eval x) .nilIface).run P w = .ok (.bool u) w := by rw [hop, eq_nilI hB e2, hu]; rfl
        have e4 : a.eval (.const .nilIface) = .nilIface := rfl
        simp only [execOp, ho, e4, Sem.run_bind, eqGuard_nilI op t x e2, Result.andThen_ok, e3]
        rfl
      cases op <;> simp only [kEqE] at h
      case eql => exact key _ (fun b => b) rfl (fun w v => by cases v <;> simp [binOp, Sem.run_bind] <;> rfl) h.1 h.2
      case neq => exact key _ (fun b => !b) (by simp) (fun w v => by cases v <;> simp [binOp, Sem.run_bind] <;> rfl) h.1 h.2
    · cases ha
  · cases ha
theorem good_eqS {op : BinOp} {t t' : TypeId} {x y : Operand} {n : Nat} {r : Bool} (ho : o.op = .binOp op t x y t') (ha : eqAgg env x y = some (n, r)) (h : kEqS P op t n r K) : Good P dm o env res id K := by
  have hox : x ∈ o.op.operands := by simp [ho, Op.operands]
  have hoy : y ∈ o.op.operands := by simp [ho, Op.operands]
  unfold eqAgg at ha
  split at ha
  · rename_i as bs hx hy
    split at ha
    · rename_i r' hr
      simp only [Option.some.injEq, Prod.mk.injEq] at ha
      obtain ⟨rfl, rfl⟩ := ha
      have key : ∀ (u : Bool) (fin : Bool → Bool), (u = fin r') → (∀ w xs ys, (binOp op t (.agg xs) (.agg ys)).run P w = ((Op.equalIn 10000 t (.agg xs) (.agg ys)).run P w).andThen fun b w' => .ok (.bool (fin b)) w') → eqSB P t as.length = true → K (.c (.pv (.bool u))) [] [] → Good P dm o env res id K := by
        intro u fin hu hop hB hK
        refine good_pure [] (by simp) (by simpa using hK) fun w0 g res w a hM hopd _ => ?_
        have e1 := hopd x hox
        have e2 := hopd y hoy
        rw [hx] at e1
        rw [hy] at e2
        obtain ⟨xs, hx1, hxl, hxs⟩ := e1
        obtain ⟨ys, hy1, hyl, hys⟩ := e2
        unfold eqSB at hB
        split at hB
        · rename_i fs hfs
          simp only [Bool.and_eq_true, Bool.not_eq_true'] at hB
          obtain ⟨⟨⟨h1, h2⟩, h3⟩, h4⟩ := hB
          have hl : as.length = fs.toList.length := (Nat.eq_of_beq_eq_true h1).symm
          have hff : P.fieldsOf t = fs := by simp [Program.fieldsOf, hfs]
          have cell : ∀ (cs : List AC) (vs : List Value), (∀ (j : Nat) a, cs[j]? = some a → ∃ u, vs[j]? = some u ∧ u.oneCell' = true ∧ RepC g w a u) → ∀ (j : Nat) q n, cs[j]? = some (.pv (.int q n)) → vs.toArray[0 + j]? = some (.int q n) := by
            intro cs vs hc j q n hj
            obtain ⟨u, hu, _, hr⟩ := hc j _ hj
            have hr2 : u = .int q n := by cases hr; rfl
            subst hr2
            simpa using hu
          have hf := run_fields (P := P) w 9998 xs.toArray ys.toArray fs.toList 0 as bs r' h2 hr hl (cell as xs hxs) (cell bs ys hys)
          have hq := run_equalIn_agg (P := P) w 9999 t xs.toArray ys.toArray (by rw [hff]; exact hfs) h3
          rw [hff, hf] at hq
          have hg := run_eqGuard_agg (P := P) w op t x y xs.toArray ys.toArray h4
          refine ⟨.bool u, ?_, Rep.bool u⟩
          simp [execOp, ho, hx1, hy1, hg, hop, hq, hu]
        · cases hB
      unfold kEqS at h
      split at h
      · exact key r' (fun b => b) rfl (fun w xs ys => run_eql_struct w t xs ys) h.1 h.2
      · exact key (!r') (fun b => !b) rfl (fun w xs ys => run_neq_struct w t xs ys) h.1 h.2
      · exact h.elim
    · cases ha
  · cases ha
end
end Go.Vi
