/- Operation by operation: an element's place, a piece of a slice, make. -/
import Derived.Test.YtnpcgheojijpjaaViH
set_option linter.unusedVariables false
set_option linter.unusedSimpArgs false
namespace Go.Vi
open Go.RowKit
section
variable {P : Program} {Γ : TG} {dm : Bool} {o : Oper} {env : Nat → AV} {res : Res} {id : Nat} {K : KT}
def kIndex (Γ : TG) (env : Nat → AV) (res : Res) (t : TypeId) (x ix : Operand) (K : KT) : Prop :=
  match Γ t, opv env ix with
  | some ti, .c (.pv (.int _ i)) => (match ti.arr with
    | some (n, s) => (match opv env x with
      | .c (.ptr tk off) => (match i with
        | .ofNat m => (match Nat.blt m n with
          | true => K (.c (.ptr tk (off + m * s))) [] []
          | false => False)
        | .negSucc _ => False)
      | _ => False)
    | none => match ti.elem with
      | none => False
      | some e => match Γ e with
        | none => False
        | some te => match opv env x with
          | .c (.pv (.sl sz xs)) => ∃ el : List PV, ((0 ≤ i ∧ xs[i.toNat]? = some el) ∧ sz = te.sz) ∧ K (.c (.el el)) [] []
          | .c (.row tk) => (match res tk with
            | some (.row own sz xs) => ∃ n : Nat, ((i = (n : Int) ∧ n < xs.length) ∧ sz = te.sz) ∧ K (.c (.rel tk sz n 0)) [] [tk]
            | some (.ro sz xs) => ∃ n : Nat, ((i = (n : Int) ∧ n < xs.length) ∧ sz = te.sz) ∧ K (.c (.rel tk sz n 0)) [] [tk]
            | some (.opn sz cs) => ∃ n : Nat, ((i = (n : Int) ∧ n < 1) ∧ sz = te.sz) ∧ K (.c (.rel tk sz n 0)) [] [tk]
            | some (.hol sz _ xs cs) => ∃ n : Nat, ((i = (n : Int) ∧ n < xs.length) ∧ sz = te.sz) ∧ K (.c (.rel tk sz n 0)) [] [tk]
            | _ => False)
          | _ => False)
  | _, _ => False
theorem run_indexAt_vi {t e : TypeId} {te : TI} (hd : P.underlying t = some (.slice e)) (hte : TIOk P e te) (b q n c : Nat) (k : IntKind) (i : Int) (h0 : 0 ≤ i) (h1 : i < n) (w : World) :
    (Instr.indexAt t (.slice (some ⟨b, q, none⟩) n c) (.int k i)).run P w = .ok (.pointer (some ⟨b, q + i.toNat * te.sz, none⟩)) w := by
  simp [Instr.indexAt, asIntOf, run_underlying hd, h0, h1, hte.sizeOf, add_at]
theorem good_index (hΓ : TGOk P Γ) {t : TypeId} {x ix : Operand} (ho : o.op = .indexAddr t x ix) (h : kIndex Γ env res t x ix K) : Good P dm o env res id K := by
  have hox : x ∈ o.op.operands := by simp [ho, Op.operands]
  have hoi : ix ∈ o.op.operands := by simp [ho, Op.operands]
  unfold kIndex at h
  split at h
  · rename_i ti k i ht hi
    have hti := hΓ t ti ht
    split at h
    · rename_i n s harr
      split at h
      · rename_i tk off hx
        split at h
        · rename_i m
          split at h
          · rename_i hm
            obtain ⟨d, hd, _, _, hall⟩ := hti.all
            obtain ⟨e, ie, hde, hie, hs, h0⟩ := hall n s harr
            subst hde
            refine good_pure [] (by simp) (by simpa using h) fun w0 g res w a hM hop _ => ?_
            have h1 := hop x hox
            rw [hx] at h1
            obtain ⟨hU, b, hsv, hv⟩ := h1
            have h2 := rep_int (hi ▸ hop ix hoi)
            have hm' : m < n := by simp [Nat.blt] at hm; omega
            refine ⟨.pointer (some ⟨b, off + m * s, none⟩), ?_, hU, b, hsv, rfl⟩
            simp [execOp, ho, hv, h2, Instr.indexAt, asIntOf, run_underlying hd, Instr.sureAddr, sizeOf, typeInfo, hie, hs, add_at, hm']
          · exact h.elim
        · exact h.elim
      · exact h.elim
    · split at h
      · exact h.elim
      · rename_i e he
        split at h
        · exact h.elim
        · rename_i te hte
          obtain ⟨d, hd, _, hel, _⟩ := hti.desc
          rw [hel e he] at hd
          have htei := hΓ e te hte
          split at h
          · rename_i sz xs hx
            obtain ⟨el, ⟨⟨h0, hget⟩, hsz⟩, h⟩ := h
            subst hsz
            refine good_pure [] (by simp) (by simpa using h) fun w0 g res w a hM hop _ => ?_
            have h1 := hop x hox
            rw [hx] at h1
            have h1 : Rep w g.S (.sl te.sz xs) (a.eval x) := h1
            have h2 := rep_int (hi ▸ hop ix hoi)
            obtain ⟨A, c, hs⟩ := h1.slice
            have hlt : i.toNat < xs.length := (List.getElem?_eq_some_iff.1 hget).1
            have h3 := h1
            rw [hs] at h3
            have h4 := h3
            cases h3 with
            | sl _ _ _ _ us hc hm hz ha hr =>
              obtain ⟨b, q, rfl, hS, hcell⟩ := ha (fun h0 => by subst h0; simp at hget)
              refine ⟨.pointer (some ⟨b, q + i.toNat * te.sz, none⟩), ?_, b, _, rfl, hS, rep_cells h4 hget⟩
              simp only [execOp, ho, hs, h2]
              rw [Sem.run_bind, run_indexAt_vi hd htei b q _ _ k i h0 (by omega) w]
              rfl
          · rename_i tk hx
            split at h
            · rename_i own sz xs hres
              obtain ⟨n, ⟨⟨rfl, hn⟩, rfl⟩, h⟩ := h
              refine good_pure [(tk, .row own te.sz xs)] (by simpa using hres) (by simpa using h) fun w0 g res w a hM hop hr => ?_
              have h1 := hop x hox
              rw [hx] at h1
              have h2 := rep_int (hi ▸ hop ix hoi)
              have hrow : RowOk w g.S (g.D tk) own te.sz xs (g.σ tk) := (hM.tok tk _ (hr tk (.row own te.sz xs) (by simp))).2
              rcases hrow with ⟨rfl, _⟩ | ⟨b, q, c, e', cs, us, Ds, hv, _⟩
              · simp at hn
              · refine ⟨.pointer (some ⟨b, q + n * te.sz + 0, none⟩), ?_, h1.1, b, q, _, c, hv, rfl⟩
                simp only [execOp, ho, h1.2.1, hv, h2]
                rw [Sem.run_bind, run_indexAt_vi hd htei b q _ _ k n (by omega) (by omega) w]
                simp
            · rename_i sz xs hres
              obtain ⟨n, ⟨⟨rfl, hn⟩, rfl⟩, h⟩ := h
              refine good_pure [(tk, .ro te.sz xs)] (by simpa using hres) (by simpa using h) fun w0 g res w a hM hop hr => ?_
              have h1 := hop x hox
              rw [hx] at h1
              have h2 := rep_int (hi ▸ hop ix hoi)
              have hrow : Rep w g.S (.sl te.sz xs) (g.σ tk) := (hM.tok tk _ (hr tk (.ro te.sz xs) (by simp))).2
              obtain ⟨A, c, hs⟩ := hrow.slice
              rw [hs] at hrow
              cases hrow with
              | sl _ _ _ _ us hc hm hz ha hr =>
                obtain ⟨b, q, rfl, hS, hcell⟩ := ha (fun h0 => by subst h0; simp at hn)
                refine ⟨.pointer (some ⟨b, q + n * te.sz + 0, none⟩), ?_, h1.1, b, q, _, c, hs, rfl⟩
                simp only [execOp, ho, h1.2.1, hs, h2]
                rw [Sem.run_bind, run_indexAt_vi hd htei b q _ _ k n (by omega) (by omega) w]
                simp
            · rename_i sz cs hres
              obtain ⟨n, ⟨⟨rfl, hn⟩, rfl⟩, h⟩ := h
              refine good_pure [(tk, .opn te.sz cs)] (by simpa using hres) (by simpa using h) fun w0 g res w a hM hop hr => ?_
              have h1 := hop x hox
              rw [hx] at h1
              have h2 := rep_int (hi ▸ hop ix hoi)
              obtain ⟨b, q, c, us, hv, _⟩ : OpenOk g w tk te.sz cs := (hM.tok tk (.opn te.sz cs) (hr tk (.opn te.sz cs) (by simp))).2
              refine ⟨.pointer (some ⟨b, q + n * te.sz + 0, none⟩), ?_, h1.1, b, q, _, c, hv, rfl⟩
              simp only [execOp, ho, h1.2.1, hv, h2]
              rw [Sem.run_bind, run_indexAt_vi hd htei b q _ _ k n (by omega) (by omega) w]
              simp
            · rename_i sz i' xs cs hres
              obtain ⟨n, ⟨⟨rfl, hn⟩, rfl⟩, h⟩ := h
              refine good_pure [(tk, .hol te.sz i' xs cs)] (by simpa using hres) (by simpa using h) fun w0 g res w a hM hop hr => ?_
              have h1 := hop x hox
              rw [hx] at h1
              have h2 := rep_int (hi ▸ hop ix hoi)
              obtain ⟨b, q, c, _, _, _, _, hv, _⟩ : HolOk g w (g.D tk) te.sz i' xs cs (g.σ tk) := (hM.tok tk (.hol te.sz i' xs cs) (hr tk (.hol te.sz i' xs cs) (by simp))).2
              refine ⟨.pointer (some ⟨b, q + n * te.sz + 0, none⟩), ?_, h1.1, b, q, _, c, hv, rfl⟩
              simp only [execOp, ho, h1.2.1, hv, h2]
              rw [Sem.run_bind, run_indexAt_vi hd htei b q _ _ k n (by omega) (by omega) w]
              simp
            · exact h.elim
          · exact h.elim
  · exact h.elim

/-! ### A piece of a slice -/
def bnd (env : Nat → AV) (d : Int) : Option Operand → (Int → Prop) → Prop
  | none, K => K d
  | some x, K => match opv env x with
    | .c (.pv (.int _ i)) => K i
    | _ => False
theorem bnd_eq {env : Nat → AV} {d : Int} {x : Option Operand} {K : Int → Prop} (h : bnd env d x K) : (x = none ∧ K d) ∨ ∃ y k i, x = some y ∧ opv env y = .c (.pv (.int k i)) ∧ K i := by
  cases x with
  | none => exact .inl ⟨rfl, h⟩
  | some y =>
    unfold bnd at h
    split at h
    · rename_i e; cases e
    · rename_i z K' e
      cases e
      split at h
      · rename_i k i hy
        exact .inr ⟨y, k, i, rfl, hy, h⟩
      · exact h.elim
def kSlice (Γ : TG) (dm : Bool) (env : Nat → AV) (res : Res) (id : Nat) (t : TypeId) (x : Operand) (lo hi mx : Option Operand) (K : KT) : Prop :=
  match Γ t, mx with
  | some ti, none => (match ti.elem with
    | some e => (match Γ e with
      | none => False
      | some te => match opv env x with
        | .c (.pv (.sl sz xs)) => bnd env 0 lo fun l => bnd env xs.length hi fun h => ∃ ys : List (List PV), (((0 ≤ l ∧ l ≤ h) ∧ h ≤ xs.length) ∧ ys = (xs.take h.toNat).drop l.toNat ∧ sz = te.sz) ∧ K (.c (.pv (.sl sz ys))) [] []
        | .c (.row tk) => (match res tk with
          | some (.ro sz xs) => bnd env 0 lo fun l => bnd env xs.length hi fun h => ∃ ys : List (List PV), (((0 ≤ l ∧ l ≤ h) ∧ h ≤ xs.length) ∧ ys = (xs.take h.toNat).drop l.toNat ∧ sz = te.sz) ∧ K (.c (.pv (.sl sz ys))) [] [tk]
          | some (.row own sz xs) => (match dm with
            | false => bnd env 0 lo fun l => bnd env xs.length hi fun h => ∃ ys : List (List PV), (((0 ≤ l ∧ l ≤ h) ∧ h ≤ xs.length) ∧ ys = (xs.take h.toNat).drop l.toNat ∧ sz = te.sz) ∧ (K (.c (.pv (.sl sz ys))) [(tk, some (.ro sz xs))] [tk] ∨ K (.c (.row id)) [(tk, none), (id, some (.row own sz ys))] [tk])
            | true => False)
          | some (.tl sz t2) => (match dm, res t2, hi with
            | false, some (.row own sz2 ys), none => bnd env 0 lo fun l => (l = 1 ∧ sz = te.sz) ∧ K (.c (.row t2)) [] [tk, t2]
            | _, _, _ => False)
          | _ => False)
        | .c (.nil sz) => bnd env 0 lo fun l => bnd env 0 hi fun h => (l = 0 ∧ h = 0) ∧ K (.c (.nil sz)) [] []
        | _ => False)
    | none => match ti.str, opv env x with
      | true, .c (.pv (.str s)) => bnd env 0 lo fun l => bnd env s.size hi fun h => ((0 ≤ l ∧ l ≤ h) ∧ h ≤ s.size) ∧ K (.c (.pv (.str (s.extract l.toNat h.toNat)))) [] []
      | _, _ => False)
  | _, _ => False
theorem run_sliceBounds {isSlice : Bool} {len cap : Nat} {lo hi : Option Value} {l h : Nat} (hl : lo = none ∧ l = 0 ∨ ∃ k, lo = some (.int k l)) (hh : hi = none ∧ h = len ∨ ∃ k, hi = some (.int k h)) (h1 : l ≤ h) (h2 : h ≤ cap) (w : World) :
    (Instr.sliceBounds isSlice len cap lo hi none).run P w = .ok (l, h, cap) w := by
  rcases hl with ⟨rfl, rfl⟩ | ⟨k, rfl⟩ <;> rcases hh with ⟨rfl, rfl⟩ | ⟨k', rfl⟩ <;> simp [Instr.sliceBounds, Instr.sliceBound, asIntOf, h1, h2]
theorem rep_piece {w : World} {S : Nat → Prop} {sz : Nat} {xs : List (List PV)} {A : Option Addr} {c : Nat} (hr : Rep w S (.sl sz xs) (.slice A xs.length c)) {l h : Nat} (h1 : l ≤ h) (h2 : h ≤ xs.length) :
    Rep w S (.sl sz ((xs.take h).drop l)) (.slice (if c = l then A else A.map (·.add (l * sz))) (h - l) (c - l)) := by
  have hlen : ((xs.take h).drop l).length = h - l := by simp; omega
  cases hr with
  | sl _ _ _ _ us hc hm hz ha hr =>
    rw [← hlen]
    have hat : ∀ i j p, at2 ((xs.take h).drop l) i j = some p → at2 xs (l + i) j = some p := by
      intro i j p hp
      unfold at2 at *
      rw [List.getElem?_drop, List.getElem?_take] at hp
      split at hp
      · exact hp
      · simp at hp
    refine .sl sz _ _ (c - l) (fun i j => us (l + i) j) (by rw [hlen]; omega) (by omega) (fun el hel => hz el (List.mem_of_mem_take (List.mem_of_mem_drop hel))) (fun hne => ?_) fun i j p hp => hr _ _ p (hat i j p hp)
    have hlh : l < h := by
      rcases Nat.lt_or_ge l h with h0 | h0
      · exact h0
      · exact absurd (List.eq_nil_of_length_eq_zero (by rw [hlen]; omega)) hne
    obtain ⟨b, q, rfl, hS, hcell⟩ := ha (fun h0 => by subst h0; simp at h2; omega)
    refine ⟨b, q + l * sz, ?_, hS, fun i j p hp => ?_⟩
    · rw [if_neg (by omega)]
      simp [add_at]
    · have := hcell _ _ p (hat i j p hp)
      rw [Nat.add_mul] at this
      rwa [show q + l * sz + i * sz + j = q + (l * sz + i * sz) + j by omega]
theorem run_slice_vi {t e : TypeId} {te : TI} (hd : P.underlying t = some (.slice e)) (hte : TIOk P e te) {A : Option Addr} {len cap : Nat} {lo hi : Option Value} {l h : Nat}
    (hl : lo = none ∧ l = 0 ∨ ∃ k, lo = some (.int k l)) (hh : hi = none ∧ h = len ∨ ∃ k, hi = some (.int k h)) (h1 : l ≤ h) (h2 : h ≤ cap) (w : World) :
    (Instr.sliceAt t (.slice A len cap) lo hi none).run P w = .ok (.slice (if cap = l then A else A.map (·.add (l * te.sz))) (h - l) (cap - l)) w := by
  simp [Instr.sliceAt, run_underlying hd, Instr.slice, run_sliceBounds (P := P) (isSlice := true) hl hh h1 h2, hte.sizeOf]
/-- Bounds as the machine has them. -/
theorem bnd_ev {g : G} {w : World} {a : Act} {env : Nat → AV} {lo : Option Operand} {d i : Int} (h : (lo = none ∧ i = d) ∨ ∃ y k, lo = some y ∧ opv env y = .c (.pv (.int k i))) (hop : ∀ y, lo = some y → RepAV g w (opv env y) (a.eval y)) (h0 : 0 ≤ i) :
    (lo.map a.eval = none ∧ i = d) ∨ ∃ k, lo.map a.eval = some (.int k (i.toNat : Int)) := by
  rcases h with ⟨rfl, rfl⟩ | ⟨y, k, rfl, hy⟩
  · exact .inl ⟨rfl, rfl⟩
  · have := rep_int (hy ▸ hop y rfl)
    exact .inr ⟨k, by simp [this, Int.toNat_of_nonneg h0]⟩
theorem bnd_or {env : Nat → AV} {d : Int} {x : Option Operand} {K : Int → Prop} (h : bnd env d x K) : ∃ i, K i ∧ ((x = none ∧ i = d) ∨ ∃ y k, x = some y ∧ opv env y = .c (.pv (.int k i))) := by
  rcases bnd_eq h with ⟨h1, h2⟩ | ⟨y, k, i, h1, h2, h3⟩
  · exact ⟨d, h2, .inl ⟨h1, rfl⟩⟩
  · exact ⟨i, h3, .inr ⟨y, k, h1, h2⟩⟩
theorem mut_cut {dm : Bool} {own : Bool} {sz : Nat} {xs ys : List (List PV)} {A : Option Addr} (hA : A = none ∨ ∃ b o, A = some ⟨b, o, none⟩) {n c l k n' c' : Nat} {x : Nat} : Mut dm (.slice (if c = l then A else A.map (·.add k)) n' c') (.row own sz ys) x ↔ Mut dm (.slice A n c) (.row own sz xs) x := by
  have : (Value.slice (if c = l then A else A.map (·.add k)) n' c').ownBlock = (Value.slice A n c).ownBlock := by
    rcases hA with rfl | ⟨b, o, rfl⟩
    · split <;> rfl
    · split
      · rfl
      · rw [Option.map_some, add_at]; rfl
  unfold Mut
  rw [this]
/-- A piece of a row of the call's own. -/
theorem row_piece {w : World} {S D : Nat → Prop} {own : Bool} {sz : Nat} {xs : List (List PV)} {A : Option Addr} {c : Nat} (hr : RowOk w S D own sz xs (.slice A xs.length c)) {l h : Nat} (h1 : l ≤ h) (h2 : h ≤ xs.length) :
    RowOk w S D own sz ((xs.take h).drop l) (.slice (if c = l then A else A.map (·.add (l * sz))) (h - l) (c - l)) := by
  rcases hr with ⟨rfl, hv⟩ | ⟨b, o, c2, e, cs, us, Ds, hv, hg, hh, hsz, hc, hm, hz, ha, hDs, hdis, hel⟩
  · cases hv
    obtain rfl : h = 0 := by simpa using h2
    obtain rfl : l = 0 := by omega
    exact .inl ⟨rfl, rfl⟩
  · cases hv
    have hlen : ((xs.take h).drop l).length = h - l := by simp; omega
    have hat : ∀ i j p, at2 ((xs.take h).drop l) i j = some p → at2 xs (i + l) j = some p ∧ i + l < xs.length := by
      intro i j p hp
      unfold at2 at hp ⊢
      rw [List.getElem?_drop, List.getElem?_take] at hp
      split at hp
      · rw [Nat.add_comm] at hp
        refine ⟨hp, ?_⟩
        cases hq : xs[i + l]? with
        | none => rw [hq] at hp; cases hp
        | some el => exact (List.getElem?_eq_some_iff.1 hq).1
      · cases hp
    refine .inr ⟨b, if c = l then o else o + l * sz, c - l, e, cs, fun i j => us (i + l) j, fun i j => Ds (i + l) j, ?_, hg, hh, ?_, by rw [hlen]; omega, by omega, fun el hel => hz el (List.mem_of_mem_take (List.mem_of_mem_drop hel)), fun i j p hp => ?_, fun i j x hx => hDs _ j x hx, fun i j i' j' x hx hx' => ?_, fun i j p hp => hel _ j p (hat i j p hp).1⟩
    · rw [hlen]
      split
      · rfl
      · rw [Option.map_some, add_at]
    · split
      · rename_i he
        rw [he, Nat.sub_self, Nat.zero_mul]
        omega
      · have : l * sz + (c - l) * sz = c * sz := by rw [← Nat.add_mul]; congr 1; omega
        omega
    · have h3 := hat i j p hp
      have h4 := ha _ j p h3.1
      rw [if_neg (by omega)]
      rw [Nat.add_mul] at h4
      rw [← h4]
      congr 1
      omega
    · have := hdis _ _ _ _ x hx hx'
      exact ⟨by omega, this.2⟩
theorem good_slice (hΓ : TGOk P Γ) {t : TypeId} {x : Operand} {lo hi mx : Option Operand} (ho : o.op = .slice t x lo hi mx) (h : kSlice Γ dm env res id t x lo hi mx K) : Good P dm o env res id K := by
  have hox : x ∈ o.op.operands := by simp [ho, Op.operands]
  have hol : ∀ y, lo = some y → y ∈ o.op.operands := by intro y hy; subst hy; simp [ho, Op.operands]
  have hoh : ∀ y, hi = some y → y ∈ o.op.operands := by intro y hy; subst hy; simp [ho, Op.operands]
  unfold kSlice at h
  split at h
  · rename_i ti ht
    have hti := hΓ t ti ht
    obtain ⟨d, hd, _, hel, _, hst, _⟩ := hti.desc
    split at h
    · rename_i e he
      split at h
      · exact h.elim
      · rename_i te hte
        rw [hel e he] at hd
        have htei := hΓ e te hte
        -- the run, whatever the slice is
        have run : ∀ (xs : List (List PV)) (l h : Int), (((0 ≤ l ∧ l ≤ h) ∧ h ≤ xs.length)) → ((lo = none ∧ l = 0) ∨ ∃ y k, lo = some y ∧ opv env y = .c (.pv (.int k l))) → ((hi = none ∧ h = (xs.length : Int)) ∨ ∃ y k, hi = some y ∧ opv env y = .c (.pv (.int k h))) →
            ∀ (g : G) (w : World) (a : Act) (A : Option Addr) (c : Nat), OpsAt o env g w a → a.eval x = .slice A xs.length c → xs.length ≤ c →
              (execOp a.eval o).run P w = .ok (.value (.slice (if c = l.toNat then A else A.map (·.add (l.toNat * te.sz))) (h.toNat - l.toNat) (c - l.toNat))) w := by
          intro xs l h hb hl hh g w a A c hop hx hc
          have e1 := bnd_ev (g := g) (w := w) (a := a) hl (fun y hy => hop y (hol y hy)) hb.1.1
          have e2 := bnd_ev (g := g) (w := w) (a := a) hh (fun y hy => hop y (hoh y hy)) (by omega)
          have e1' : lo.map a.eval = none ∧ l.toNat = 0 ∨ ∃ k, lo.map a.eval = some (.int k (l.toNat : Int)) := by
            rcases e1 with ⟨e, e'⟩ | e
            · exact .inl ⟨e, by omega⟩
            · exact .inr e
          have e2' : hi.map a.eval = none ∧ h.toNat = xs.length ∨ ∃ k, hi.map a.eval = some (.int k (h.toNat : Int)) := by
            rcases e2 with ⟨e, e'⟩ | e
            · exact .inl ⟨e, by omega⟩
            · exact .inr e
          have hr := run_slice_vi (P := P) hd htei (A := A) (len := xs.length) (cap := c) e1' e2' (by omega) (by omega) w
          simp only [execOp, ho, hx, Option.map_none]
          rw [Sem.run_bind, hr]
          rfl
        split at h
        · rename_i sz xs hx
          obtain ⟨l, hq, hl⟩ := bnd_or h
          obtain ⟨m, hK, hh⟩ := bnd_or hq
          obtain ⟨ys, ⟨hb, rfl, rfl⟩, hK⟩ := hK
          refine good_pure [] (by simp) (by simpa using hK) fun w0 g res w a hM hop _ => ?_
          have h1 := hop x hox
          rw [hx] at h1
          have h1 : Rep w g.S (.sl te.sz xs) (a.eval x) := h1
          obtain ⟨A, c, hs⟩ := h1.slice
          rw [hs] at h1
          have hc : xs.length ≤ c := by cases h1; assumption
          exact ⟨_, run xs l m hb hl hh g w a A c hop hs hc, rav (rep_piece h1 (by omega) (by omega))⟩
        · rename_i tk hx
          split at h
          · rename_i sz xs hres
            obtain ⟨l, hq, hl⟩ := bnd_or h
            obtain ⟨m, hK, hh⟩ := bnd_or hq
            obtain ⟨ys, ⟨hb, rfl, rfl⟩, hK⟩ := hK
            refine good_pure [(tk, .ro te.sz xs)] (by simpa using hres) (by simpa using hK) fun w0 g res w a hM hop hr => ?_
            have h1 := hop x hox
            rw [hx] at h1
            have h2 : Rep w g.S (.sl te.sz xs) (g.σ tk) := (hM.tok tk (.ro te.sz xs) (hr tk _ (by simp))).2
            obtain ⟨A, c, hs⟩ := h2.slice
            rw [hs] at h2
            have hc : xs.length ≤ c := by cases h2; assumption
            exact ⟨_, run xs l m hb hl hh g w a A c hop (h1.2.1.trans hs) hc, rav (rep_piece h2 (by omega) (by omega))⟩
          · rename_i own sz xs hres
            split at h
            · obtain ⟨l, hq, hl⟩ := bnd_or h
              obtain ⟨m, hK, hh⟩ := bnd_or hq
              obtain ⟨ys, ⟨hb, rfl, rfl⟩, hK⟩ := hK
              rcases hK with hK | hK
              · refine ⟨_, _, [(tk, .row own te.sz xs)], fun w0 g res w a hM hop hr hid => ?_, by simpa using hres, hK⟩
                have h1 := hop x hox
                rw [hx] at h1
                have hr1 : res tk = some (.row own te.sz xs) := hr tk _ (by simp)
                have h0 : RowOk w g.S (g.D tk) own te.sz xs (g.σ tk) := (hM.tok tk _ hr1).2
                obtain ⟨A, c, hs, hc, _⟩ := h0.len
                obtain ⟨hM', ev⟩ := hM.freeze hr1
                have h2 : Rep w (g.drop res [tk]).S (.sl te.sz xs) (g.σ tk) := (hM'.tok tk (.ro te.sz xs) (upd_same _ _ _)).2
                rw [hs] at h2
                exact runs_value (run xs l m hb hl hh g w a A c hop (h1.2.1.trans hs) hc) ⟨_, hM', ev, rav (rep_piece h2 (by omega) (by omega)), fun x hx => .inl hx⟩
              · refine ⟨_, _, [(tk, .row own te.sz xs)], fun w0 g res w a hM hop hr hid => ?_, by simpa using hres, hK⟩
                have h1 := hop x hox
                rw [hx] at h1
                have hr1 : res tk = some (.row own te.sz xs) := hr tk _ (by simp)
                have h0 : RowOk w g.S (g.D tk) own te.sz xs (g.σ tk) := (hM.tok tk _ hr1).2
                obtain ⟨A, c, hs, hc, _⟩ := h0.len
                have hrun := run xs l m hb hl hh g w a A c hop (h1.2.1.trans hs) hc
                have hA : A = none ∨ ∃ b o, A = some ⟨b, o, none⟩ := by
                  rw [hs] at h0
                  rcases h0 with ⟨_, hv⟩ | ⟨b, o, _, _, _, _, _, hv, _⟩
                  · exact .inl (by injection hv)
                  · exact .inr ⟨b, o, by injection hv⟩
                obtain ⟨hM', ev⟩ := hM.move (t := id) (hid id (Nat.le_refl _) (by omega)) hr1 (.slice (if c = l.toNat then A else A.map (·.add (l.toNat * te.sz))) (m.toNat - l.toNat) (c - l.toNat)) (.row own te.sz ((xs.take m.toNat).drop l.toNat))
                  (fun y => by rw [hs]; exact mut_cut hA) (fun y => by rw [hs]; exact mut_cut hA) (by
                    show RowOk w _ _ own te.sz _ _
                    rw [show (g.mk1 id (.slice (if c = l.toNat then A else A.map (·.add (l.toNat * te.sz))) (m.toNat - l.toNat) (c - l.toNat)) (g.D tk) g.S).D id = g.D tk from upd_same _ _ _]
                    rw [show (g.mk1 id (.slice (if c = l.toNat then A else A.map (·.add (l.toNat * te.sz))) (m.toNat - l.toNat) (c - l.toNat)) (g.D tk) g.S).σ id = _ from upd_same _ _ _]
                    rw [hs] at h0
                    exact row_piece h0 (by omega) (by omega))
                exact runs_value hrun ⟨_, hM', ev, ⟨.inr rfl, (upd_same _ _ _).symm, rfl⟩, fun x hx => by rcases hx with hx | rfl; exact .inl hx; exact .inr (by omega)⟩
            · exact h.elim
          · rename_i sz t2 hres
            split at h
            · rename_i own sz2 ys hr2
              obtain ⟨l, ⟨⟨rfl, rfl⟩, hK⟩, hl⟩ := bnd_or h
              refine good_pure [(tk, .tl te.sz t2), (t2, .row own sz2 ys)] (fun t r hm => by simp at hm; rcases hm with ⟨rfl, rfl⟩ | ⟨rfl, rfl⟩ <;> assumption) (by simpa using hK) fun w0 g res w a hM hop hr => ?_
              have h1 := hop x hox
              rw [hx] at h1
              obtain ⟨hU, A, n, c, hs, hc, hs2⟩ := (hM.tok tk (.tl te.sz t2) (hr tk _ (by simp))).2
              have hrun := run (List.replicate (n + 1) []) 1 ((n : Int) + 1) (by simp; omega) hl (.inl ⟨rfl, by simp⟩) g w a A c hop (by rw [List.length_replicate]; exact h1.2.1.trans hs) (by simpa using hc)
              refine ⟨_, hrun, hU, ?_, rfl⟩
              rw [hs2]
              show Value.slice (if c = 1 then A else A.map (·.add (1 * te.sz))) (((n : Int) + 1).toNat - 1) (c - 1) = _
              rw [show ((n : Int) + 1).toNat - 1 = n by omega]
            · exact h.elim
          · exact h.elim
        · rename_i sz hx
          obtain ⟨l, hq, hl⟩ := bnd_or h
          obtain ⟨m, ⟨⟨rfl, rfl⟩, hK⟩, hh⟩ := bnd_or hq
          refine good_pure [] (by simp) (by simpa using hK) fun w0 g res w a hM hop _ => ?_
          have h1 := hop x hox
          rw [hx] at h1
          have h1 : a.eval x = .slice none 0 0 := h1
          refine ⟨.slice none 0 0, ?_, rfl⟩
          have := run [] 0 0 (by simp) hl (by simpa using hh) g w a none 0 hop (by simpa using h1) (by simp)
          simpa using this
        · exact h.elim
    · split at h
      · rename_i hs s hstr hx
        obtain ⟨l, hq, hl⟩ := bnd_or h
        obtain ⟨m, ⟨hb, hK⟩, hh⟩ := bnd_or hq
        rw [hst hstr] at hd
        refine good_pure [] (by simp) (by simpa using hK) fun w0 g res w a hM hop _ => ?_
        have h1 := rep_str (hx ▸ hop x hox)
        have e1 := bnd_ev (g := g) (w := w) (a := a) hl (fun y hy => hop y (hol y hy)) hb.1.1
        have e2 := bnd_ev (g := g) (w := w) (a := a) hh (fun y hy => hop y (hoh y hy)) (by omega)
        have e1' : lo.map a.eval = none ∧ l.toNat = 0 ∨ ∃ k, lo.map a.eval = some (.int k (l.toNat : Int)) := by
          rcases e1 with ⟨e, e'⟩ | e
          · exact .inl ⟨e, by omega⟩
          · exact .inr e
        have e2' : hi.map a.eval = none ∧ m.toNat = s.size ∨ ∃ k, hi.map a.eval = some (.int k (m.toNat : Int)) := by
          rcases e2 with ⟨e, e'⟩ | e
          · exact .inl ⟨e, by omega⟩
          · exact .inr e
        refine ⟨.string (s.extract l.toNat m.toNat), ?_, rav (.str _)⟩
        have hr := run_sliceBounds (P := P) (isSlice := false) (len := s.size) (cap := s.size) e1' e2' (by omega) (by omega) w
        simp [execOp, ho, h1, Instr.sliceAt, run_underlying hd, Instr.slice, hr]
      · exact h.elim
  · exact h.elim

/-! ### make -/
def zpv : AC → PV
  | .pv p => p
  | .nil s => .sl s []
  | _ => .bool false
def kMake (Γ : TG) (dm : Bool) (env : Nat → AV) (id : Nat) (t : TypeId) (x y : Operand) (K : KT) : Prop :=
  match dm, Γ t, opv env x, opv env y with
  | false, some ti, .c (.pv (.int _ i)), .c (.pv (.int _ j)) => (match ti.elem with
    | some e => match Γ e with
      | some te => ∃ (n : Nat) (xs : List (List PV)), (((i = (n : Int) ∧ j = (n : Int)) ∧ te.bytes * n ≤ 140737488355328 ∧ 1 ≤ te.bytes) ∧ xs = List.replicate n (te.zero.map zpv)) ∧ K (.c (.row id)) [(id, some (.row true te.sz xs))] []
      | none => False
    | none => False)
  | _, _, _, _ => False
theorem takeZ (z : List AC) (hz : ∀ a ∈ z, zeroC a = true) : ∃ own, TakeOk res z (z.map zpv) [] own := by
  induction z with
  | nil => exact ⟨_, .nil⟩
  | cons a l ih =>
    obtain ⟨own, h⟩ := ih fun a ha => hz a (by simp [ha])
    have := hz a (by simp)
    cases a with
    | pv p => exact ⟨_, .pv p h⟩
    | nil s => exact ⟨_, .nl s h⟩
    | _ => simp [zeroC] at this
theorem takeZ1 (z : List AC) (hz : ∀ a ∈ z, zeroC a = true) : TakeOk res z (z.map zpv) [] true := by
  induction z with
  | nil => exact .nil
  | cons a l ih =>
    have h := ih fun a ha => hz a (by simp [ha])
    have hc := hz a (by simp)
    cases a with
    | pv p =>
      have h2 := TakeOk.pv (res := res) p h
      have : p.flat = true := by cases p <;> first | rfl | simp [zeroC] at hc
      rw [this] at h2
      exact h2
    | nil s => exact .nl s h
    | _ => simp [zeroC] at hc
theorem TakeOk.append {l l' : List AC} {ps ps' : List PV} {ts ts' : List Nat} {own : Bool} (h : TakeOk res l ps ts own) (ho : true = own) (h' : TakeOk res l' ps' ts' true) : TakeOk res (l ++ l') (ps ++ ps') (ts ++ ts') own := by
  induction h with
  | nil => exact h'
  | pv p h2 ih =>
    rename_i own'
    have e := (Bool.and_eq_true _ _ ▸ ho.symm : p.flat = true ∧ own' = true)
    have h3 := TakeOk.pv p (ih e.2.symm)
    exact h3
  | nl sz h2 ih => exact .nl sz (ih ho)
  | row t hr h2 ih =>
    rename_i o' sz xs l ps ts own'
    have e := (Bool.and_eq_true _ _ ▸ ho.symm : o' = true ∧ own' = true)
    have h3 := TakeOk.row t hr (ih e.2.symm)
    exact h3
  | ro t hr h2 ih => cases ho
  | fro t hr h2 ih => exact .fro t hr (ih ho)
theorem takeRep (z : List AC) (hz : ∀ a ∈ z, zeroC a = true) : ∀ n, TakeOk res (repZ z n) (List.replicate n (z.map zpv)).flatten [] true
  | 0 => .nil
  | n + 1 => by
    have := TakeOk.append (takeZ1 (res := res) z hz) rfl (takeRep z hz n)
    simpa [repZ, List.replicate_succ] using this
theorem at2_rep {z : List PV} : ∀ {n i j : Nat} {p : PV}, at2 (List.replicate n z) i j = some p → (List.replicate n z).flatten[i * z.length + j]? = some p
  | 0, i, j, p, h => by simp [at2] at h
  | n + 1, 0, j, p, h => by
    have h : z[j]? = some p := by simpa [at2, List.replicate_succ] using h
    have hj : j < z.length := (List.getElem?_eq_some_iff.1 h).1
    simp [List.replicate_succ, List.getElem?_append, hj] at h ⊢
    exact h
  | n + 1, i + 1, j, p, h => by
    have ih := at2_rep (n := n) (i := i) (j := j) (p := p) (by simpa [at2, List.replicate_succ] using h)
    rw [List.replicate_succ, List.flatten_cons, List.getElem?_append, if_neg (by rw [Nat.succ_mul]; omega), show (i + 1) * z.length + j - z.length = i * z.length + j by rw [Nat.succ_mul]; omega]
    exact ih
theorem good_make (hΓ : TGOk P Γ) {t : TypeId} {x y : Operand} (ho : o.op = .makeSlice t x y) (h : kMake Γ dm env id t x y K) : Good P dm o env res id K := by
  have hox : x ∈ o.op.operands := by simp [ho, Op.operands]
  have hoy : y ∈ o.op.operands := by simp [ho, Op.operands]
  unfold kMake at h
  split at h
  · rename_i ti k i k' j ht hx hy
    split at h
    · rename_i e he
      split at h
      · rename_i te hte
        obtain ⟨n, xs, ⟨⟨⟨rfl, rfl⟩, hby, hb1⟩, rfl⟩, hK⟩ := h
        have htei := hΓ e te hte
        obtain ⟨i, z, hi, hs, hb, hzz, hc⟩ := htei.info
        have hzsz : z.cells.size = te.sz := by have := congrArg List.length hc; simp at this; rw [this, htei.zl]
        obtain ⟨d, hd, _, hel, _⟩ := (hΓ t ti ht).desc
        rw [hel e he] at hd
        have hzl : (te.zero.map zpv).length = te.sz := by simp [htei.zl]
        have hn : n ≤ 140737488355328 := Nat.le_trans (Nat.le_mul_of_pos_left n hb1) hby
        have hrt : rowToks (repZ te.zero n) = [] := by
          have h1 : ∀ l : List AC, (∀ a ∈ l, zeroC a = true) → ∀ m, (∀ a ∈ m, zeroC a = true) → rowToks (l ++ m) = [] := by
            intro l
            induction l with
            | nil =>
              intro _ m
              induction m with
              | nil => intro _; rfl
              | cons a m ih =>
                intro hm
                have h2 := ih fun a ha => hm a (by simp [ha])
                have h3 := hm a (by simp)
                cases a <;> first | exact h2 | simp [zeroC] at h3
            | cons a l ih =>
              intro hl m hm
              have h2 := ih (fun a ha => hl a (by simp [ha])) m hm
              have h3 := hl a (by simp)
              cases a <;> first | exact h2 | simp [zeroC] at h3
          have h2 : ∀ n, ∀ a ∈ repZ te.zero n, zeroC a = true := by
            intro n
            induction n with
            | zero => simp [repZ]
            | succ n ih =>
              intro a ha
              rcases List.mem_append.1 ha with ha | ha
              · exact htei.zc a ha
              · exact ih a ha
          exact h1 [] (by simp) _ (h2 n)
        refine good_newRow (n := n) (sz := te.sz) (xs := List.replicate n (te.zero.map zpv)) rfl (takeRep te.zero htei.zc n) List.nodup_nil (by simp) (by omega) (fun el hel => by
          have := List.eq_of_mem_replicate hel
          rw [this, hzl]) (by simp [hzl]) (fun i j p hp => by
          have := at2_rep hp
          rwa [hzl] at this) (by rw [hrt]; exact hK) fun g w a hop => ?_
        have h1 := rep_int (hx ▸ hop x hox)
        have h2 := rep_int (hy ▸ hop y hoy)
        have hr := run_make (P := P) w t e i z hd hi hzz k k' n n (by omega) (Int.le_refl _) (by
          have h3 : ((i.bytes * n : Nat) : Int) ≤ 281474976710656 := by rw [hb]; omega
          rwa [Int.natCast_mul] at h3) (by omega)
        simp only [Int.toNat_natCast] at hr
        refine ⟨(madeCells z.cells (n * i.size)).toList, e, ?_, ?_⟩
        · simp [execOp, ho, h1, h2, hr]
        · have := zeros_rep (g := g) (w := w) htei.zc hc n
          rw [hs, ← hzsz]
          exact this
      · exact h.elim
    · exact h.elim
  · exact h.elim
end
end Go.Vi
