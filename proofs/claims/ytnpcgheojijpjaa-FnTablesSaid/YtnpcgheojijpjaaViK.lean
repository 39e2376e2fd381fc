/- Operation by operation: append, as the abstract state has it. -/
import Derived.Test.YtnpcgheojijpjaaViJ
import Derived.Lib.AppendZerosOnto
set_option linter.unusedVariables false
set_option linter.unusedSimpArgs false
namespace Go.Vi
open Go.RowKit
section
variable {P : Program} {Γ : TG} {dm : Bool} {o : Oper} {env : Nat → AV} {res : Res} {id : Nat} {K : KT}
/-- What may be appended: a slice, a string. -/
def KindOk (P : Program) (tx : TypeId) : Prop := (∃ e', P.underlying tx = some (.slice e')) ∨ P.underlying tx = some .string
def strT (Γ : TG) (t : TypeId) : Bool :=
  match Γ t with
  | some ti => ti.str
  | none => false
theorem strT_ok (hΓ : TGOk P Γ) {t : TypeId} (h : strT Γ t = true) : P.underlying t = some .string := by
  unfold strT at h
  split at h
  · rename_i ti ht
    obtain ⟨d, hd, _, _, _, hst, _⟩ := (hΓ t ti ht).desc
    rw [hd, hst h]
  · cases h
def Flat (ys : List (List PV)) : Prop := ∀ el ∈ ys, ∀ p ∈ el, p.flat = true
def srcA (res : Res) (te : TI) (v : AV) (K : List (List PV) → Bool → List Nat → List Nat → Prop) : Prop :=
  match te.flat, v with
  | _, .c (.nil _) => K [] true [] []
  | true, .c (.pv (.str s)) => te.sz = 1 ∧ K (s.data.toList.map fun b => [PV.int .u8 b.toNat]) true [] []
  | true, .c (.pv (.sl sz ys)) => (sz = te.sz ∧ Flat ys) ∧ K ys true [] []
  | true, .c (.row t2) => (match res t2 with
    | some (.row _ sz ys) => (sz = te.sz ∧ Flat ys) ∧ K ys true [] [t2]
    | some (.ro sz ys) => (sz = te.sz ∧ Flat ys) ∧ K ys true [] [t2]
    | _ => False)
  | false, .c (.pv (.sl sz ys)) => sz = te.sz ∧ K ys false [] []
  | false, .c (.row t2) => (match res t2 with
    | some (.row own sz ys) => sz = te.sz ∧ K ys own [t2] [t2]
    | some (.ro sz ys) => sz = te.sz ∧ K ys false [] [t2]
    | _ => False)
  | _, _ => False
def kAppend (Γ : TG) (dm : Bool) (env : Nat → AV) (res : Res) (id : Nat) (t : TypeId) (s x : Operand) (K : KT) : Prop :=
  match dm, Γ t with
  | false, some ti => (match ti.elem with
    | some e => (match Γ e with
      | some te => (match Nat.ble 1 te.sz && Nat.ble 1 te.bytes with
        | true => srcA res te (opv env x) fun ys own2 ts2 rd2 => match opv env s with
          | .c (.nil _) => ∃ zs : List (List PV), (ys.length * te.bytes ≤ 140737488355328 ∧ zs = ys) ∧ K (.c (.row id)) (drops ts2 ++ [(id, some (.row own2 te.sz zs))]) rd2
          | .c (.row t1) => (match res t1 with
            | some (.row own1 sz xs) => (match Nat.beq sz te.sz && ts2.all (fun t => !(Nat.beq t t1)) with
              | true => ∃ zs : List (List PV), ((xs.length + ys.length) * te.bytes ≤ 140737488355328 ∧ zs = xs ++ ys) ∧ K (.c (.row id)) (drops ts2 ++ [(t1, none), (id, some (.row (own1 && own2) te.sz zs))]) (t1 :: rd2)
              | false => False)
            | _ => False)
          | _ => False
        | false => False)
      | none => False)
    | none => False)
  | _, _ => False
theorem at2_some {ys : List (List PV)} {sz : Nat} (hz : ∀ el ∈ ys, el.length = sz) {k : Nat} (hk : k < ys.length * sz) : ∃ p, at2 ys (k / sz) (k % sz) = some p := by
  have hsz : 0 < sz := by
    rcases Nat.eq_zero_or_pos sz with h | h
    · subst h; simp at hk
    · exact h
  have h1 : k / sz < ys.length := Nat.div_lt_of_lt_mul (by rw [Nat.mul_comm]; exact hk)
  have h2 := hz _ (List.getElem_mem h1)
  have h3 : k % sz < ys[k / sz].length := by rw [h2]; exact Nat.mod_lt _ hsz
  exact ⟨ys[k / sz][k % sz], by simp [at2, List.getElem?_eq_getElem h1, List.getElem?_eq_getElem h3]⟩
theorem src_of {w : World} {S F : Nat → Prop} {own : Bool} {sz : Nat} {ys : List (List PV)} {A : Option Addr} {c : Nat} {us : Nat → Nat → Value} {Ds : Nat → Nat → Nat → Prop} {tx : TypeId} (hk : KindOk P tx) (hz : ∀ el ∈ ys, el.length = sz)
    (hc : ys ≠ [] → ∃ b q, A = some ⟨b, q, none⟩ ∧ ∀ i j p, at2 ys i j = some p → w.cell? ⟨b, q + i * sz + j, none⟩ = some (us i j)) (he : ∀ i j p, at2 ys i j = some p → (us i j).oneCell' = true ∧ ElOk w S (Ds i j) own p (us i j))
    (hF : ∀ i j x, Ds i j x → F x) (hd : ∀ i j i' j' x, Ds i j x → Ds i' j' x → i = i' ∧ j = j') :
    SrcOk P w S F tx own sz ys (.slice A ys.length c) ((List.range (ys.length * sz)).map fun k => us (k / sz) (k % sz)) Ds := by
  have hget : ∀ (k : Nat) u, ((List.range (ys.length * sz)).map fun k => us (k / sz) (k % sz))[k]? = some u → k < ys.length * sz ∧ u = us (k / sz) (k % sz) := by
    intro k u h
    have hk : k < ys.length * sz := by have := (List.getElem?_eq_some_iff.1 h).1; simpa using this
    simp [hk] at h
    exact ⟨hk, h.symm⟩
  have hone : ∀ u ∈ ((List.range (ys.length * sz)).map fun k => us (k / sz) (k % sz)), u.oneCell' = true := by
    intro u hu
    obtain ⟨k, hk0⟩ := List.getElem?_of_mem hu
    obtain ⟨hk, rfl⟩ := hget k u hk0
    obtain ⟨p, hp⟩ := at2_some hz hk
    exact (he _ _ p hp).1
  refine ⟨?_, by simp, ?_, hz, ?_, hF, hd⟩
  · cases hys : ys with
    | nil =>
      have hcl : ∀ w' : World, (Builtin.firstCells sz 0 (.slice A 0 c)).run P w' = .ok #[] w' := by
        intro w'
        cases A with
        | none => simp [Builtin.firstCells]
        | some a => have := run_firstCells_some (P := P) w' sz 0 a 0 c [] (by simp) (by simp); simpa using this
      exact ⟨hk, fun _ => rfl, by simpa using hcl w, by simpa using hcl w.drew, by simp, by simp⟩
    | cons y0 ys0 =>
    rw [← hys]
    obtain ⟨b, q, rfl, hcell⟩ := hc (by rw [hys]; simp)
    have hx : ∀ (k : Nat) u, ((List.range (ys.length * sz)).map fun k => us (k / sz) (k % sz))[k]? = some u → w.cell? ((⟨b, q, none⟩ : Addr).add k) = some u := ?_
    · exact ⟨hk, fun _ => rfl, run_firstCells_some w sz ys.length _ ys.length c _ (by simp) hx, run_firstCells_some w.drew sz ys.length _ ys.length c _ (by simp) (by simpa using hx), by simp, hone⟩
    intro k u h
    obtain ⟨hk, rfl⟩ := hget k u h
    obtain ⟨p, hp⟩ := at2_some hz hk
    have := hcell _ _ p hp
    rw [add_at]
    have e : k / sz * sz + k % sz = k := by rw [Nat.mul_comm]; exact Nat.div_add_mod k sz
    rw [Nat.add_assoc, e] at this
    exact this
  · intro u hu
    obtain ⟨k, hk0⟩ := List.getElem?_of_mem hu
    obtain ⟨hk, rfl⟩ := hget k u hk0
    obtain ⟨p, hp⟩ := at2_some hz hk
    exact (he _ _ p hp).1
  · intro i j p hp
    have hij := at2_lt hz hp
    have hlt := pos_lt hij.1 hij.2
    have e1 : (i * sz + j) / sz = i := by rw [Nat.mul_comm, Nat.mul_add_div (by omega), Nat.div_eq_of_lt hij.2]; rfl
    have e2 : (i * sz + j) % sz = j := by rw [Nat.mul_comm, Nat.mul_add_mod]; exact Nat.mod_eq_of_lt hij.2
    exact ⟨us i j, by simp [hlt, e1, e2], (he i j p hp).2⟩
theorem flat_at {ys : List (List PV)} (h : Flat ys) {i j : Nat} {p : PV} (hp : at2 ys i j = some p) : p.flat = true := by
  unfold at2 at hp
  cases hx : ys[i]? with
  | none => simp [hx] at hp
  | some el =>
    simp [hx] at hp
    exact h el (List.mem_of_getElem? hx) p (List.mem_of_getElem? hp)
/-- The source, in a run. -/
theorem srcA_eq {tx : TypeId} (hk : KindOk P tx) {te : TI} {v : AV} {K : List (List PV) → Bool → List Nat → List Nat → Prop} (h : srcA res te v K) :
    ∃ ys own ts rd, K ys own ts rd ∧ ts.Nodup ∧ (∀ t ∈ ts, t ∈ rd) ∧ (∃ rs : List (Nat × ARes), (∀ t r, (t, r) ∈ rs → res t = some r) ∧ rs.map Prod.fst = rd ∧
      ∀ (w0 : Base) (g : G) (res' : Res) (w : World), Models false w0 g res' w → (∀ t r, (t, r) ∈ rs → res' t = some r) → ∀ x, RepAV g w v x →
        ∃ news Ds, SrcOk P w (g.drop res' ts).S (g.free res' ts) tx own te.sz ys x news Ds) := by
  -- a slice that is only read
  have readF : ∀ (ys : List (List PV)), Flat ys → ∀ (g : G) (res' : Res) (w : World) (ts : List Nat) (x : Value), Rep w g.S (.sl te.sz ys) x → ∃ news Ds, SrcOk P w (g.drop res' ts).S (g.free res' ts) tx true te.sz ys x news Ds := by
    intro ys hf g res' w ts x hr
    cases hr with
    | sl _ _ A c us hc hm hz ha hr =>
      refine ⟨_, fun _ _ _ => False, src_of hk hz (fun hn => ?_) (fun i j p hp => ⟨(hr i j p hp).one, (hr i j p hp).flat_own (flat_at hf hp)⟩) (fun _ _ _ h => h.elim) (fun _ _ _ _ _ h => h.elim)⟩
      obtain ⟨b, q, hA, _, hcell⟩ := ha hn
      exact ⟨b, q, hA, hcell⟩
  have readS : ∀ (ys : List (List PV)), ∀ (g : G) (res' : Res) (w : World) (ts : List Nat) (x : Value), Rep w g.S (.sl te.sz ys) x → ∃ news Ds, SrcOk P w (g.drop res' ts).S (g.free res' ts) tx false te.sz ys x news Ds := by
    intro ys g res' w ts x hr
    cases hr with
    | sl _ _ A c us hc hm hz ha hr =>
      refine ⟨_, fun _ _ _ => False, src_of hk hz (fun hn => ?_) (fun i j p hp => ⟨(hr i j p hp).one, (hr i j p hp).mono (fun _ _ => rfl) fun x hx => .inl hx⟩) (fun _ _ _ h => h.elim) (fun _ _ _ _ _ h => h.elim)⟩
      obtain ⟨b, q, hA, _, hcell⟩ := ha hn
      exact ⟨b, q, hA, hcell⟩
  unfold srcA at h
  split at h
  · refine ⟨_, _, _, _, h, List.nodup_nil, by simp, [], by simp, rfl, fun w0 g res' w hM _ x hx => ?_⟩
    have hx : x = .slice none 0 0 := hx
    subst hx
    exact ⟨_, fun _ _ _ => False, src_of (us := fun _ _ => undef) hk (by simp) (fun h => absurd rfl h) (by simp [at2]) (fun _ _ _ h => h.elim) (fun _ _ _ _ _ h => h.elim)⟩
  · rename_i s hv
    obtain ⟨hs1, h⟩ := h
    refine ⟨_, _, _, _, h, List.nodup_nil, by simp, [], by simp, rfl, fun w0 g res' w hM _ x hx => ?_⟩
    have hx : x = .string s := by cases hx; rfl
    subst hx
    refine ⟨byteCells s, fun _ _ _ => False, ⟨?_, ?_, ?_, ?_, ?_, fun _ _ _ h => h.elim, fun _ _ _ _ _ h => h.elim⟩⟩
    · have hn : (s.data.toList.map fun b => [PV.int .u8 b.toNat]).length = s.size := by rw [List.length_map, Array.length_toList]; rfl
      rw [hs1, hn]
      exact ⟨hk, fun _ => rfl, firstCells_string s w, firstCells_string s w.drew, by rw [byteCells_length, Nat.mul_one], fun u hu => by
        obtain ⟨_, _, rfl⟩ := List.mem_map.1 hu
        rfl⟩
    · rw [hs1, byteCells_length, List.length_map, Array.length_toList, Nat.mul_one]
      rfl
    · intro u hu
      obtain ⟨_, _, rfl⟩ := List.mem_map.1 hu
      rfl
    · intro el hel
      obtain ⟨_, _, rfl⟩ := List.mem_map.1 hel
      exact hs1.symm
    · intro i j p hp
      unfold at2 at hp
      rw [List.getElem?_map] at hp
      cases hb : s.data.toList[i]? with
      | none => rw [hb] at hp; cases hp
      | some b =>
        rw [hb] at hp
        cases j with
        | succ j => cases hp
        | zero =>
          cases hp
          refine ⟨.int .u8 b.toNat, ?_, .int _ _ _⟩
          rw [hs1, Nat.mul_one, Nat.add_zero]
          unfold byteCells
          rw [List.getElem?_map, hb]
          rfl
  · obtain ⟨⟨rfl, hf⟩, h⟩ := h
    exact ⟨_, _, _, _, h, List.nodup_nil, by simp, [], by simp, rfl, fun w0 g res' w hM _ x hx => readF _ hf g res' w [] x hx⟩
  · rename_i t2 hv
    split at h
    · rename_i own sz ys hres
      obtain ⟨⟨rfl, hf⟩, h⟩ := h
      refine ⟨_, _, _, _, h, List.nodup_nil, by simp, [(t2, .row own te.sz ys)], by simpa using hres, rfl, fun w0 g res' w hM hr x hx => ?_⟩
      have hr1 : res' t2 = some (.row own te.sz ys) := hr t2 _ (by simp)
      have hrow : RowOk w g.S (g.D t2) own te.sz ys (g.σ t2) := (hM.tok t2 _ hr1).2
      have hxv : x = g.σ t2 := hx.2.1
      subst hxv
      rcases hrow with ⟨rfl, hv⟩ | ⟨b, q, c, e, cs, us, Ds, hv, hg, hh, hsz, hc, hm, hz, ha, hDs, hdis, hre⟩
      · rw [hv]
        exact ⟨_, fun _ _ _ => False, src_of (us := fun _ _ => undef) hk (by simp) (fun h => absurd rfl h) (by simp [at2]) (fun _ _ _ h => h.elim) (fun _ _ _ _ _ h => h.elim)⟩
      · rw [hv]
        refine ⟨_, fun _ _ _ => False, src_of hk hz (fun _ => ⟨b, q, rfl, fun i j p hp => (CellsAt.cell hh).trans (ha i j p hp)⟩) (fun i j p hp => ?_) (fun _ _ _ h => h.elim) (fun _ _ _ _ _ h => h.elim)⟩
        have h1 := hre i j p hp
        unfold ElOk at h1
        cases own with
        | true => exact ⟨Own.one h1, Own.flat_D h1 (flat_at hf hp)⟩
        | false => exact ⟨Rep.one h1, Rep.flat_own h1 (flat_at hf hp)⟩
    · rename_i sz ys hres
      obtain ⟨⟨rfl, hf⟩, h⟩ := h
      refine ⟨_, _, _, _, h, List.nodup_nil, by simp, [(t2, .ro te.sz ys)], by simpa using hres, rfl, fun w0 g res' w hM hr x hx => ?_⟩
      have hrow : Rep w g.S (.sl te.sz ys) (g.σ t2) := (hM.tok t2 _ (hr t2 (.ro te.sz ys) (by simp))).2
      have hxv : x = g.σ t2 := hx.2.1
      subst hxv
      exact readF _ hf g res' w [] _ hrow
    · exact h.elim
  · obtain ⟨rfl, h⟩ := h
    exact ⟨_, _, _, _, h, List.nodup_nil, by simp, [], by simp, rfl, fun w0 g res' w hM _ x hx => readS _ g res' w [] x hx⟩
  · rename_i t2 hv
    split at h
    · rename_i own sz ys hres
      obtain ⟨rfl, h⟩ := h
      refine ⟨_, _, _, _, h, by simp, by simp, [(t2, .row own te.sz ys)], by simpa using hres, rfl, fun w0 g res' w hM hr x hx => ?_⟩
      have hr1 : res' t2 = some (.row own te.sz ys) := hr t2 _ (by simp)
      have hrow : RowOk w g.S (g.D t2) own te.sz ys (g.σ t2) := (hM.tok t2 _ hr1).2
      have hxv : x = g.σ t2 := hx.2.1
      subst hxv
      have hfree : ∀ x, g.D t2 x → g.free res' [t2] x := fun x hx => ⟨t2, _, by simp, hr1, hx⟩
      rcases hrow with ⟨rfl, hv⟩ | ⟨b, q, c, e, cs, us, Ds, hv, hg, hh, hsz, hc, hm, hz, ha, hDs, hdis, hre⟩
      · rw [hv]
        exact ⟨_, fun _ _ _ => False, src_of (us := fun _ _ => undef) hk (by simp) (fun h => absurd rfl h) (by simp [at2]) (fun _ _ _ h => h.elim) (fun _ _ _ _ _ h => h.elim)⟩
      · rw [hv]
        refine ⟨_, Ds, src_of hk hz (fun _ => ⟨b, q, rfl, fun i j p hp => (CellsAt.cell hh).trans (ha i j p hp)⟩) (fun i j p hp => ?_) (fun i j x hx => hfree x (hDs i j x hx).1) hdis⟩
        have h1 := hre i j p hp
        refine ⟨?_, h1.mono (fun _ _ => rfl) (fun _ h => h) (fun _ _ => rfl) fun x hx => .inl hx⟩
        unfold ElOk at h1
        cases own with
        | true => exact Own.one h1
        | false => exact Rep.one h1
    · rename_i sz ys hres
      obtain ⟨rfl, h⟩ := h
      refine ⟨_, _, _, _, h, List.nodup_nil, by simp, [(t2, .ro te.sz ys)], by simpa using hres, rfl, fun w0 g res' w hM hr x hx => ?_⟩
      have hrow : Rep w g.S (.sl te.sz ys) (g.σ t2) := (hM.tok t2 _ (hr t2 (.ro te.sz ys) (by simp))).2
      have hxv : x = g.σ t2 := hx.2.1
      subst hxv
      exact readS _ g res' w [] _ hrow
    · exact h.elim
  · exact h.elim
theorem good_append (hΓ : TGOk P Γ) {t t' : TypeId} (hkk : t' = t ∨ P.underlying t' = some .string) {s x : Operand} (ho : o.op = .call { callee := .builtin .append, args := #[s, x], argTypes := #[t, t'] }) (h : kAppend Γ dm env res id t s x K) : Good P dm o env res id K := by
  have hos : s ∈ o.op.operands := by simp [ho, Op.operands, Call.operands]
  have hox : x ∈ o.op.operands := by simp [ho, Op.operands, Call.operands]
  unfold kAppend at h
  split at h
  · rename_i ti ht
    split at h
    · rename_i e he
      split at h
      · rename_i te hte
        split at h
        · rename_i hpos
          rw [Bool.and_eq_true] at hpos
          have hp1 : 1 ≤ te.sz := Nat.le_of_ble_eq_true hpos.1
          have hp2 : 1 ≤ te.bytes := Nat.le_of_ble_eq_true hpos.2
          obtain ⟨d, hd, _, hel, _⟩ := (hΓ t ti ht).desc
          rw [hel e he] at hd
          have htei := hΓ e te hte
          have hk : KindOk P t' := by
            rcases hkk with rfl | h
            · exact .inl ⟨e, hd⟩
            · exact .inr h
          obtain ⟨ys, own2, ts, rd, h, hnd, hsub, rs, hrs, hrsm, hsrc⟩ := srcA_eq (P := P) hk h
          split at h
          · rename_i sz0 hs
            obtain ⟨zs, ⟨hby, hzs⟩, hK⟩ := h
            subst hzs
            refine ⟨_, _, rs, fun w0 g res' w a hM hop hr hid => ?_, hrs, by rw [hrsm]; exact hK⟩
            have h1 := hop s hos
            rw [hs] at h1
            have h1 : a.eval s = .slice none 0 0 := h1
            obtain ⟨news, Ds, hsr⟩ := hsrc w0 g res' w hM hr _ (hop x hox)
            obtain ⟨hM1, e1, hF⟩ := hM.drop ts
            have hU1 : ¬ (g.drop res' ts).U (id + 1) := hid (id + 1) (by omega) (by omega)
            obtain ⟨hM2, e2⟩ := hM1.name (t := id + 1) hU1 (.slice none 0 0) (.row true te.sz []) (by
              show RowOk _ _ _ true te.sz [] _
              exact .inl ⟨rfl, upd_same _ _ _⟩)
            have hσ : ((g.drop res' ts).mk1 (id + 1) (.slice none 0 0) (fun _ => False) (g.drop res' ts).S).σ (id + 1) = .slice none 0 0 := upd_same _ _ _
            have hF2 : Free false w0 ((g.drop res' ts).mk1 (id + 1) (.slice none 0 0) (fun _ => False) (g.drop res' ts).S) (dropL (upd (dropL res' ts) (id + 1) (some (.row true te.sz []))) [id + 1]) w (g.free res' ts) := by
              refine ⟨hF.new, hF.fro, fun y t' r hy hr' => ?_⟩
              obtain ⟨hn, hr'⟩ := dropL_some hr'
              have hn : t' ≠ id + 1 := by simpa using hn
              rw [upd_ne _ _ hn] at hr'
              show ¬ upd (g.drop res' ts).D (id + 1) (fun _ => False) t' y
              rw [upd_ne _ _ hn]
              exact hF.off y t' r hy hr'
            have hid2 : ¬ ((g.drop res' ts).mk1 (id + 1) (.slice none 0 0) (fun _ => False) (g.drop res' ts).S).U id := by
              rintro (h | h)
              · exact hid id (Nat.le_refl _) (by omega) h
              · omega
            obtain ⟨v, w', g', hrun, hM3, e3, hrep, hUU⟩ := append_row (P := P) (id := id) hd htei hp1 o.type hM2 (t1 := id + 1) (own1 := true) (xs := []) (upd_same _ _ _) hid2 hF2 (fun y hy => by
              show ¬ upd (g.drop res' ts).D (id + 1) (fun _ => False) (id + 1) y
              rw [upd_same]
              exact fun h => h) (own := own2) (own2 := own2) (fun _ => rfl) (fun h => h) hsr (by simpa using hby) hp2
            rw [hσ] at hrun
            refine runs_value (v := v) (w' := w') ?_ ⟨g', ?_, (e1.trans e2).trans e3, hrep, fun y hy => ?_⟩
            · simp [execOp, ho, resolve, invoke, builtin, h1, hrun]
            · rw [updL_append, updL_drops]
              show Models false w0 g' (upd (dropL res' ts) id _) w'
              have hnone : dropL res' ts (id + 1) = none := by
                cases hq : dropL res' ts (id + 1) with
                | none => rfl
                | some r => exact absurd (hM1.tok _ r hq).1 hU1
              have : upd (dropL (upd (dropL res' ts) (id + 1) (some (.row true te.sz []))) [id + 1]) id (some (.row own2 te.sz ([] ++ zs))) = upd (dropL res' ts) id (some (.row own2 te.sz zs)) := by
                funext k
                by_cases h1 : k = id
                · subst h1; rw [upd_same, upd_same]; rfl
                · rw [upd_ne _ _ h1, upd_ne _ _ h1]
                  show upd _ (id + 1) none k = _
                  by_cases h2 : k = id + 1
                  · subst h2; rw [upd_same, hnone]
                  · rw [upd_ne _ _ h2]
                    show upd _ (id + 1) _ k = _
                    rw [upd_ne _ _ h2]
              rw [← this]
              exact hM3
            · rcases hUU y hy with (h | h) | h
              · exact .inl h
              · exact .inr (by omega)
              · exact .inr (by omega)
          · rename_i t1 hs
            split at h
            · rename_i own1 sz xs hres
              split at h
              · rename_i hchk
                rw [Bool.and_eq_true] at hchk
                have hsz := Nat.eq_of_beq_eq_true hchk.1
                subst hsz
                have hnot : t1 ∉ ts := by
                  intro hm
                  have := List.all_eq_true.1 hchk.2 t1 hm
                  simp at this
                obtain ⟨zs, ⟨hby, rfl⟩, hK⟩ := h
                refine ⟨_, _, (t1, .row own1 te.sz xs) :: rs, fun w0 g res' w a hM hop hr hid => ?_, fun t r hm => ?_, by rw [List.map_cons, hrsm]; exact hK⟩
                · have hr' : ∀ t r, (t, r) ∈ rs → res' t = some r := fun t r hm => hr t r (by simp [hm])
                  have h1 := hop s hos
                  rw [hs] at h1
                  obtain ⟨news, Ds, hsr⟩ := hsrc w0 g res' w hM hr' _ (hop x hox)
                  obtain ⟨hM1, e1, hF⟩ := hM.drop ts
                  have hr1 : dropL res' ts t1 = some (.row own1 te.sz xs) := by
                    have : ∀ l : List Nat, t1 ∉ l → dropL res' l t1 = res' t1 := by
                      intro l
                      induction l with
                      | nil => intro _; rfl
                      | cons a l ih =>
                        intro hl
                        simp at hl
                        show upd _ a none t1 = _
                        rw [upd_ne _ _ hl.1]
                        exact ih hl.2
                    rw [this ts hnot]
                    exact hr t1 _ (by simp)
                  have hF2 : Free false w0 (g.drop res' ts) (dropL (dropL res' ts) [t1]) w (g.free res' ts) := ⟨hF.new, hF.fro, fun y t' r hy hr' => hF.off y t' r hy (dropL_some hr').2⟩
                  obtain ⟨v, w', g', hrun, hM3, e3, hrep, hUU⟩ := append_row (P := P) (id := id) hd htei hp1 o.type hM1 (t1 := t1) (own1 := own1) (xs := xs) hr1 (hid id (Nat.le_refl _) (by omega)) hF2 (fun y hy => hF.off y t1 _ hy hr1)
                    (own := own1 && own2) (own2 := own2) (fun h => (Bool.and_eq_true _ _ ▸ h : _ ∧ _).1) (fun h => (Bool.and_eq_true _ _ ▸ h : _ ∧ _).2) hsr hby hp2
                  refine runs_value (v := v) (w' := w') ?_ ⟨g', ?_, e1.trans e3, hrep, fun y hy => ?_⟩
                  · have hv : a.eval s = (g.drop res' ts).σ t1 := h1.2.1
                    simp [execOp, ho, resolve, invoke, builtin, hv, hrun]
                  · rw [updL_append, updL_drops]
                    exact hM3
                  · rcases hUU y hy with h | h
                    · exact .inl h
                    · exact .inr (by omega)
                · rcases List.mem_cons.1 hm with hm | hm
                  · cases hm; exact hres
                  · exact hrs t r hm
              · exact h.elim
            · exact h.elim
          · exact h.elim
        · exact h.elim
      · exact h.elim
    · exact h.elim
  · exact h.elim
/-- Zeros appended to a nil slice. -/
def kAppendZ (Γ : TG) (dm : Bool) (env : Nat → AV) (id : Nat) (t t' : TypeId) (s x : Operand) (K : KT) : Prop :=
  match dm, Γ t, Γ t', opv env s, opv env x with
  | false, some ti, some ti', .c (.nil _), .c (.pv (.int _ i)) => (match ti.elem, ti'.kind with
    | some e, some _ => (match Γ e with
      | some te => (match te.flat with
        | true => ∃ (n : Nat) (xs : List (List PV)), (((i = (n : Int) ∧ 0 < n) ∧ (n * te.bytes ≤ 140737488355328 ∧ 1 ≤ te.bytes ∧ 1 ≤ te.sz)) ∧ xs = List.replicate n (te.zero.map zpv)) ∧ K (.c (.row id)) [(id, some (.row true te.sz xs))] []
        | false => False)
      | none => False)
    | _, _ => False)
  | _, _, _, _, _ => False
theorem good_appendZ (hΓ : TGOk P Γ) {t t' : TypeId} {s x : Operand} (ho : o.op = .call { callee := .builtin .append, args := #[s, x], argTypes := #[t, t'] }) (h : kAppendZ Γ dm env id t t' s x K) : Good P dm o env res id K := by
  have hos : s ∈ o.op.operands := by simp [ho, Op.operands, Call.operands]
  have hox : x ∈ o.op.operands := by simp [ho, Op.operands, Call.operands]
  unfold kAppendZ at h
  split at h
  · rename_i ti ti' sz0 k i ht ht' hs hx
    split at h
    · rename_i e kk he hk
      split at h
      · rename_i te hte
        split at h
        · rename_i hfl
          obtain ⟨n, xs, ⟨⟨⟨rfl, h0⟩, hby, hb1, hs1⟩, rfl⟩, hK⟩ := h
          have htei := hΓ e te hte
          obtain ⟨i, z, hi, hsi, hb, hzz, hc⟩ := htei.info
          have hzsz : z.cells.size = te.sz := by have := congrArg List.length hc; simp at this; rw [this, htei.zl]
          obtain ⟨d, hd, _, hel, _⟩ := (hΓ t ti ht).desc
          rw [hel e he] at hd
          obtain ⟨d', hd', _, _, hkd, _⟩ := (hΓ t' ti' ht').desc
          rw [hkd kk hk] at hd'
          have hzl : (te.zero.map zpv).length = te.sz := by simp [htei.zl]
          have hn : n ≤ 140737488355328 := Nat.le_trans (Nat.le_mul_of_pos_right n hb1) hby
          refine ⟨_, _, [], fun w0 g res' w a hM hop hr hid => ?_, by simp, hK⟩
          have h1 := hop s hos
          rw [hs] at h1
          have h1 : a.eval s = .slice none 0 0 := h1
          have h2 := rep_int (hx ▸ hop x hox)
          have hold : (Builtin.firstCells i.size 0 (.slice none 0 0)).run P w.drew = .ok #[] w.drew := by simp [Builtin.firstCells]
          have hrun := Lib.run_append_grow_zeros (P := P) w t t' o.type e i z k kk hd hd' hi hzz none 0 0 [] (by simpa using hold) n h0 (by rw [hsi]; exact hs1) (by omega) (by omega) (by rw [hb]; omega) (growslice_fits (by omega) (by rw [hb]; simpa using hby))
          simp only [Nat.zero_add] at hrun
          have hge := grownCap_ge w n 0 e
          have hle : grownCap w n 0 e ≤ maxLen := grownCap_le_maxLen w n 0 e (by simp only [maxLen]; omega)
          have hle' : grownCap w n 0 e ≤ 9223372036854775807 := by simp only [maxLen] at hle; omega
          generalize grownCap w n 0 e = cap at *
          obtain ⟨hM1, e1⟩ := hM.draw (w' := w.drew) rfl rfl rfl rfl
          have hcell : ∀ i j p, at2 (List.replicate n (te.zero.map zpv)) i j = some p → ∃ a, te.zero[j]? = some a ∧ p = zpv a ∧ i < n ∧ j < te.sz := by
            intro i j p hp
            unfold at2 at hp
            rw [List.getElem?_replicate] at hp
            split at hp
            · rename_i hi
              have hp : (te.zero.map zpv)[j]? = some p := hp
              rw [List.getElem?_map] at hp
              cases hz : te.zero[j]? with
              | none => rw [hz] at hp; cases hp
              | some a =>
                rw [hz] at hp
                cases hp
                have := (List.getElem?_eq_some_iff.1 hz).1
                rw [htei.zl] at this
                exact ⟨a, rfl, rfl, hi, this⟩
            · cases hp
          obtain ⟨hM2, e2⟩ := hM1.alloc (t := id) (hid id (Nat.le_refl _) (by omega)) (.cells (#[] ++ Builtin.zeroCells z.cells n ++ Builtin.zeroCells z.cells (cap - n)) e) (.slice (some ⟨w.drew.heap.size, 0, none⟩) n cap) (.row true te.sz (List.replicate n (te.zero.map zpv))) (F := fun _ => False) Free.none
            ((mut_row rfl _).2 rfl) (fun _ h => h.elim) (fun ev => by
              show RowOk _ _ _ true te.sz _ _
              rw [show (g.mk1 id (.slice (some ⟨w.drew.heap.size, 0, none⟩) n cap) (fun x => x = w.drew.heap.size ∨ False) g.S).D id = (fun x => x = w.drew.heap.size ∨ False) from upd_same _ _ _]
              rw [show (g.mk1 id (.slice (some ⟨w.drew.heap.size, 0, none⟩) n cap) (fun x => x = w.drew.heap.size ∨ False) g.S).σ id = _ from upd_same _ _ _]
              refine .inr ⟨w.drew.heap.size, 0, cap, e, _, fun _ j => zeroVal (te.zero.getD j .undef), fun _ _ _ => False, by simp, .inl rfl, .of (heap_alloc_new w.drew _), ?_, by simpa using hge, hle', fun el hel => ?_, fun i j p hp => ?_, fun _ _ _ h => h.elim, fun _ _ _ _ _ h => h.elim, fun i j p hp => ?_⟩
              · simp only [Array.size_append, size_zeroCells, hzsz, ← Nat.add_mul, Nat.zero_add, Array.size_empty]
                exact Nat.mul_le_mul_right _ (by omega)
              · rw [List.eq_of_mem_replicate hel, hzl]
              · obtain ⟨a, ha, rfl, hi, hj⟩ := hcell i j p hp
                have hlt : i * te.sz + j < n * te.sz := pos_lt hi hj
                have hd1 : te.zero.getD j .undef = a := by rw [List.getD_eq_getElem?_getD, ha]; rfl
                show _ = some (zeroVal (te.zero.getD j .undef))
                rw [hd1, Nat.zero_add, Array.getElem?_append, if_pos (by simp [size_zeroCells, hzsz]; omega), Array.getElem?_append, if_neg (by simp)]
                have hz0 : (Builtin.zeroCells z.cells n)[i * te.sz + j]? = some (z.cells[(i * te.sz + j) % z.cells.size]!) := by
                  unfold Builtin.zeroCells
                  rw [Array.getElem?_map, Array.getElem?_range, if_pos (by rw [hzsz]; exact hlt)]
                  rfl
                have hmod : (i * te.sz + j) % z.cells.size = j := by
                  rw [hzsz, Nat.mul_comm, Nat.mul_add_mod, Nat.mod_eq_of_lt hj]
                rw [hmod, getElem!_pos z.cells j (by rw [hzsz]; exact hj)] at hz0
                have h3 : z.cells.toList[j]? = some (zeroVal a) := by rw [hc, List.getElem?_map, ha]; rfl
                rw [List.getElem?_eq_some_iff] at h3
                obtain ⟨h4, h5⟩ := h3
                simp only [Array.size_empty, Nat.sub_zero]
                rw [hz0]
                simpa using h5
              · obtain ⟨a, ha, rfl, hi, hj⟩ := hcell i j p hp
                have hd1 : te.zero.getD j .undef = a := by rw [List.getD_eq_getElem?_getD, ha]; rfl
                show ElOk _ _ _ true _ (zeroVal (te.zero.getD j .undef))
                rw [hd1]
                obtain ⟨q, rfl⟩ := htei.fl hfl a (List.mem_of_getElem? ha)
                have hz := htei.zc _ (List.mem_of_getElem? ha)
                have hr := (zero_rep (g := g) (w := w) hz).1
                have hr : Rep w g.S q (zeroVal (.pv q)) := hr
                show Own _ _ (zpv (.pv q)) _
                have hflat : q.flat = true := by cases q <;> simp_all [zeroC, PV.flat]
                exact ((hr.flat_own (D := fun _ => False) hflat).mono (fun _ h => h.elim) fun _ h => h.elim))
          refine runs_value (v := .slice (some ⟨w.drew.heap.size, 0, none⟩) n cap) (w' := w.drew.alloc (.cells (#[] ++ Builtin.zeroCells z.cells n ++ Builtin.zeroCells z.cells (cap - n)) e)) ?_ ⟨_, hM2, e1.trans e2, ⟨.inr rfl, (upd_same _ _ _).symm, rfl⟩, fun y hy => ?_⟩
          · simp [execOp, ho, resolve, invoke, builtin, h1, h2, hrun]
          · rcases hy with hy | rfl
            · exact .inl hy
            · exact .inr (by omega)
        · exact h.elim
      · exact h.elim
    · exact h.elim
  · exact h.elim
end
end Go.Vi
