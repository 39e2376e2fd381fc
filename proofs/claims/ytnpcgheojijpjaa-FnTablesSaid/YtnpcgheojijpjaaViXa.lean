/- Operation by operation: strings and bytes. -/
import Derived.Test.YtnpcgheojijpjaaViX
import Derived.Laws.BytesArg
import Derived.Laws.Strings
import Derived.Laws.IdiomStrings
set_option linter.unusedVariables false
set_option linter.unusedSimpArgs false
namespace Go.Vi
open Go.RowKit
def u8B : IntKind → Bool
  | .u8 => true
  | _ => false
def bytesT (Γ : TG) (t : TypeId) : Bool :=
  match Γ t with
  | some ti => (match ti.elem with
    | some e => (match Γ e with
      | some te => (match te.kind with
        | some k => u8B k
        | none => false)
      | none => false)
    | none => false)
  | none => false
section
variable {P : Program} {Γ : TG} {dm : Bool} {o : Oper} {env : Nat → AV} {res : Res} {id : Nat} {K : KT}
theorem bytesT_ok (hΓ : TGOk P Γ) {t : TypeId} (h : bytesT Γ t = true) : ∃ e, P.underlying t = some (.slice e) ∧ P.underlying e = some (.int .u8) := by
  unfold bytesT at h
  split at h
  · rename_i ti ht
    split at h
    · rename_i e he
      split at h
      · rename_i te hte
        split at h
        · rename_i k hk
          obtain ⟨d, hd, _, hel, _⟩ := (hΓ t ti ht).desc
          obtain ⟨d2, hd2, _, _, hkk, _⟩ := (hΓ e te hte).desc
          refine ⟨e, by rw [hd, hel e he], ?_⟩
          rw [hd2, hkk k hk]
          cases k <;> simp [u8B] at h
          rfl
        · cases h
      · cases h
    · cases h
  · cases h
def kConvR (Γ : TG) (env : Nat → AV) (res : Res) (id : Nat) (src dst : TypeId) (x : Operand) (K : KT) : Prop :=
  match opv env x with
  | .c (.pv (.sl sz xs)) => (match bytesT Γ src, strT Γ dst with
    | true, true => ∃ l : List Int, xs = l.map (fun n => [PV.int .u8 n]) ∧ K (.c (.pv (.str (strOfNums l)))) [] []
    | _, _ => False)
  | .c (.nil _) => (match bytesT Γ src, strT Γ dst with
    | true, true => K (.c (.pv (.str (strOfNums [])))) [] []
    | _, _ => False)
  | .c (.pv (.str s)) => (match strT Γ src, bytesT Γ dst with
    | true, true => ∃ xs : List (List PV), (s.size ≤ 140737488355328 ∧ xs = s.data.toList.map fun b => [PV.int .u8 b.toNat]) ∧ K (.c (.row id)) [(id, some (.row true 1 xs))] []
    | _, _ => False)
  | .c (.row tk) => (match bytesT Γ src with
    | false => False
    | true => (match res tk with
      | some (.ro sz xs) => (match strT Γ dst with
        | true => ∃ l : List Int, xs = l.map (fun n => [PV.int .u8 n]) ∧ K (.c (.pv (.str (strOfNums l)))) [] [tk]
        | false => False)
      | some (.row own sz xs) => (match strT Γ dst with
        | true => ∃ l : List Int, xs = l.map (fun n => [PV.int .u8 n]) ∧ K (.c (.pv (.str (strOfNums l)))) [] [tk]
        | false => (match xs, Nat.beq src dst with
          | y :: ys, true => K (.c (.row tk)) [(tk, some (.row own sz (y :: ys)))] [tk]
          | _, _ => False))
      | _ => False))
  | _ => kConv Γ env src dst x K
theorem run_conv_rep {w : World} {S : Nat → Prop} {sz : Nat} {l : List Int} {v : Value} (h : Rep w S (.sl sz (l.map fun n => [PV.int .u8 n])) v) {src dst e : TypeId}
    (hs : P.underlying src = some (.slice e)) (he : P.underlying e = some (.int .u8)) (hd : P.underlying dst = some .string) : (convert src dst v).run P w = .ok (.string (strOfNums l)) w := by
  generalize hX : (l.map fun n => [PV.int .u8 n]) = X at h
  cases h with
  | sl _ _ A c us hc hm hz ha hr =>
    subst hX
    rw [List.length_map]
    cases l with
    | nil =>
      cases A with
      | none => exact run_convert_bytes_nil w src e hs he 0 c dst hd
      | some a =>
        rw [run_convert_bytes_string w src dst e _ _ c hs he hd]
        have h0 : (loadCells a 0).run P w = .ok (([] : List Int).map (Value.int .u8)).toArray w := run_loadCells_list (P := P) w a [] (by simp)
        exact run_bytesToString w a 0 c [] h0
    | cons n l =>
      obtain ⟨b, o, rfl, _, hcell⟩ := ha (by simp)
      have h1 : sz = 1 := (hz [PV.int .u8 n] (by simp)).symm
      subst h1
      refine run_convert_bytes_arg w src e hs he b o _ c (n :: l) rfl (fun i hi => ?_) dst hd
      have hat : at2 ((n :: l).map fun n => [PV.int .u8 n]) i 0 = some (.int .u8 ((n :: l)[i])) := by
        unfold at2
        rw [List.getElem?_map, List.getElem?_eq_getElem hi]
        rfl
      have h2 := hcell i 0 _ hat
      have h3 := hr i 0 _ hat
      rw [Nat.mul_one, Nat.add_zero] at h2
      rw [h2]
      cases hu : us i 0 <;> rw [hu] at h3 <;> cases h3
      simp [List.getD, List.getElem?_eq_getElem hi]
theorem freeze_at {w : World} {b : Nat} {cs : Array Value} {e : TypeId} (h : CellsAt w b cs e) : CellsAt (w.freeze ⟨b, cs.size, none⟩ 1) b cs e := by
  obtain ⟨⟨lo, hi⟩, h, hf⟩ := h
  have hb : b < w.heap.size := (Array.getElem?_eq_some_iff.1 h).1
  refine ⟨if lo == hi then (cs.size, cs.size + 1) else (min lo cs.size, max hi (cs.size + 1)), ?_, ?_⟩
  · unfold World.freeze
    rw [if_neg (by decide)]
    show (w.heap.modify b _)[b]? = _
    rw [Array.getElem?_modify, if_pos rfl, h]
    rfl
  · right
    rcases hf with hf | hf
    · cases hf
      simp
    · split
      · simp
      · simp only at hf ⊢
        omega
theorem freeze_other {w : World} {b n x : Nat} (h : x ≠ b) : (w.freeze ⟨b, n, none⟩ 1).heap[x]? = w.heap[x]? := by
  unfold World.freeze
  rw [if_neg (by decide)]
  show (w.heap.modify b _)[x]? = _
  rw [Array.getElem?_modify, if_neg (Ne.symm h)]
theorem freeze_size {w : World} {b n : Nat} : (w.freeze ⟨b, n, none⟩ 1).heap.size = w.heap.size := by
  unfold World.freeze
  rw [if_neg (by decide)]
  show (w.heap.modify b _).size = _
  simp
theorem run_conv_same {w : World} {b q n c : Nat} {cs : Array Value} {e e' : TypeId} {t : TypeId} (ht : P.underlying t = some (.slice e)) (he : P.underlying e = some (.int .u8)) (h : CellsAt w b cs e') :
    (convert t t (.slice (some ⟨b, q, none⟩) n c)).run P w = .ok (.slice (some ⟨b, q, none⟩) n c) (w.freeze ⟨b, cs.size, none⟩ 1) := by
  obtain ⟨fl, h, _⟩ := h
  have hsh : w.shape? b = some (e', cs.size) := by unfold World.shape?; rw [h]
  simp [convert, run_underlying ht, run_underlying he, markStringish, hsh]
theorem good_convS (hΓ : TGOk P Γ) {t t' : TypeId} {x : Operand} (ho : o.op = .convert t t' x) {s : ByteArray} (hx : opv env x = .c (.pv (.str s))) (hs : strT Γ t = true) (hb : bytesT Γ t' = true)
    (hsz : s.size ≤ 140737488355328) (hK : K (.c (.row id)) [(id, some (.row true 1 (s.data.toList.map fun b => [PV.int .u8 b.toNat])))] []) : Good P dm o env res id K := by
  have hox : x ∈ o.op.operands := by simp [ho, Op.operands]
  have h1 := strT_ok hΓ hs
  obtain ⟨e, h2, h3⟩ := bytesT_ok hΓ hb
  refine ⟨_, _, [], fun w0 g res' w a hM hop hr hid => ?_, by simp, hK⟩
  have h4 := rep_str (hx ▸ hop x hox)
  have hrun := run_bytes_of_string (P := P) w t t' e s h1 h2 h3
  have hge := grownCap_ge w s.size 0 e
  have hle : grownCap w s.size 0 e ≤ maxLen := grownCap_le_maxLen w s.size 0 e (by simp only [maxLen]; omega)
  have hle' : grownCap w s.size 0 e ≤ 9223372036854775807 := by simp only [maxLen] at hle; omega
  generalize grownCap w s.size 0 e = cap at *
  have hrs : (bytesRow s cap).size = cap := by
    unfold bytesRow
    rw [Array.size_append, Array.size_map, Array.size_replicate]
    show s.size + (cap - s.size) = cap
    omega
  rw [hrs] at hrun
  have hn : (s.data.toList.map fun b => [PV.int .u8 b.toNat]).length = s.size := by rw [List.length_map, Array.length_toList]; rfl
  have hcell : ∀ i j p, at2 (s.data.toList.map fun b => [PV.int .u8 b.toNat]) i j = some p → j = 0 ∧ ∃ b, s.data.toList[i]? = some b ∧ p = .int .u8 b.toNat := by
    intro i j p hp
    unfold at2 at hp
    rw [List.getElem?_map] at hp
    cases hb : s.data.toList[i]? with
    | none => rw [hb] at hp; cases hp
    | some b =>
      rw [hb] at hp
      cases j with
      | succ j => cases hp
      | zero => cases hp; exact ⟨rfl, b, rfl, rfl⟩
  obtain ⟨hM1, e1⟩ := hM.draw (w' := w.drew) rfl rfl rfl rfl
  obtain ⟨hM2, e2⟩ := hM1.alloc (t := id) (hid id (Nat.le_refl _) (by omega)) (.cells (bytesRow s cap) e (cap, cap + 1)) (.slice (some ⟨w.drew.heap.size, 0, none⟩) s.size cap) (.row true 1 (s.data.toList.map fun b => [PV.int .u8 b.toNat])) (F := fun _ => False) Free.none
    (.inr rfl) (fun _ h => h.elim) (fun ev => by
      show RowOk _ _ _ true 1 _ _
      rw [show (g.mk1 id (.slice (some ⟨w.drew.heap.size, 0, none⟩) s.size cap) (fun x => x = w.drew.heap.size ∨ False) g.S).D id = (fun x => x = w.drew.heap.size ∨ False) from upd_same _ _ _]
      rw [show (g.mk1 id (.slice (some ⟨w.drew.heap.size, 0, none⟩) s.size cap) (fun x => x = w.drew.heap.size ∨ False) g.S).σ id = _ from upd_same _ _ _]
      refine .inr ⟨w.drew.heap.size, 0, cap, e, bytesRow s cap, fun i _ => .int .u8 ((s.data.toList.getD i 0).toNat : Int), fun _ _ _ => False, by rw [hn], .inl rfl, ⟨_, heap_alloc_new w.drew _, .inr (by rw [hrs]; exact Nat.le_refl _)⟩, by rw [hrs]; omega, by rw [hn]; exact hge, hle', fun el hel => ?_, fun i j p hp => ?_, fun _ _ _ h => h.elim, fun _ _ _ _ _ h => h.elim, fun i j p hp => ?_⟩
      · obtain ⟨_, _, rfl⟩ := List.mem_map.1 hel
        rfl
      · obtain ⟨rfl, b, hb, rfl⟩ := hcell i j p hp
        have hi := (List.getElem?_eq_some_iff.1 hb).1
        rw [Array.length_toList] at hi
        show (bytesRow s cap)[0 + i * 1 + 0]? = some (.int .u8 ((s.data.toList.getD i 0).toNat : Int))
        rw [List.getD_eq_getElem?_getD, hb]
        unfold bytesRow
        rw [Array.getElem?_append, if_pos (by rw [Array.size_map]; omega), Array.getElem?_map]
        rw [Array.getElem?_toList] at hb
        rw [show 0 + i * 1 + 0 = i by omega, hb]
        rfl
      · obtain ⟨rfl, b, hb, rfl⟩ := hcell i j p hp
        show ElOk _ _ _ true _ (.int .u8 ((s.data.toList.getD i 0).toNat : Int))
        rw [List.getD_eq_getElem?_getD, hb]
        exact .int _ _ _)
  refine runs_value (v := .slice (some ⟨w.drew.heap.size, 0, none⟩) s.size cap) (w' := w.drew.alloc (.cells (bytesRow s cap) e (cap, cap + 1))) ?_ ⟨_, hM2, e1.trans e2, ⟨.inr rfl, (upd_same _ _ _).symm, rfl⟩, fun y hy => ?_⟩
  · simp [execOp, ho, h4, hrun]
  · rcases hy with hy | rfl
    · exact .inl hy
    · exact .inr (by omega)
theorem good_convR (hΓ : TGOk P Γ) {s t : TypeId} {x : Operand} (ho : o.op = .convert s t x) (h : kConvR Γ env res id s t x K) : Good P dm o env res id K := by
  have hox : x ∈ o.op.operands := by simp [ho, Op.operands]
  unfold kConvR at h
  split at h
  · rename_i sz xs hx
    split at h
    · rename_i hb hs
      obtain ⟨e, h1, h2⟩ := bytesT_ok hΓ hb
      have h3 := strT_ok hΓ hs
      obtain ⟨l, rfl, hK⟩ := h
      refine good_pure [] (by simp) (by simpa using hK) fun w0 g res w a hM hop _ => ⟨.string (strOfNums l), ?_, rav (.str _)⟩
      have h4 := hop x hox
      rw [hx] at h4
      have h4 : Rep w g.S _ (a.eval x) := h4
      simp [execOp, ho, run_conv_rep h4 h1 h2 h3]
    · exact h.elim
  · rename_i sz hx
    split at h
    · rename_i hb hs
      obtain ⟨e, h1, h2⟩ := bytesT_ok hΓ hb
      have h3 := strT_ok hΓ hs
      refine good_pure [] (by simp) (by simpa using h) fun w0 g res w a hM hop _ => ⟨.string (strOfNums []), ?_, rav (.str _)⟩
      have h4 := hop x hox
      rw [hx] at h4
      have h4 : a.eval x = .slice none 0 0 := h4
      have h5 : (convert s t (.slice none 0 0)).run P w = .ok (.string (strOfNums [])) w := run_convert_bytes_nil w s e h1 h2 0 0 t h3
      simp [execOp, ho, h4, h5]
    · exact h.elim
  · rename_i str hx
    split at h
    · rename_i hs hb
      obtain ⟨xs, ⟨hsz, rfl⟩, hK⟩ := h
      exact good_convS hΓ ho hx hs hb hsz hK
    · exact h.elim
  · rename_i tk hx
    split at h
    · exact h.elim
    · rename_i hb
      obtain ⟨e, h1, h2⟩ := bytesT_ok hΓ hb
      split at h
      · rename_i sz xs hres
        split at h
        · rename_i hs
          have h3 := strT_ok hΓ hs
          obtain ⟨l, rfl, hK⟩ := h
          refine good_pure [(tk, .ro sz _)] (by simpa using hres) (by simpa using hK) fun w0 g res w a hM hop hr => ⟨.string (strOfNums l), ?_, rav (.str _)⟩
          have h4 := hop x hox
          rw [hx] at h4
          have h5 : Rep w g.S (.sl sz (l.map fun n => [PV.int .u8 n])) (g.σ tk) := (hM.tok tk (.ro sz (l.map fun n => [PV.int .u8 n])) (hr tk _ (by simp))).2
          have h6 : a.eval x = g.σ tk := h4.2.1
          simp [execOp, ho, h6, run_conv_rep h5 h1 h2 h3]
        · exact h.elim
      · rename_i own sz xs hres
        split at h
        · rename_i hs
          have h3 := strT_ok hΓ hs
          obtain ⟨l, rfl, hK⟩ := h
          refine good_pure [(tk, .row own sz _)] (by simpa using hres) (by simpa using hK) fun w0 g res w a hM hop hr => ⟨.string (strOfNums l), ?_, rav (.str _)⟩
          have h4 := hop x hox
          rw [hx] at h4
          have h5 : RowOk w g.S (g.D tk) own sz (l.map fun n => [PV.int .u8 n]) (g.σ tk) := (hM.tok tk (.row own sz (l.map fun n => [PV.int .u8 n])) (hr tk _ (by simp))).2
          have h6 : a.eval x = g.σ tk := h4.2.1
          simp [execOp, ho, h6, run_conv_rep (h5.rep (S' := fun _ => True) (fun _ _ => trivial) (fun _ _ => trivial)) h1 h2 h3]
        · split at h
          · rename_i y ys hst
            have hst := Nat.eq_of_beq_eq_true hst
            subst hst
            refine ⟨_, [(tk, some (.row own sz (y :: ys)))], [(tk, .row own sz (y :: ys))], fun w0 g res w a hM hop hr hid => ?_, by simpa using hres, by simpa using h⟩
            have h4 := hop x hox
            rw [hx] at h4
            have hr1 : res tk = some (.row own sz (y :: ys)) := hr tk _ (by simp)
            have hrow : RowOk w g.S (g.D tk) own sz (y :: ys) (g.σ tk) := (hM.tok tk _ hr1).2
            have h6 : a.eval x = g.σ tk := h4.2.1
            rcases hrow with ⟨hbad, _⟩ | ⟨b, q, c, e', cs, us, Ds, hv, hg, hh, hsz, hc, hm, hz, ha, hDs, hdis, hrr⟩
            · cases hbad
            · have hm' : Mut dm (g.σ tk) (.row own sz (y :: ys)) b := .inr (by rw [hv]; rfl)
              obtain ⟨hM', ev⟩ := hM.set (t := tk) (r := .row own sz (y :: ys)) (r' := .row own sz (y :: ys)) (b := b) (w' := w.freeze ⟨b, cs.size, none⟩ 1) hr1 hg hm' (fun x hx => freeze_other hx) freeze_size rfl rfl rfl (fun _ => Iff.rfl) (fun _ => Iff.rfl)
                (fun ev => .inr ⟨b, q, c, e', cs, us, Ds, hv, hg, freeze_at hh, hsz, hc, hm, hz, ha, hDs, hdis, fun i j p hp => (hrr i j p hp).mono (fun x hx => freeze_other (hDs i j x hx).2) (fun _ h => h) ev.heap (fun _ h => h)⟩)
              have hrun : (execOp a.eval o).run P w = .ok (.value (g.σ tk)) (w.freeze ⟨b, cs.size, none⟩ 1) := by
                simp [execOp, ho, h6, hv, run_conv_same h1 h2 hh]
              refine runs_value hrun ⟨g, hM', ev, ?_, fun x hx => .inl hx⟩
              exact ⟨h4.1, rfl, h6 ▸ h4.2.2⟩
          · exact h.elim
      · exact h.elim
  · exact good_conv hΓ ho h
/-- A byte of a string. -/
def kIndexS (Γ : TG) (env : Nat → AV) (t : TypeId) (x i : Operand) (K : KT) : Prop :=
  match strT Γ t, opv env x, opv env i with
  | true, .c (.pv (.str s)), .c (.pv (.int k n)) => ∃ m : Int, ((0 ≤ n ∧ n < s.size) ∧ s.data.toList[n.toNat]?.map (fun b => (b.toNat : Int)) = some m) ∧ K (.c (.pv (.int .u8 m))) [] []
  | _, _, _ => False
theorem good_indexS (hΓ : TGOk P Γ) {t : TypeId} {x i : Operand} (ho : o.op = .index t x i) (h : kIndexS Γ env t x i K) : Good P dm o env res id K := by
  have hox : x ∈ o.op.operands := by simp [ho, Op.operands]
  have hoi : i ∈ o.op.operands := by simp [ho, Op.operands]
  unfold kIndexS at h
  split at h
  · rename_i s k n ht hx hi
    obtain ⟨m, ⟨⟨h0, h1⟩, hm⟩, hK⟩ := h
    refine good_pure [] (by simp) (by simpa using hK) fun w0 g res w a hM hop _ => ⟨.int .u8 m, ?_, rav (.int _ _)⟩
    have e1 := rep_str (hx ▸ hop x hox)
    have e2 := rep_int (hi ▸ hop i hoi)
    have h2 : n.toNat < s.size := by omega
    have e3 : ((s[n.toNat]'h2).toNat : Int) = m := by
      have h3 : s.data.toList[n.toNat]? = some (s[n.toNat]'h2) := by
        rw [Array.getElem?_toList, Array.getElem?_eq_getElem (show n.toNat < s.data.size from h2)]
        rfl
      rw [h3] at hm
      simpa using hm
    simp [execOp, ho, e1, e2, run_index_string w t s k n (strT_ok hΓ ht), h0, h1, e3]
  · exact h.elim
end
end Go.Vi
