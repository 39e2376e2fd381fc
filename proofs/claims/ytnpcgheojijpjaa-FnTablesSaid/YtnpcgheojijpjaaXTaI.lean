/- A matter opened and told, part by part: what comes of it. -/
import Derived.Test.YtnpcgheojijpjaaXTaH
namespace Go.Proofs.Ytnpcgheojijpjaa
open Go Go.Vi
set_option linter.unusedVariables false
set_option linter.unusedSimpArgs false
set_option maxRecDepth 100000
theorem suits_fault {q : XReq} (h : specReq q = true) (f : Int) (hf : 1 ≤ f ∧ f ≤ 255) : suits q (faultOf q f) = true ∧ (faultOf q f).Fault = f := by
  have h2 : inB f 1 255 = true := by simp [inB]; omega
  have hk := req_kind q h
  have h3 : faultOf q f = { XResp.zero with Kind := q.Kind, Fault := f } := by simp [faultOf, h, h2]
  have h4 : specResp { XResp.zero with Kind := q.Kind, Fault := f } = true := by
    have k1 : isKind q.Kind = true := by rcases hk with h | h | h | h | h | h | h | h | h | h <;> rw [h] <;> decide
    unfold specResp
    rw [if_neg (by simp [k1, XResp.zero, inB]; omega), if_pos (show f > 0 by omega)]
    rfl
  rw [h3]
  refine ⟨?_, rfl⟩
  unfold suits
  rw [h, h4, if_neg (by simp), if_pos (by show f > 0; omega)]
def pT (t : XTable) (s g : Int) (q : XReq) (ps : List XPart) (F : Nat → XResp) (i : Nat) : XPend := ⟨t.Next, s, g, 1, q, ps, (List.range ps.length).map (fun j => decide (j < i)), (List.range ps.length).map (fun j => if j < i then F j else XResp.zero)⟩
section
variable {t : XTable} {s g : Int} {q : XReq} {ps : List XPart} {F : Nat → XResp}
theorem pT_zero : openP t s g 1 q ps = pT t s g q ps F 0 := by
  unfold openP pT
  congr 1
  · apply List.ext_getElem <;> simp
  · apply List.ext_getElem <;> simp
theorem pT_fill {i : Nat} (_ : i < ps.length) : fillP (pT t s g q ps F i) i (F i) = pT t s g q ps F (i + 1) := by
  unfold fillP pT
  dsimp only
  congr 1
  · apply List.ext_getElem
    · simp
    · intro j h1 h2
      simp [List.getElem_set]
      by_cases h : i = j
      · simp [h]
      · simp [h]; omega
  · apply List.ext_getElem
    · simp
    · intro j h1 h2
      simp [List.getElem_set]
      by_cases h : i = j
      · simp [h]
      · by_cases h3 : j < i
        · simp [h, h3, show j < i + 1 by omega]
        · simp [h, h3, show ¬ j < i + 1 by omega]
theorem pT_has {i j : Nat} (hj : j < ps.length) : (pT t s g q ps F i).Has[j]? = some (decide (j < i)) := by
  unfold pT
  simp [hj]
theorem pT_hasD {i j : Nat} (hj : j < ps.length) : (pT t s g q ps F i).Has.getD j false = decide (j < i) := by
  rw [List.getD_eq_getElem?_getD, pT_has hj]; rfl
theorem pT_toldD {i j : Nat} (hj : j < ps.length) : (pT t s g q ps F i).Told.getD j XResp.zero = if j < i then F j else XResp.zero := by
  unfold pT
  simp [List.getD_eq_getElem?_getD, hj]
theorem pT_can {i : Nat} (hi : i < ps.length) (h : suits ps[i].Req (F i) = true) : canP (pT t s g q ps F i) i (F i) = true := by
  unfold canP
  rw [show ((i : Int)).toNat = i from rfl, pT_hasD hi]
  have e : (pT t s g q ps F i).Parts.getD i XPart.zero = ps[i] := by show ps.getD i _ = _; simp [List.getD, List.getElem?_eq_getElem hi]
  rw [e, h]
  have : inB (i : Int) 0 ((pT t s g q ps F i).Parts.length - 1) = true := by show inB (i : Int) 0 ((ps.length : Int) - 1) = true; simp [inB]; omega
  rw [this]
  simp
theorem pT_all {i : Nat} : (pT t s g q ps F i).Has.all (fun b => b) = decide (ps.length ≤ i) := by
  rw [Bool.eq_iff_iff, List.all_eq_true, decide_eq_true_eq]
  unfold pT
  dsimp only
  constructor
  · intro h
    rcases Nat.lt_or_ge i ps.length with h1 | h1
    · have := h (decide (i < i)) (List.mem_map.2 ⟨i, List.mem_range.2 h1, rfl⟩)
      simp at this
    · exact h1
  · intro h b hb
    obtain ⟨j, hj, rfl⟩ := List.mem_map.1 hb
    have := List.mem_range.1 hj
    simp
    omega
theorem pT_part (h0 : pendB (pT t s g q ps F 0) = true) {j : Nat} (hj : j < ps.length) : partB ps[j] = true := by
  simp only [pendB, Bool.and_eq_true, List.all_eq_true] at h0
  have h2 := h0.1.2 j (List.mem_range.2 hj)
  have e : (pT t s g q ps F 0).Parts.getD j XPart.zero = ps[j] := by show ps.getD j _ = _; simp [List.getD, List.getElem?_eq_getElem hj]
  simp only [cellB, e, Bool.and_eq_true] at h2
  exact h2.1
theorem pT_pend (h0 : pendB (pT t s g q ps F 0) = true) (hs : ∀ j, ∀ h : j < ps.length, suits ps[j].Req (F j) = true) {i : Nat} (hi : i < ps.length) : pendB (pT t s g q ps F i) = true := by
  have hh : headB (pT t s g q ps F i) = headB (pT t s g q ps F 0) := by unfold headB pT; simp
  have hp := fun {j : Nat} (hj : j < ps.length) => pT_part h0 hj
  simp only [pendB, Bool.and_eq_true] at h0 ⊢
  refine ⟨⟨by rw [hh]; exact h0.1.1, List.all_eq_true.2 fun j hj => ?_⟩, ?_⟩
  · have hj : j < ps.length := List.mem_range.1 hj
    have e : (pT t s g q ps F i).Parts.getD j XPart.zero = ps[j] := by show ps.getD j _ = _; simp [List.getD, List.getElem?_eq_getElem hj]
    simp only [cellB, e, pT_hasD hj, pT_toldD hj, hp hj, Bool.true_and]
    by_cases h : j < i
    · simp [h, hs j hj]
    · simp [h]
  · have := pT_all (t := t) (s := s) (g := g) (q := q) (ps := ps) (F := F) (i := i)
    rw [decide_eq_false (by omega)] at this
    have e : (pT t s g q ps F i).Has.all id = (pT t s g q ps F i).Has.all (fun b => b) := rfl
    rw [e, this]
    rfl
theorem ids_lt (ht : tableB t = true) {k : Nat} (hk : k < t.List_.length) : t.List_[k].Id < t.Next := by
  simp only [tableB, Bool.and_eq_true, List.all_eq_true] at ht
  have h1 := ht.2 k (List.mem_range.2 hk)
  have hg : t.List_.getD k XPend.zero = t.List_[k] := by simp [List.getD, List.getElem?_eq_getElem hk]
  simp only [rowB, Bool.and_eq_true, hg, decide_eq_true_eq] at h1
  exact h1.1.2.2
theorem ids_all (ht : tableB t = true) : t.List_.all (fun p : XPend => !decide (p.Id = t.Next)) = true := by
  rw [List.all_eq_true]
  intro p hp
  obtain ⟨k, hk, rfl⟩ := List.getElem_of_mem hp
  have := ids_lt ht hk
  simp
  omega
theorem find_end (ht : tableB t = true) {p : XPend} (hp : p.Id = t.Next) : findI ⟨t.Next + 1, t.List_ ++ [p]⟩ t.Next = t.List_.length := by
  unfold findI
  refine firstBad_at (l := t.List_ ++ [p]) (k := t.List_.length) ?_ (by simp) (by simp [hp])
  rw [List.take_left]
  exact ids_all ht
theorem find_no (ht : tableB t = true) : findI ⟨t.Next + 1, t.List_⟩ t.Next = -1 := by
  unfold findI
  exact firstBad_none (ids_all ht)
end
/-- The same part told again, or a part of a matter that is gone. -/
theorem m_TF0 (t : XTable) (id part : Int) (a : XResp) (ht : t.tot ≤ 1048576) (hl : t.List_.length ≤ 1048577) (h : findI t id = -1 ∨ ∃ k j : Nat, ∃ hk : k < t.List_.length, findI t id = k ∧ part = j ∧ t.List_[k].Parts.length ≤ 8 ∧ j < t.List_[k].Parts.length ∧ t.List_[k].Has[j]? = some true) : PureC Try.prog 12 [t.v, i64v id, i64v part, a.v] [t.v, XReply.sV []] := by
  have hT := m_TableOk t hl
  have hF := m_Fill0 t id part a ht h
  cases hb : tableB t with
  | true =>
    rw [hb] at hT
    refine pureC_of (Γ := lookT tbl) (il := ilist) tg dr Try.func12 rfl (by kernel_rfl) rfl (Nat.le_of_ble_eq_true rfl) ?_
    (repeat' ((conv => whnf); first | refine br_i (fun _ => ?_) (fun _ => ?_) | (refine cur_leaf rfl rfl rfl ?_ ?_; · first | assumption | omega | exact hw ‹_›) | refine leaf_i rfl rfl ?_ | refine And.intro rfl ?_ | refine call_i (hT) ?_ | (refine Or.inl ?_; (conv => whnf); refine call_i (hT) ?_) | refine call_i (hF) ?_ | (refine Or.inl ?_; (conv => whnf); refine call_i (hF) ?_) | (refine And.intro ?_ ?_; · decide)))
    all_goals rfl
  | false =>
    rw [hb] at hT
    refine pureC_of (Γ := lookT tbl) (il := ilist) tg dr Try.func12 rfl (by kernel_rfl) rfl (Nat.le_of_ble_eq_true rfl) ?_
    (repeat' ((conv => whnf); first | refine br_i (fun _ => ?_) (fun _ => ?_) | (refine cur_leaf rfl rfl rfl ?_ ?_; · first | assumption | omega | exact hw ‹_›) | refine leaf_i rfl rfl ?_ | refine And.intro rfl ?_ | refine call_i (hT) ?_ | (refine Or.inl ?_; (conv => whnf); refine call_i (hT) ?_) | ((refine inl_nd (Γ := lookT tbl) [26] ?_; (conv => whnf); refine nd_i (ndC_pure (m_cloneTable t ht)) ?_; rintro _ rfl)) | refine call_i (m_cloneTable t ht) ?_ | (refine Or.inl ?_; (conv => whnf); refine call_i (m_cloneTable t ht) ?_) | (refine And.intro ?_ ?_; · decide)))
    all_goals rfl
structure OpenOk (t : XTable) (s g : Int) (q : XReq) (ps : List XPart) (F : Nat → XResp) : Prop where
  ht : tableB t = true
  hn : t.Next ≠ 1000000000
  hl : t.List_.length < 16
  h0 : pendB (pT t s g q ps F 0) = true
  hs : ∀ j, ∀ h : j < ps.length, suits ps[j].Req (F j) = true
  hf : (F 0).Fault ≠ 0
def nT (t : XTable) (s g : Int) (q : XReq) (ps : List XPart) (F : Nat → XResp) (i : Nat) : XTable := ⟨t.Next + 1, if i < ps.length then t.List_ ++ [pT t s g q ps F i] else t.List_⟩
def rT (s g : Int) (q : XReq) (ps : List XPart) (F : Nat → XResp) (i : Nat) : List XReply := if i < ps.length then [] else [⟨s, g, q, ps, (List.range ps.length).map F, faultOf q (F 0).Fault⟩]
section
variable {t : XTable} {s g : Int} {q : XReq} {ps : List XPart} {F : Nat → XResp}
theorem nT_lt {i : Nat} (hi : i < ps.length) : nT t s g q ps F i = ⟨t.Next + 1, t.List_ ++ [pT t s g q ps F i]⟩ := by unfold nT; rw [if_pos hi]
theorem nT_ge {i : Nat} (hi : ¬ i < ps.length) : nT t s g q ps F i = ⟨t.Next + 1, t.List_⟩ := by unfold nT; rw [if_neg hi]
theorem OpenOk.len (h : OpenOk t s g q ps F) : 1 ≤ ps.length ∧ ps.length ≤ 8 := by
  obtain ⟨_, _, _, _, _, h1, h2⟩ := pendSmall h.h0
  exact ⟨h1, h2⟩
theorem OpenOk.tb (h : OpenOk t s g q ps F) {i : Nat} (hi : i < ps.length) : tableB (nT t s g q ps F i) = true := by
  rw [nT_lt hi, tableB_app h.ht h.hl rfl, pT_pend h.h0 h.hs hi]
  simp [h.hn]
theorem OpenOk.tot (h : OpenOk t s g q ps F) (i : Nat) : (nT t s g q ps F i).tot ≤ 1048576 := by
  by_cases hi : i < ps.length
  · exact tableTot (h.tb hi)
  · rw [nT_ge hi]
    have h1 : t.tot ≤ 1048576 := tableTot h.ht
    exact h1
theorem OpenOk.lenT (h : OpenOk t s g q ps F) (i : Nat) : (nT t s g q ps F i).List_.length ≤ 16 := by
  have := h.hl
  by_cases hi : i < ps.length
  · rw [nT_lt hi]; simp; omega
  · rw [nT_ge hi]; show t.List_.length ≤ 16; omega
theorem told_end : (pT t s g q ps F ps.length).Told = (List.range ps.length).map F := by
  unfold pT
  exact List.map_congr_left fun j hj => by simp [List.mem_range.1 hj]
theorem OpenOk.joined (h : OpenOk t s g q ps F) : PureC Try.prog 14 [q.v, XPart.sV ps, XResp.sV ((List.range ps.length).map F)] [(faultOf q (F 0).Fault).v] := by
  have hl := h.len
  have := m_Joined q ps ((List.range ps.length).map F) (by omega) (by simp) hl.2 (fun i hi => by simpa using h.hs i hi) (by simpa using h.hf)
  simpa using this
theorem OpenOk.step1 (h : OpenOk t s g q ps F) {i : Nat} (hi : i < ps.length) : PureC Try.prog 12 [(nT t s g q ps F i).v, i64v t.Next, i64v i, (F i).v] [(nT t s g q ps F (i + 1)).v, XReply.sV (rT s g q ps F (i + 1))] := by
  have hB := h.tb hi
  rw [nT_lt hi] at hB ⊢
  have hk : t.List_.length < (t.List_ ++ [pT t s g q ps F i]).length := by simp
  have e : (t.List_ ++ [pT t s g q ps F i])[t.List_.length] = pT t s g q ps F i := by simp
  have hfind := find_end h.ht (p := pT t s g q ps F i) rfl
  have hcan := pT_can (t := t) (s := s) (g := g) (q := q) hi (h.hs i hi)
  have hall := pT_all (t := t) (s := s) (g := g) (q := q) (ps := ps) (F := F) (i := i + 1)
  by_cases hi2 : i + 1 < ps.length
  · rw [nT_lt hi2]
    have hr : rT s g q ps F (i + 1) = [] := by unfold rT; rw [if_pos hi2]
    rw [hr]
    have hw := m_FillN ⟨t.Next + 1, t.List_ ++ [pT t s g q ps F i]⟩ t.Next i t.List_.length (F i) hB hk hfind (by rw [e]; exact hcan) (by rw [e, pT_fill hi, hall]; simp; omega)
    refine m_TF hB hw _ _ ?_
    rw [e, pT_fill hi]
    dsimp only
    rw [List.set_append_right _ _ (Nat.le_refl _), Nat.sub_self]
    rfl
  · rw [nT_ge hi2]
    have hn : i + 1 = ps.length := by omega
    have hr : rT s g q ps F (i + 1) = [⟨s, g, q, ps, (List.range ps.length).map F, faultOf q (F 0).Fault⟩] := by unfold rT; rw [if_neg hi2]
    rw [hr]
    have hw := m_FillD ⟨t.Next + 1, t.List_ ++ [pT t s g q ps F i]⟩ t.Next i t.List_.length (F i) (faultOf q (F 0).Fault) hB hk (by simp) hfind (by rw [e]; exact hcan) (by rw [e, pT_fill hi, hall]; simp; omega) (by rw [e, pT_fill hi, hn, told_end]; exact h.joined)
    refine m_TF hB hw _ _ ?_
    rw [e, pT_fill hi, hn, told_end]
    dsimp only
    rw [List.take_left]
    rfl
theorem OpenOk.step2 (h : OpenOk t s g q ps F) {i : Nat} (hi : i < ps.length) : PureC Try.prog 12 [(nT t s g q ps F (i + 1)).v, i64v t.Next, i64v i, (F i).v] [(nT t s g q ps F (i + 1)).v, XReply.sV []] := by
  refine m_TF0 _ _ _ _ (h.tot _) (by have := h.lenT (i + 1); omega) ?_
  have hl := h.len
  by_cases hi2 : i + 1 < ps.length
  · refine .inr ⟨t.List_.length, i, by rw [nT_lt hi2]; simp, by rw [nT_lt hi2]; exact find_end h.ht rfl, rfl, ?_⟩
    have e : (nT t s g q ps F (i + 1)).List_[t.List_.length]'(by rw [nT_lt hi2]; simp) = pT t s g q ps F (i + 1) := by
      have : (nT t s g q ps F (i + 1)).List_ = t.List_ ++ [pT t s g q ps F (i + 1)] := by rw [nT_lt hi2]
      simp [this]
    rw [e]
    refine ⟨hl.2, hi, ?_⟩
    rw [pT_has hi]
    simp
  · exact .inl (by rw [nT_ge hi2]; exact find_no h.ht)
theorem cnt_false (n : Nat) : cntF (List.replicate n false) = n := by
  unfold cntF
  simp
theorem OpenOk.wait (h : OpenOk t s g q ps F) : waitF (nT t s g q ps F 0) = waitF t + ps.length := by
  have hl := h.len
  have h1 := h.tb (i := 0) (by omega)
  unfold waitF
  rw [h1, h.ht, if_pos rfl, if_pos rfl, nT_lt (by omega)]
  unfold waitN
  have e : ∀ (l : List XPend) (p : XPend), sumF (fun p : XPend => cntF p.Has) (l ++ [p]) = sumF (fun p : XPend => cntF p.Has) l + cntF p.Has := by
    intro l p
    induction l with
    | nil => simp [sumF]
    | cons a l ih => simp only [List.cons_append, sumF, ih]; omega
  rw [e]
  have e2 : (pT t s g q ps F 0).Has = List.replicate ps.length false := by rw [← pT_zero]; rfl
  rw [e2, cnt_false]
  omega
end
theorem l_sameResp (a : XResp) : PureC Try.prog 13 [a.v, a.v] [boolv true] := by
  refine pureC_of (Γ := lookT tbl) (il := ilist) tg dr Try.func13 rfl (by kernel_rfl) rfl (Nat.le_of_ble_eq_true rfl) ?_
  have e1 := eqSameI a.Words a.Words
  rw [decide_eq_true rfl] at e1
  have e2 := eqSameO a.Bits a.Bits
  rw [decide_eq_true rfl] at e2
  (repeat' ((conv => whnf); first | refine br_i (fun _ => ?_) (fun _ => ?_) | (refine cur_leaf rfl rfl rfl ?_ ?_; · first | assumption | omega | exact hw ‹_›) | refine leaf_i rfl rfl ?_ | refine And.intro rfl ?_ | refine call_i (e1) ?_ | (refine Or.inl ?_; (conv => whnf); refine call_i (e1) ?_) | refine call_i (e2) ?_ | (refine Or.inl ?_; (conv => whnf); refine call_i (e2) ?_) | (refine And.intro ?_ ?_; · decide)))
  all_goals first | rfl | (exfalso; simp_all; done)
  all_goals fail "S"
def isBytes (l : List Int) : Prop := ∀ x ∈ l, 0 ≤ x ∧ x < 256
def bigB (code : List Int) : Bool := decide ((code.length : Int) > 1048576)
theorem l_big (code : List Int) : PureC Try.prog 4 [bytesV code] [boolv (bigB code)] := by
  refine pureC_of (Γ := lookT tbl) (il := ilist) tg dr Try.func4 rfl (by kernel_rfl) rfl (Nat.le_of_ble_eq_true rfl) ?_
  (repeat' ((conv => whnf); first | refine br_i (fun _ => ?_) (fun _ => ?_) | (refine cur_leaf rfl rfl rfl ?_ ?_; · first | assumption | omega | exact hw ‹_›) | refine leaf_i rfl rfl ?_ | refine And.intro rfl ?_ | (refine And.intro ?_ ?_; · decide)))
  all_goals (refine bool_leaf ?_; first | (simp_all [bigB]; done) | (simp_all [bigB]; omega))
def atI (code : List Int) (i : Int) : Int := if i < (code.length : Int) then bAt code i else (i * 31 + (code.length : Int) * 7) % 256
theorem bAt_r {l : List Int} (h : isBytes l) (i : Int) : 0 ≤ bAt l i ∧ bAt l i < 256 := by
  unfold bAt
  rw [List.getD_eq_getElem?_getD]
  cases hk : l[i.toNat]? with
  | none => simp
  | some x => exact h x (List.mem_of_getElem? hk)
theorem atI_b {code : List Int} (h : isBytes code) (i : Int) : 0 ≤ atI code i ∧ atI code i < 256 := by
  unfold atI
  split
  · exact bAt_r h i
  · omega
theorem l_at (code : List Int) (hb : isBytes code) (hl : code.length ≤ 1048576) (i : Int) (hi : 0 ≤ i) (hi2 : i ≤ 1000) : PureC Try.prog 11 [bytesV code, i64v i] [i64v (atI code i)] := by
  refine pureC_of (Γ := lookT tbl) (il := ilist) tg dr Try.func11 rfl (by kernel_rfl) rfl (Nat.le_of_ble_eq_true rfl) ?_
  conv => whnf
  refine br_i (fun h => ?_) (fun h => ?_)
  · have h : i < code.length := by simpa using h
    conv => whnf
    refine ⟨_, idx_b code i ⟨hi, h⟩, ?_⟩
    conv => whnf
    refine leaf_i rfl rfl ?_
    have := bAt_r hb i
    rw [wrap_ok (by omega) (by omega)]
    unfold atI
    rw [if_pos h]
    rfl
  · have h : ¬ i < (code.length : Int) := by simpa using h
    conv => whnf
    refine And.intro (by decide) ?_
    conv => whnf
    refine leaf_i rfl rfl ?_
    rw [List.length_map, wrap_ok (x := i * 31) (by omega) (by omega), wrap_ok (x := (code.length : Int) * 7) (by omega) (by omega), wrap_ok (x := i * 31 + (code.length : Int) * 7) (by omega) (by omega), Int.tmod_eq_emod_of_nonneg (by omega)]
    unfold atI
    rw [if_neg h]
    rfl
theorem open_nil (t : XTable) (s g : Int) (q : XReq) (ps : List XPart) : (tableOpen t s g 1 q ps = (t, 0, false)) ∨ (tableOpen t s g 1 q ps = (⟨t.Next + 1, t.List_ ++ [openP t s g 1 q ps]⟩, t.Next, true) ∧ tableB t = true ∧ t.Next ≠ 1000000000 ∧ t.List_.length < 16 ∧ pendB (openP t s g 1 q ps) = true) := by
  unfold tableOpen
  split
  · exact .inl rfl
  · rename_i hc
    simp only [Bool.or_eq_true, Bool.not_eq_true', decide_eq_true_eq, not_or, Bool.not_eq_false] at hc
    obtain ⟨⟨⟨h1, h2⟩, h3⟩, h4⟩ := hc
    have := table_b h1
    exact .inr ⟨rfl, h1, h2, by omega, h4⟩
def fT (c : Int) (ps : List XPart) (i : Nat) : XResp := faultOf (ps.getD i XPart.zero).Req (1 + (c + i) % 9)
set_option maxHeartbeats 4000000 in
theorem law_FnTables (code : List Int) (hw : ∀ q0, q0 ∈ code → (Lit.int .u8 q0).wf = true) : PureC Try.prog 3 [bytesV code] [boolv true] := by
  refine pureC_of (Γ := lookT tbl) (il := ilist) tg dr Try.func3 rfl (by kernel_rfl) rfl (Nat.le_of_ble_eq_true rfl) ?_
  have hbc : isBytes code := fun q hq => wf_u8 (hw q hq)
  conv => whnf
  refine call_i (l_big code) ?_
  conv => whnf
  refine br_i (fun h => ?_) (fun h => ?_)
  · conv => whnf
    exact leaf_i rfl rfl rfl
  have hlc : code.length ≤ 1048576 := by simp [bigB] at h; omega
  clear h
  have hat := l_at code hbc hlc 2 (by decide) (by decide)
  have hatb := atI_b hbc 2
  generalize hc : atI code 2 = c at *
  conv => whnf
  refine inl_ndF (Γ := lookT tbl) [22] rfl ?_
  conv => whnf
  refine ndf_i (d_DrawOpen code hlc) ?_
  rintro _ ⟨t, s, g, q, ps, rfl, ht, hq, hpl, hps⟩
  have htt := ht.1
  have htl := ht.2
  have hqt := smallQ_tot hq
  have hpt := parts_tot19 hps
  refine And.intro rfl ?_
  have o1 := m_TableOpen t s g 1 q ps (by omega) (by omega) (by omega)
  have o2 := s_TableOpen t s g 1 q ps (by omega) (by omega) (by omega)
  rcases open_nil t s g q ps with he | ⟨he, h1, h2, h3, h4⟩
  · rw [he] at o1 o2
    (repeat' ((conv => whnf); first | refine br_i (fun _ => ?_) (fun _ => ?_) | (refine cur_leaf rfl rfl rfl ?_ ?_; · first | assumption | omega | exact hw ‹_›) | refine leaf_i rfl rfl ?_ | refine And.intro rfl ?_ | refine call_i (o1) ?_ | (refine Or.inl ?_; (conv => whnf); refine call_i (o1) ?_) | refine call_i (o2) ?_ | (refine Or.inl ?_; (conv => whnf); refine call_i (o2) ?_) | (refine And.intro ?_ ?_; · decide)))
    all_goals (show [VV.one (PV.bool (((t.List_.map XPend.ps).length : Int) == ((t.List_.map XPend.ps).length : Int)))] = _; simp; rfl)
  have hF : ∀ j, ∀ h : j < ps.length, suits ps[j].Req (fT c ps j) = true ∧ (fT c ps j).Fault = 1 + (c + j) % 9 := fun j h => by
    rw [pT_zero (F := fT c ps)] at h4
    have hp := pT_part h4 h
    simp only [partB, Bool.and_eq_true] at hp
    unfold fT
    rw [show ps.getD j XPart.zero = ps[j] by simp [List.getD, List.getElem?_eq_getElem h]]
    exact suits_fault hp.2 _ (by omega)
  obtain ⟨_, _, _, _, _, hl1, hl8⟩ := pendSmall h4
  have hl1 : 1 ≤ ps.length := hl1
  have hl8 : ps.length ≤ 8 := hl8
  have hO : OpenOk t s g q ps (fT c ps) := ⟨h1, h2, h3, by rw [← pT_zero]; exact h4, fun j h => (hF j h).1, by rw [(hF 0 (by omega)).2]; omega⟩
  have hn0 : nT t s g q ps (fT c ps) 0 = ⟨t.Next + 1, t.List_ ++ [openP t s g 1 q ps]⟩ := by rw [nT_lt (by omega), pT_zero (F := fT c ps)]
  rw [he, ← hn0] at o1 o2
  have w1 := m_Waiting (nT t s g q ps (fT c ps) 0) (hO.tot 0)
  have w2 := m_Waiting t (by omega)
  have hww := hO.wait
  have hok := m_TableOk (nT t s g q ps (fT c ps) 0) (by have := hO.lenT 0; omega)
  rw [hO.tb (by omega)] at hok
  have hwb : waitF t = (waitN t : Nat) := by unfold waitF; rw [h1, if_pos rfl]
  have hwl := wait_le t
  conv => whnf
  refine call_i o1 ?_
  conv => whnf
  refine call_i o2 ?_
  conv => whnf
  refine br_i (fun h => by exfalso; simp at h) (fun h => ?_)
  conv => whnf
  first
    | refine call_i w1 ?_
    | (refine Or.inl ?_; (conv => whnf); refine call_i w1 ?_)
  conv => whnf
  first
    | refine call_i w2 ?_
    | (refine Or.inl ?_; (conv => whnf); refine call_i w2 ?_)
  conv => whnf
  refine br_i (fun h => by
    exfalso
    rw [List.length_map, hww, wrap_ok (by omega) (by omega)] at h
    simp at h) (fun h => ?_)
  conv => whnf
  first
    | refine call_i hok ?_
    | (refine Or.inl ?_; (conv => whnf); refine call_i hok ?_)
  conv => whnf
  refine And.intro rfl ?_
  conv => whnf
  have hr0 : some (ARes.row true 16 ([] : List (List PV))) = some (ARes.row true 16 ((rT s g q ps (fT c ps) 0).map XReply.ps)) := by
    have : rT s g q ps (fT c ps) 0 = [] := by unfold rT; rw [if_pos (by omega)]
    rw [this]
    rfl
  refine loop_i (fun i : Nat × Bool => ⟨envL [(0, .c (.pv (.sl 1 (code.map byteEl)))), (3, .c (.ptr 0 0)), (4, .c (.pv (.int .i64 s))), (5, .c (.pv (.int .i64 g))), (7, .c (.ptr 1 0)), (8, .c (.pv (XPart.sP ps))), (9, .c (.ptr 2 0)), (10, .c (.pv (.int .i64 t.Next))), (15, .c (.row 4)), (16, .c (.row 5)), (17, .c (.pv (.int .i64 i.1)))], resL [(0, .box (t.ps.map .pv)), (1, .box (q.ps.map .pv)), (2, .box [.pv (.int .i64 (t.Next + 1)), .row 3]), (3, .row true 13 ((nT t s g q ps (fT c ps) i.1).List_.map XPend.ps)), (4, .row i.2 6 (((List.range i.1).map (fT c ps)).map XResp.ps)), (5, .row true 16 ((rT s g q ps (fT c ps) i.1).map XReply.ps))], 6, 179⟩) (fun i => i.1 ≤ ps.length) (fun i => ps.length - i.1) (0, true) (Nat.zero_le _)
    (le_mk [(0, _), (1, _), (2, _), (3, _), (4, _), (5, _)] rfl ⟨⟨rfl, rfl⟩, ⟨rfl, rfl⟩, ⟨rfl, rfl⟩, ⟨rfl, rfl⟩, ⟨rfl, rfl⟩, ⟨rfl, rfl⟩, ⟨rfl, rfl⟩, ⟨rfl, rfl⟩, ⟨rfl, rfl⟩, ⟨rfl, rfl⟩, ⟨rfl, rfl⟩, trivial⟩ ⟨⟨rfl, rfl⟩, ⟨rfl, rfl⟩, ⟨rfl, rfl⟩, ⟨rfl, rfl⟩, ⟨rfl, rfl⟩, ⟨hr0, rfl⟩, trivial⟩ rfl) ?_
  rintro ⟨i, b⟩ hi
  dsimp only at hi
  by_cases hlt : i < ps.length
  case pos =>
    have hr : rT s g q ps (fT c ps) i = [] := by unfold rT; rw [if_pos hlt]
    have s1 := hO.step1 hlt
    have s2 := hO.step2 hlt
    have ix := idx_map ps XPart.ps i hlt 8
    have hfa : PureC Try.prog 10 [ps[i].Req.v, i64v (IntKind.i64.wrap (1 + (IntKind.i64.wrap (c + i)).tmod 9))] [(fT c ps i).v] := by
      rw [wrap_ok (x := c + i) (by omega) (by omega), Int.tmod_eq_emod_of_nonneg (by omega), wrap_ok (by omega) (by omega)]
      unfold fT
      rw [show ps.getD i XPart.zero = ps[i] by simp [List.getD, List.getElem?_eq_getElem hlt]]
      exact s_FaultOf _ _
    dsimp only
    rw [hr]
    conv => whnf
    refine br_i (fun h => ?_) (fun h => by exfalso; have := dge h; rw [List.length_map] at this; omega)
    conv => whnf
    (repeat' ((conv => whnf); first | refine br_i (fun _ => ?_) (fun _ => ?_) | (refine cur_leaf rfl rfl rfl ?_ ?_; · first | assumption | omega | exact hw ‹_›) | refine leaf_i rfl rfl ?_ | refine And.intro rfl ?_ | refine call_i (hat) ?_ | (refine Or.inl ?_; (conv => whnf); refine call_i (hat) ?_) | refine call_i (hfa) ?_ | (refine Or.inl ?_; (conv => whnf); refine call_i (hfa) ?_) | (refine ⟨_, ix, ?_⟩) | (refine And.intro (show (9 : Int) ≠ 0 by decide) ?_) | (refine And.intro ?_ ?_; · decide)))
    have ia : ((((List.range i).map (fT c ps)).map XResp.ps).length + 1) * 80 ≤ 140737488355328 ∧ ((List.range (i + 1)).map (fT c ps)).map XResp.ps = ((List.range i).map (fT c ps)).map XResp.ps ++ [(fT c ps i).ps] := ⟨by simp only [List.length_map, List.length_range]; exact Nat.le_trans (Nat.mul_le_mul_right _ (show i + 1 ≤ 9 by omega)) (by decide), by rw [List.range_succ]; simp⟩
    refine ⟨⟨envL [(0, .c (.pv (.sl 1 (code.map byteEl)))), (3, .c (.ptr 0 0)), (4, .c (.pv (.int .i64 s))), (5, .c (.pv (.int .i64 g))), (7, .c (.ptr 1 0)), (8, .c (.pv (XPart.sP ps))), (9, .c (.ptr 2 0)), (10, .c (.pv (.int .i64 t.Next))), (15, .c (.row 4)), (16, .c (.row 5)), (17, .c (.pv (.int .i64 i))), (18, .c (.ptr 6 0))], resL [(0, .box (t.ps.map .pv)), (1, .box (q.ps.map .pv)), (2, .box [.pv (.int .i64 (t.Next + 1)), .row 3]), (3, .row true 13 ((nT t s g q ps (fT c ps) i).List_.map XPend.ps)), (4, .row b 6 (((List.range i).map (fT c ps)).map XResp.ps)), (5, .row true 16 (([] : List XReply).map XReply.ps)), (6, .box [.pv (.int .i64 (fT c ps i).Kind), .pv (.int .i64 (fT c ps i).Fault), .pv (.int .i64 (fT c ps i).At), .pv (.int .i64 (fT c ps i).N), .row 7, .row 8]), (7, .ro 1 ((fT c ps i).Words.map intEl)), (8, .ro 1 ((fT c ps i).Bits.map boolEl))], 9, 179⟩, (le_ro 18442 rfl).trans ((le_ro 18443 rfl).trans (le_mk [(6, 19462), (7, 18442), (8, 18443)] rfl ⟨⟨rfl, rfl⟩, ⟨rfl, rfl⟩, ⟨rfl, rfl⟩, ⟨rfl, rfl⟩, ⟨rfl, rfl⟩, ⟨rfl, rfl⟩, ⟨rfl, rfl⟩, ⟨rfl, rfl⟩, ⟨rfl, rfl⟩, ⟨rfl, rfl⟩, ⟨rfl, rfl⟩, ⟨rfl, rfl⟩, trivial⟩ ⟨⟨rfl, rfl⟩, ⟨rfl, rfl⟩, ⟨rfl, rfl⟩, ⟨rfl, rfl⟩, ⟨rfl, rfl⟩, ⟨rfl, rfl⟩, ⟨rfl, rfl⟩, ⟨rfl, rfl⟩, ⟨rfl, rfl⟩, trivial⟩ rfl)), ?_⟩
    (repeat' ((conv => whnf); first | refine br_i (fun _ => ?_) (fun _ => ?_) | (refine cur_leaf rfl rfl rfl ?_ ?_; · first | assumption | omega | exact hw ‹_›) | refine leaf_i rfl rfl ?_ | refine And.intro rfl ?_ | refine call_i (s1) ?_ | (refine Or.inl ?_; (conv => whnf); refine call_i (s1) ?_) | refine call_i (s2) ?_ | (refine Or.inl ?_; (conv => whnf); refine call_i (s2) ?_) | (refine ⟨rfl, ?_⟩) | (refine ⟨_, ia, ?_⟩) | (refine And.intro ?_ ?_; · decide)))
    · rename_i h
      exfalso
      simp at h
    · exact ⟨(i + 1, _), ⟨by show i + 1 ≤ ps.length; omega, by show ps.length - (i + 1) < ps.length - i; omega⟩, le_mk [(0, _), (1, _), (2, _), (3, _), (4, _), (5, _)] rfl ⟨⟨rfl, rfl⟩, ⟨rfl, rfl⟩, ⟨rfl, rfl⟩, ⟨rfl, rfl⟩, ⟨rfl, rfl⟩, ⟨rfl, rfl⟩, ⟨rfl, rfl⟩, ⟨rfl, rfl⟩, ⟨rfl, rfl⟩, ⟨rfl, rfl⟩, ⟨ctr (by omega), rfl⟩, trivial⟩ ⟨⟨rfl, rfl⟩, ⟨rfl, rfl⟩, ⟨rfl, rfl⟩, ⟨rfl, rfl⟩, ⟨rfl, rfl⟩, ⟨rfl, rfl⟩, trivial⟩ rfl⟩
  case neg =>
    have hi2 : i = ps.length := by omega
    subst hi2
    have hr : rT s g q ps (fT c ps) ps.length = [⟨s, g, q, ps, (List.range ps.length).map (fT c ps), faultOf q (fT c ps 0).Fault⟩] := by unfold rT; rw [if_neg hlt]
    have hl2 : (nT t s g q ps (fT c ps) ps.length).List_ = t.List_ := by rw [nT_ge hlt]
    have hj := hO.joined
    have hsr := l_sameResp (faultOf q (fT c ps 0).Fault)
    dsimp only
    rw [hr, hl2]
    generalize (List.range ps.length).map (fT c ps) = told at *
    generalize faultOf q (fT c ps 0).Fault = R at *
    conv => whnf
    refine br_i (fun h => by exfalso; have := dlt h; rw [List.length_map] at this; omega) (fun h => ?_)
    conv => whnf
    (repeat' ((conv => whnf); first | refine br_i (fun _ => ?_) (fun _ => ?_) | (refine cur_leaf rfl rfl rfl ?_ ?_; · first | assumption | omega | exact hw ‹_›) | refine leaf_i rfl rfl ?_ | refine And.intro rfl ?_ | refine call_i (hj) ?_ | (refine Or.inl ?_; (conv => whnf); refine call_i (hj) ?_) | refine call_i (hsr) ?_ | (refine Or.inl ?_; (conv => whnf); refine call_i (hsr) ?_) | (refine ⟨0, ⟨⟨rfl, by show 0 < 1; omega⟩, rfl⟩, ?_⟩) | (refine ⟨_, ⟨rfl, rfl⟩, ?_⟩) | (refine And.intro ?_ ?_; · decide)))
    · rw [show (((t.List_.map XPend.ps).length : Int) == ((t.List_.map XPend.ps).length : Int)) = true by simp]
      rfl
    · rename_i h
      exfalso
      simp at h
    · rename_i h
      exfalso
      simp at h

end Go.Proofs.Ytnpcgheojijpjaa
