/- Answers joined: the reference's side. -/
import Derived.Test.YtnpcgheojijpjaaXTaC
namespace Go.Proofs.Ytnpcgheojijpjaa
open Go Go.Vi
set_option linter.unusedVariables false
set_option linter.unusedSimpArgs false
set_option maxRecDepth 100000
def faultOf (q : XReq) (f : Int) : XResp := if specReq q && inB f 1 255 then { XResp.zero with Kind := q.Kind, Fault := f } else XResp.zero
theorem s_FaultOf (q : XReq) (f : Int) : PureC Try.prog 10 [q.v, i64v f] [(faultOf q f).v] := by
  refine pureC_of (Γ := lookT tbl) (il := ilist) tg dr Try.func10 rfl (by kernel_rfl) rfl (Nat.le_of_ble_eq_true rfl) ?_
  (repeat' ((conv => whnf); first | refine br_i (fun _ => ?_) (fun _ => ?_) | (refine cur_leaf rfl rfl rfl ?_ ?_; · first | assumption | omega | exact hw ‹_›) | refine leaf_i rfl rfl ?_ | refine And.intro rfl ?_ | refine call_i (s_ReqOk q) ?_ | (refine Or.inl ?_; (conv => whnf); refine call_i (s_ReqOk q) ?_) | refine call_i (s_in _ _ _) ?_ | (refine Or.inl ?_; (conv => whnf); refine call_i (s_in _ _ _) ?_) | (refine And.intro ?_ ?_; · decide)))
  all_goals first | (rw [show faultOf q f = XResp.zero by simp_all [faultOf]]; rfl) | (rw [show faultOf q f = { XResp.zero with Kind := q.Kind, Fault := f } by simp_all [faultOf]]; rfl)
def writesB (q : XReq) : Bool := isKind q.Kind && decide (q.Kind > 4)
theorem s_Writes (q : XReq) : PureC Try.prog 97 [q.v] [boolv (writesB q)] := by
  refine pureC_of (Γ := lookT tbl) (il := ilist) tg dr Try.func97 rfl (by kernel_rfl) rfl (Nat.le_of_ble_eq_true rfl) ?_
  (repeat' ((conv => whnf); first | refine br_i (fun _ => ?_) (fun _ => ?_) | (refine cur_leaf rfl rfl rfl ?_ ?_; · first | assumption | omega | exact hw ‹_›) | refine leaf_i rfl rfl ?_ | refine And.intro rfl ?_ | refine call_i (s_kind q.Kind) ?_ | (refine Or.inl ?_; (conv => whnf); refine call_i (s_kind q.Kind) ?_) | (refine And.intro ?_ ?_; · decide)))
  all_goals (simp_all only [writesB]; first | rfl | (simp; rfl))
def echoR (q : XReq) : XResp := if q.Kind = 5 then { XResp.zero with Kind := q.Kind, At := q.At, Bits := q.Bits } else if q.Kind = 15 then { XResp.zero with Kind := q.Kind, At := q.At, N := q.Bits.length } else if q.Kind = 16 then { XResp.zero with Kind := q.Kind, At := q.At, N := q.Words.length } else { XResp.zero with Kind := q.Kind, At := q.At, Words := q.Words }
theorem s_Echo (q : XReq) (h : q.tot ≤ 3000) : PureC Try.prog 98 [q.v] [(echoR q).v] := by
  have ht : q.Words.length + q.Bits.length ≤ 3000 := h
  refine pureC_of (Γ := lookT tbl) (il := ilist) tg dr Try.func98 rfl (by kernel_rfl) rfl (Nat.le_of_ble_eq_true rfl) ?_
  (repeat' ((conv => whnf); first | refine br_i (fun _ => ?_) (fun _ => ?_) | (refine cur_leaf rfl rfl rfl ?_ ?_; · first | assumption | omega | exact hw ‹_›) | refine leaf_i rfl rfl ?_ | refine And.intro rfl ?_ | (refine ⟨⟨rfl, flat_bool _⟩, ?_⟩) | (refine ⟨⟨rfl, flat_int _⟩, ?_⟩) | (refine ⟨q.Bits.map boolEl, ⟨app_b _ (by omega), rfl⟩, ?_⟩) | (refine ⟨q.Words.map intEl, ⟨app_i _ (by omega), rfl⟩, ?_⟩) | (refine And.intro ?_ ?_; · decide)))
  all_goals (try simp only [List.length_map]) <;> (unfold echoR; simp_all only [beq_iff_eq, beq_eq_false_iff_ne, ne_eq, if_true, if_false, ite_true, ite_false, reduceIte]; first | rfl | skip)
  all_goals fail "here"
/-- What is left to be joined, after some parts: the first fault, the words and bits so far. -/
def padN (n : Nat) : Nat := (8 - n % 8) % 8
def padF (b : List Bool) : Nat → List Bool
  | 0 => b
  | m + 1 => padF b m ++ [false]
theorem padF_len (b : List Bool) (m : Nat) : (padF b m).length = b.length + m := by
  induction m with
  | zero => rfl
  | succ m ih => simp [padF, ih]; omega
theorem padF_app (b : List Bool) (m : Nat) (h : (padF b m).length ≤ 1048576) : (((padF b m).map boolEl).length + [boolEl false].length) * 1 ≤ 140737488355328 ∧ (padF b (m + 1)).map boolEl = (padF b m).map boolEl ++ [boolEl false] := by
  refine ⟨by rw [List.length_map]; simp; omega, by simp [padF]⟩
theorem pad_go {b : List Bool} {m : Nat} (hm : m ≤ padN b.length) (h : ((((padF b m).map boolEl).length : Int).tmod 8 != 0) = true) : m < padN b.length := by
  rw [List.length_map, padF_len, Int.tmod_eq_emod_of_nonneg (by omega)] at h
  simp only [bne_iff_ne, ne_eq] at h
  unfold padN at *
  omega
theorem pad_end {b : List Bool} {m : Nat} (hm : m ≤ padN b.length) (h : ((((padF b m).map boolEl).length : Int).tmod 8 != 0) = false) : m = padN b.length := by
  rw [List.length_map, padF_len, Int.tmod_eq_emod_of_nonneg (by omega)] at h
  simp only [bne_eq_false_iff_eq] at h
  unfold padN at *
  omega
def joinE (q : XReq) (f : Int) (w : List Int) (b : List Bool) : XResp :=
  if f > 0 then faultOf q f else
  if writesB q && decide (q.Kind ≠ 23) then (if suits q (echoR q) then echoR q else faultOf q 4) else
  if suits q ⟨q.Kind, 0, 0, 0, w, if q.Kind < 3 then padF b (padN b.length) else b⟩ then ⟨q.Kind, 0, 0, 0, w, if q.Kind < 3 then padF b (padN b.length) else b⟩ else faultOf q 4
def joinR (q : XReq) : List XPart → List XResp → Int → List Int → List Bool → XResp
  | x :: l, a :: told, f, w, b =>
    if suits x.Req a then joinR q l told (if f = 0 then a.Fault else f) (if a.Fault > 0 then w else w ++ a.Words) (if a.Fault > 0 then b else if q.Kind < 3 ∧ x.Req.N ≤ a.Bits.length then b ++ a.Bits.take x.Req.N.toNat else b)
    else faultOf q 4
  | _, _, f, w, b => joinE q f w b
def joinedS (q : XReq) (l : List XPart) (told : List XResp) : XResp := if specReq q then joinR q l told 0 [] [] else faultOf q 4
theorem dle {a b : Int} (h : decide (a ≤ b) = true) : a ≤ b := by simpa using h
theorem join_eq {q : XReq} {l : List XPart} {t : List XResp} {f f' : Int} {w w' : List Int} {b b' : List Bool} (h1 : f = f') (h2 : w = w') (h3 : b = b') : joinR q l t f w b = joinR q l t f' w' b' := by rw [h1, h2, h3]
theorem req_small {q : XReq} (h : specReq q = true) : q.tot ≤ 2000 ∧ 0 ≤ q.N := by
  have hk := req_kind q h
  have ht : q.tot = q.Words.length + q.Bits.length := rfl
  unfold specReq at h
  split at h
  · cases h
  · rcases hk with k | k | k | k | k | k | k | k | k | k <;> simp [k, zeroB, inB, ← List.length_eq_zero_iff] at h <;> omega
theorem resp_small {a : XResp} (h : specResp a = true) : a.tot ≤ 3000 := by
  have ht : a.tot = a.Words.length + a.Bits.length := rfl
  unfold specResp at h
  split at h
  · cases h
  repeat' split at h
  all_goals (simp [zeroR, inB, ← List.length_eq_zero_iff] at h; omega)
theorem suits_both {q : XReq} {a : XResp} (h : suits q a = true) : specReq q = true ∧ specResp a = true := by
  unfold suits at h
  split at h
  · cases h
  · rename_i h2
    simp at h2
    exact ⟨h2.1.1, h2.1.2⟩
theorem suitsTot {q : XReq} {a : XResp} (h : suits q a = true) : a.tot ≤ 3000 := resp_small (suits_both h).2
theorem suits_n {q : XReq} {a : XResp} (h : suits q a = true) : 0 ≤ q.N ∧ specReq q = true := ⟨(req_small (suits_both h).1).2, (suits_both h).1⟩
theorem s_Joined (q : XReq) (l : List XPart) (told : List XResp) (hq : q.tot ≤ 3000) (h1 : 0 < l.length) (h2 : told.length = l.length) (h3 : l.length ≤ 8) (h4 : ∀ a ∈ told, a.tot ≤ 3000) : PureC Try.prog 84 [q.v, XPart.sV l, XResp.sV told] [(joinedS q l told).v] := by
  have hR := s_ReqOk q
  unfold joinedS
  by_cases hS : specReq q = true
  case neg =>
    have hS : specReq q = false := by simpa using hS
    rw [hS] at hR ⊢
    refine pureC_of (Γ := lookT tbl) (il := ilist) tg dr Try.func84 rfl (by kernel_rfl) rfl (Nat.le_of_ble_eq_true rfl) ?_
    (repeat' ((conv => whnf); first | refine br_i (fun _ => ?_) (fun _ => ?_) | (refine cur_leaf rfl rfl rfl ?_ ?_; · first | assumption | omega | exact hw ‹_›) | refine leaf_i rfl rfl ?_ | refine And.intro rfl ?_ | refine call_i (hR) ?_ | (refine Or.inl ?_; (conv => whnf); refine call_i (hR) ?_) | refine call_i (s_FaultOf q 4) ?_ | (refine Or.inl ?_; (conv => whnf); refine call_i (s_FaultOf q 4) ?_) | (refine And.intro ?_ ?_; · decide)))
    all_goals rfl
  rw [hS] at hR ⊢
  refine pureC_of (Γ := lookT tbl) (il := ilist) tg dr Try.func84 rfl (by kernel_rfl) rfl (Nat.le_of_ble_eq_true rfl) ?_
  conv => whnf
  refine call_i hR ?_
  conv => whnf
  refine br_i (fun h => by exfalso; simp at h; simp [h] at h1) (fun h => ?_)
  conv => whnf
  refine br_i (fun h => by exfalso; simp at h; omega) (fun h => ?_)
  conv => whnf
  refine loop_i (fun i : Nat × Int × List Int × List Bool => ⟨envL [(1, .c (.pv (XPart.sP l))), (2, .c (.pv (XResp.sP told))), (3, .c (.ptr 0 0)), (6, .c (.ptr 1 0)), (7, .c (.pv (.int .i64 i.2.1))), (8, .c (.ptr 2 0)), (9, .c (.pv (.int .i64 i.1)))], resL [(0, .box (q.ps.map .pv)), (1, .box [.pv (.int .i64 0), .pv (.int .i64 0), .pv (.int .i64 0), .pv (.int .i64 0), .nil 1, .nil 1]), (2, .box [.pv (.int .i64 q.Kind), .pv (.int .i64 0), .pv (.int .i64 0), .pv (.int .i64 0), .row 3, .row 4]), (3, .row true 1 (i.2.2.1.map intEl)), (4, .row true 1 (i.2.2.2.map boolEl))], 5, 141⟩)
    (fun i => i.1 ≤ l.length ∧ joinR q (l.drop i.1) (told.drop i.1) i.2.1 i.2.2.1 i.2.2.2 = joinR q l told 0 [] [] ∧ i.2.2.1.length ≤ 3000 * i.1 ∧ i.2.2.2.length ≤ 3000 * i.1) (fun i => l.length - i.1) (0, 0, [], []) ⟨Nat.zero_le _, rfl, Nat.zero_le _, Nat.zero_le _⟩
    ((le_rowE 8 4 rfl rfl rfl).trans ((le_rowE 8 5 rfl rfl rfl).trans (le_mk [(0, _), (1, _), (2, _), (3, _), (4, _)] rfl ⟨⟨rfl, rfl⟩, ⟨rfl, rfl⟩, ⟨rfl, rfl⟩, ⟨rfl, rfl⟩, ⟨rfl, rfl⟩, ⟨rfl, rfl⟩, ⟨rfl, rfl⟩, trivial⟩ ⟨⟨rfl, rfl⟩, ⟨rfl, rfl⟩, ⟨rfl, rfl⟩, ⟨rfl, rfl⟩, ⟨rfl, rfl⟩, trivial⟩ rfl))) ?_
  rintro ⟨k, f, w, b⟩ ⟨hk, hJ, hw, hb⟩
  simp only at hk hJ hw hb
  rw [← hJ]
  conv => whnf
  refine br_i (fun h => ?_) (fun h => ?_)
  · have hlt : k < l.length := by simpa using h
    have hlt2 : k < told.length := by omega
    have ix := idx_map l XPart.ps k hlt 8
    have it := idx_map told XResp.ps k hlt2 6
    have hat := h4 _ (List.getElem_mem hlt2)
    rw [List.drop_eq_getElem_cons hlt, List.drop_eq_getElem_cons hlt2] at hJ ⊢
    simp only [joinR] at hJ ⊢
    generalize l[k] = x at *
    generalize told[k] = a at *
    have hS := s_Suits x.Req a
    cases hs : suits x.Req a with
    | false =>
      rw [hs] at hS
      (repeat' ((conv => whnf); first | refine br_i (fun _ => ?_) (fun _ => ?_) | (refine cur_leaf rfl rfl rfl ?_ ?_; · first | assumption | omega | exact hw ‹_›) | refine leaf_i rfl rfl ?_ | refine And.intro rfl ?_ | refine call_i (hS) ?_ | (refine Or.inl ?_; (conv => whnf); refine call_i (hS) ?_) | refine call_i (s_FaultOf q 4) ?_ | (refine Or.inl ?_; (conv => whnf); refine call_i (s_FaultOf q 4) ?_) | (refine ⟨_, ix, ?_⟩) | (refine ⟨_, it, ?_⟩) | (refine And.intro ?_ ?_; · decide)))
      all_goals rfl
    | true =>
      rw [hs] at hS
      simp only [hs, reduceIte] at hJ ⊢
      have haw : a.Words.length + a.Bits.length ≤ 3000 := hat
      obtain ⟨hn1, hn2⟩ := suits_n hs
      (repeat' ((conv => whnf); first | refine br_i (fun _ => ?_) (fun _ => ?_) | (refine cur_leaf rfl rfl rfl ?_ ?_; · first | assumption | omega | exact hw ‹_›) | refine leaf_i rfl rfl ?_ | refine And.intro rfl ?_ | refine call_i (hS) ?_ | (refine Or.inl ?_; (conv => whnf); refine call_i (hS) ?_) | (refine ⟨_, ix, ?_⟩) | (refine ⟨_, it, ?_⟩) | (refine ⟨⟨rfl, flat_int _⟩, ?_⟩) | (refine ⟨⟨rfl, flat_bool _⟩, ?_⟩) | (refine ⟨(w ++ a.Words).map intEl, ⟨by simp only [List.length_map]; show _ * 8 ≤ _; omega, List.map_append⟩, ?_⟩) | (refine ⟨(a.Bits.take x.Req.N.toNat).map boolEl, ⟨⟨⟨by decide, hn1⟩, dle ‹_›⟩, List.map_take, rfl⟩, ?_⟩) | (refine ⟨(b ++ a.Bits.take x.Req.N.toNat).map boolEl, ⟨by simp only [List.length_map, List.length_take]; show _ * 1 ≤ _; omega, List.map_append⟩, ?_⟩) | (refine And.intro ?_ ?_; · decide)))
      all_goals (conv => whnf)
      all_goals first
        | exact ⟨(k + 1, a.Fault, w, b), ⟨⟨hlt, by clear hS hR ix it hJ h4; exact join_eq (by simp_all) (by first | (simp_all; done) | (simp_all; omega)) (by first | (simp_all; done) | (simp_all; omega)), by (try simp only [List.length_append]); omega, by (try simp only [List.length_append, List.length_take]); omega⟩, by simp only; omega⟩, le_mk [(0, _), (1, _), (2, _), (3, _), (4, _)] rfl ⟨⟨rfl, rfl⟩, ⟨rfl, rfl⟩, ⟨rfl, rfl⟩, ⟨rfl, rfl⟩, ⟨rfl, rfl⟩, ⟨rfl, rfl⟩, ⟨ctr (by omega), rfl⟩, trivial⟩ ⟨⟨rfl, rfl⟩, ⟨rfl, rfl⟩, ⟨rfl, rfl⟩, ⟨rfl, rfl⟩, ⟨rfl, rfl⟩, trivial⟩ rfl⟩
        | exact ⟨(k + 1, a.Fault, w ++ a.Words, b), ⟨⟨hlt, by clear hS hR ix it hJ h4; exact join_eq (by simp_all) (by first | (simp_all; done) | (simp_all; omega)) (by first | (simp_all; done) | (simp_all; omega)), by (try simp only [List.length_append]); omega, by (try simp only [List.length_append, List.length_take]); omega⟩, by simp only; omega⟩, le_mk [(0, _), (1, _), (2, _), (3, _), (4, _)] rfl ⟨⟨rfl, rfl⟩, ⟨rfl, rfl⟩, ⟨rfl, rfl⟩, ⟨rfl, rfl⟩, ⟨rfl, rfl⟩, ⟨rfl, rfl⟩, ⟨ctr (by omega), rfl⟩, trivial⟩ ⟨⟨rfl, rfl⟩, ⟨rfl, rfl⟩, ⟨rfl, rfl⟩, ⟨rfl, rfl⟩, ⟨rfl, rfl⟩, trivial⟩ rfl⟩
        | exact ⟨(k + 1, a.Fault, w ++ a.Words, b ++ a.Bits.take x.Req.N.toNat), ⟨⟨hlt, by clear hS hR ix it hJ h4; exact join_eq (by simp_all) (by first | (simp_all; done) | (simp_all; omega)) (by first | (simp_all; done) | (simp_all; omega)), by (try simp only [List.length_append]); omega, by (try simp only [List.length_append, List.length_take]); omega⟩, by simp only; omega⟩, le_mk [(0, _), (1, _), (2, _), (3, _), (4, _)] rfl ⟨⟨rfl, rfl⟩, ⟨rfl, rfl⟩, ⟨rfl, rfl⟩, ⟨rfl, rfl⟩, ⟨rfl, rfl⟩, ⟨rfl, rfl⟩, ⟨ctr (by omega), rfl⟩, trivial⟩ ⟨⟨rfl, rfl⟩, ⟨rfl, rfl⟩, ⟨rfl, rfl⟩, ⟨rfl, rfl⟩, ⟨rfl, rfl⟩, trivial⟩ rfl⟩
        | exact ⟨(k + 1, f, w, b), ⟨⟨hlt, by clear hS hR ix it hJ h4; exact join_eq (by simp_all) (by first | (simp_all; done) | (simp_all; omega)) (by first | (simp_all; done) | (simp_all; omega)), by (try simp only [List.length_append]); omega, by (try simp only [List.length_append, List.length_take]); omega⟩, by simp only; omega⟩, le_mk [(0, _), (1, _), (2, _), (3, _), (4, _)] rfl ⟨⟨rfl, rfl⟩, ⟨rfl, rfl⟩, ⟨rfl, rfl⟩, ⟨rfl, rfl⟩, ⟨rfl, rfl⟩, ⟨rfl, rfl⟩, ⟨ctr (by omega), rfl⟩, trivial⟩ ⟨⟨rfl, rfl⟩, ⟨rfl, rfl⟩, ⟨rfl, rfl⟩, ⟨rfl, rfl⟩, ⟨rfl, rfl⟩, trivial⟩ rfl⟩
        | exact ⟨(k + 1, f, w ++ a.Words, b), ⟨⟨hlt, by clear hS hR ix it hJ h4; exact join_eq (by simp_all) (by first | (simp_all; done) | (simp_all; omega)) (by first | (simp_all; done) | (simp_all; omega)), by (try simp only [List.length_append]); omega, by (try simp only [List.length_append, List.length_take]); omega⟩, by simp only; omega⟩, le_mk [(0, _), (1, _), (2, _), (3, _), (4, _)] rfl ⟨⟨rfl, rfl⟩, ⟨rfl, rfl⟩, ⟨rfl, rfl⟩, ⟨rfl, rfl⟩, ⟨rfl, rfl⟩, ⟨rfl, rfl⟩, ⟨ctr (by omega), rfl⟩, trivial⟩ ⟨⟨rfl, rfl⟩, ⟨rfl, rfl⟩, ⟨rfl, rfl⟩, ⟨rfl, rfl⟩, ⟨rfl, rfl⟩, trivial⟩ rfl⟩
        | exact ⟨(k + 1, f, w ++ a.Words, b ++ a.Bits.take x.Req.N.toNat), ⟨⟨hlt, by clear hS hR ix it hJ h4; exact join_eq (by simp_all) (by first | (simp_all; done) | (simp_all; omega)) (by first | (simp_all; done) | (simp_all; omega)), by (try simp only [List.length_append]); omega, by (try simp only [List.length_append, List.length_take]); omega⟩, by simp only; omega⟩, le_mk [(0, _), (1, _), (2, _), (3, _), (4, _)] rfl ⟨⟨rfl, rfl⟩, ⟨rfl, rfl⟩, ⟨rfl, rfl⟩, ⟨rfl, rfl⟩, ⟨rfl, rfl⟩, ⟨rfl, rfl⟩, ⟨ctr (by omega), rfl⟩, trivial⟩ ⟨⟨rfl, rfl⟩, ⟨rfl, rfl⟩, ⟨rfl, rfl⟩, ⟨rfl, rfl⟩, ⟨rfl, rfl⟩, trivial⟩ rfl⟩
  · have hk2 : l.length ≤ k := by simpa using h
    rw [List.drop_of_length_le hk2, List.drop_of_length_le (by omega)]
    show (_ : Prop)
    rw [show joinR q [] [] f w b = joinE q f w b from rfl]
    unfold joinE
    have hqt : q.Words.length + q.Bits.length ≤ 3000 := hq
    have hE := s_Echo q hq
    have hW := s_Writes q
    have hF := s_FaultOf q 4
    have hSe := s_Suits q (echoR q)
    conv => whnf
    refine br_i (fun h => ?_) (fun h => ?_)
    · rw [if_pos (show f > 0 by simpa using h)]
      (repeat' ((conv => whnf); first | refine br_i (fun _ => ?_) (fun _ => ?_) | (refine cur_leaf rfl rfl rfl ?_ ?_; · first | assumption | omega | exact hw ‹_›) | refine leaf_i rfl rfl ?_ | refine And.intro rfl ?_ | refine call_i (s_FaultOf q f) ?_ | (refine Or.inl ?_; (conv => whnf); refine call_i (s_FaultOf q f) ?_) | (refine And.intro ?_ ?_; · decide)))
      all_goals rfl
    rw [if_neg (show ¬ f > 0 by simpa using h)]
    clear h
    by_cases hw2 : writesB q = true ∧ q.Kind ≠ 23
    case pos =>
      have hk3 : ¬ q.Kind < 3 := by
        have := hw2.1
        simp only [writesB, Bool.and_eq_true, decide_eq_true_eq] at this
        omega
      rw [hw2.1] at hW ⊢
      rw [if_pos (show (true && decide (q.Kind ≠ 23)) = true by simpa using hw2.2)]
      conv => whnf
      refine call_i hW ?_
      conv => whnf
      refine br_i (fun h => ?_) (fun h => by exfalso; simp at h; exact hw2.2 h)
      conv => whnf
      refine call_i hE ?_
      conv => whnf
      refine loop_i (fun m : Nat => ⟨envL [(3, .c (.ptr 0 0)), (6, .c (.ptr 1 0)), (8, .c (.ptr 2 0))], resL [(0, .box (q.ps.map .pv)), (1, .box [.pv (.int .i64 0), .pv (.int .i64 0), .pv (.int .i64 0), .pv (.int .i64 0), .nil 1, .nil 1]), (2, .box [.pv (.int .i64 (echoR q).Kind), .pv (.int .i64 (echoR q).Fault), .pv (.int .i64 (echoR q).At), .pv (.int .i64 (echoR q).N), .row 3, .row 4]), (3, .row true 1 ((echoR q).Words.map intEl)), (4, .row true 1 ((padF (echoR q).Bits m).map boolEl))], 5, 141⟩) (fun m => m ≤ padN (echoR q).Bits.length ∧ (¬ q.Kind < 3 → m = 0)) (fun m => padN (echoR q).Bits.length - m) 0 ⟨Nat.zero_le _, fun _ => rfl⟩ (le_mk [(0, _), (1, _), (2, _), (3, _), (4, _)] rfl ⟨⟨rfl, rfl⟩, ⟨rfl, rfl⟩, ⟨rfl, rfl⟩, trivial⟩ ⟨⟨rfl, rfl⟩, ⟨rfl, rfl⟩, ⟨rfl, rfl⟩, ⟨rfl, rfl⟩, ⟨rfl, rfl⟩, trivial⟩ rfl) ?_
      intro m ⟨hm, hm0⟩
      have hpl := padF_len (echoR q).Bits m
      conv => whnf
      refine br_i (fun h => by exfalso; simp at h; omega) (fun h => ?_)
      conv => whnf
      obtain rfl := hm0 hk3
      cases hs : suits q (echoR q) with
      | true =>
        rw [hs] at hSe
        (repeat' ((conv => whnf); first | refine br_i (fun _ => ?_) (fun _ => ?_) | (refine cur_leaf rfl rfl rfl ?_ ?_; · first | assumption | omega | exact hw ‹_›) | refine leaf_i rfl rfl ?_ | refine And.intro rfl ?_ | refine call_i (hSe) ?_ | (refine Or.inl ?_; (conv => whnf); refine call_i (hSe) ?_) | (refine And.intro ?_ ?_; · decide)))
        all_goals rfl
      | false =>
        rw [hs] at hSe
        (repeat' ((conv => whnf); first | refine br_i (fun _ => ?_) (fun _ => ?_) | (refine cur_leaf rfl rfl rfl ?_ ?_; · first | assumption | omega | exact hw ‹_›) | refine leaf_i rfl rfl ?_ | refine And.intro rfl ?_ | refine call_i (hSe) ?_ | (refine Or.inl ?_; (conv => whnf); refine call_i (hSe) ?_) | refine call_i (hF) ?_ | (refine Or.inl ?_; (conv => whnf); refine call_i (hF) ?_) | (refine And.intro ?_ ?_; · decide)))
        all_goals rfl
    case neg =>
      rw [if_neg (show ¬ (writesB q && decide (q.Kind ≠ 23)) = true by simpa using hw2)]
      have hgo : writesB q = false ∨ (writesB q = true ∧ q.Kind = 23) := by
        cases h : writesB q with
        | false => exact .inl rfl
        | true =>
          by_cases h3 : q.Kind = 23
          · exact .inr ⟨rfl, h3⟩
          · exact absurd ⟨h, h3⟩ hw2
      have hgo2 : ∀ X : AS → Prop, X (AS.mk (fun _ => .c .void) (fun _ => none) 0 0) → True := fun _ _ => trivial
      clear hgo2
      rcases hgo with hv | ⟨hv, hv3⟩
      · rw [hv] at hW
        conv => whnf
        refine call_i hW ?_
        conv => whnf
        refine loop_i (fun m : Nat => ⟨envL [(3, .c (.ptr 0 0)), (6, .c (.ptr 1 0)), (8, .c (.ptr 2 0))], resL [(0, .box (q.ps.map .pv)), (1, .box [.pv (.int .i64 0), .pv (.int .i64 0), .pv (.int .i64 0), .pv (.int .i64 0), .nil 1, .nil 1]), (2, .box [.pv (.int .i64 q.Kind), .pv (.int .i64 0), .pv (.int .i64 0), .pv (.int .i64 0), .row 3, .row 4]), (3, .row true 1 (w.map intEl)), (4, .row true 1 ((padF b m).map boolEl))], 5, 141⟩) (fun m => m ≤ padN b.length ∧ (¬ q.Kind < 3 → m = 0)) (fun m => padN b.length - m) 0 ⟨Nat.zero_le _, fun _ => rfl⟩ (le_mk [(0, _), (1, _), (2, _), (3, _), (4, _)] rfl ⟨⟨rfl, rfl⟩, ⟨rfl, rfl⟩, ⟨rfl, rfl⟩, trivial⟩ ⟨⟨rfl, rfl⟩, ⟨rfl, rfl⟩, ⟨rfl, rfl⟩, ⟨rfl, rfl⟩, ⟨rfl, rfl⟩, trivial⟩ rfl) ?_
        intro m ⟨hm, hm0⟩
        have hpl := padF_len b m
        conv => whnf
        by_cases hk3 : q.Kind < 3
        case pos =>
          rw [if_pos hk3]
          refine br_i (fun h => ?_) (fun h => by exfalso; simp at h; omega)
          conv => whnf
          refine ⟨by decide, ?_⟩
          conv => whnf
          refine br_i (fun h => ?_) (fun h => ?_)
          · have hlt := pad_go hm h
            clear h
            conv => whnf
            have hp7 : padN b.length ≤ 7 := by unfold padN; omega
            have hpa := padF_app b m (by omega)
            (repeat' ((conv => whnf); first | refine br_i (fun _ => ?_) (fun _ => ?_) | (refine cur_leaf rfl rfl rfl ?_ ?_; · first | assumption | omega | exact hw ‹_›) | refine leaf_i rfl rfl ?_ | refine And.intro rfl ?_ | (refine ⟨⟨rfl, flat_bool [false]⟩, ?_⟩) | (refine ⟨_, hpa, ?_⟩) | (refine And.intro ?_ ?_; · decide)))
            all_goals exact ⟨m + 1, ⟨⟨hlt, fun h => absurd hk3 h⟩, by omega⟩, le_mk [(0, _), (1, _), (2, _), (3, _), (4, _)] rfl ⟨⟨rfl, rfl⟩, ⟨rfl, rfl⟩, ⟨rfl, rfl⟩, trivial⟩ ⟨⟨rfl, rfl⟩, ⟨rfl, rfl⟩, ⟨rfl, rfl⟩, ⟨rfl, rfl⟩, ⟨rfl, rfl⟩, trivial⟩ rfl⟩
          · obtain rfl := pad_end hm h
            clear h
            conv => whnf
            have hSr := s_Suits q ⟨q.Kind, 0, 0, 0, w, padF b (padN b.length)⟩
            cases hs : suits q ⟨q.Kind, 0, 0, 0, w, padF b (padN b.length)⟩ with
            | true =>
              rw [hs] at hSr
              (repeat' ((conv => whnf); first | refine br_i (fun _ => ?_) (fun _ => ?_) | (refine cur_leaf rfl rfl rfl ?_ ?_; · first | assumption | omega | exact hw ‹_›) | refine leaf_i rfl rfl ?_ | refine And.intro rfl ?_ | refine call_i (hSr) ?_ | (refine Or.inl ?_; (conv => whnf); refine call_i (hSr) ?_) | (refine And.intro ?_ ?_; · decide)))
              all_goals rfl
            | false =>
              rw [hs] at hSr
              (repeat' ((conv => whnf); first | refine br_i (fun _ => ?_) (fun _ => ?_) | (refine cur_leaf rfl rfl rfl ?_ ?_; · first | assumption | omega | exact hw ‹_›) | refine leaf_i rfl rfl ?_ | refine And.intro rfl ?_ | refine call_i (hSr) ?_ | (refine Or.inl ?_; (conv => whnf); refine call_i (hSr) ?_) | refine call_i (hF) ?_ | (refine Or.inl ?_; (conv => whnf); refine call_i (hF) ?_) | (refine And.intro ?_ ?_; · decide)))
              all_goals rfl
        case neg =>
          rw [if_neg hk3]
          obtain rfl := hm0 hk3
          refine br_i (fun h => by exfalso; simp at h; omega) (fun h => ?_)
          conv => whnf
          have hSr := s_Suits q ⟨q.Kind, 0, 0, 0, w, b⟩
          cases hs : suits q ⟨q.Kind, 0, 0, 0, w, b⟩ with
          | true =>
            rw [hs] at hSr
            (repeat' ((conv => whnf); first | refine br_i (fun _ => ?_) (fun _ => ?_) | (refine cur_leaf rfl rfl rfl ?_ ?_; · first | assumption | omega | exact hw ‹_›) | refine leaf_i rfl rfl ?_ | refine And.intro rfl ?_ | refine call_i (hSr) ?_ | (refine Or.inl ?_; (conv => whnf); refine call_i (hSr) ?_) | (refine And.intro ?_ ?_; · decide)))
            all_goals rfl
          | false =>
            rw [hs] at hSr
            (repeat' ((conv => whnf); first | refine br_i (fun _ => ?_) (fun _ => ?_) | (refine cur_leaf rfl rfl rfl ?_ ?_; · first | assumption | omega | exact hw ‹_›) | refine leaf_i rfl rfl ?_ | refine And.intro rfl ?_ | refine call_i (hSr) ?_ | (refine Or.inl ?_; (conv => whnf); refine call_i (hSr) ?_) | refine call_i (hF) ?_ | (refine Or.inl ?_; (conv => whnf); refine call_i (hF) ?_) | (refine And.intro ?_ ?_; · decide)))
            all_goals rfl
      · rw [hv] at hW
        conv => whnf
        refine call_i hW ?_
        conv => whnf
        refine br_i (fun h => by exfalso; simp at h; omega) (fun h => ?_)
        conv => whnf
        refine loop_i (fun m : Nat => ⟨envL [(3, .c (.ptr 0 0)), (6, .c (.ptr 1 0)), (8, .c (.ptr 2 0))], resL [(0, .box (q.ps.map .pv)), (1, .box [.pv (.int .i64 0), .pv (.int .i64 0), .pv (.int .i64 0), .pv (.int .i64 0), .nil 1, .nil 1]), (2, .box [.pv (.int .i64 q.Kind), .pv (.int .i64 0), .pv (.int .i64 0), .pv (.int .i64 0), .row 3, .row 4]), (3, .row true 1 (w.map intEl)), (4, .row true 1 ((padF b m).map boolEl))], 5, 141⟩) (fun m => m ≤ padN b.length ∧ (¬ q.Kind < 3 → m = 0)) (fun m => padN b.length - m) 0 ⟨Nat.zero_le _, fun _ => rfl⟩ (le_mk [(0, _), (1, _), (2, _), (3, _), (4, _)] rfl ⟨⟨rfl, rfl⟩, ⟨rfl, rfl⟩, ⟨rfl, rfl⟩, trivial⟩ ⟨⟨rfl, rfl⟩, ⟨rfl, rfl⟩, ⟨rfl, rfl⟩, ⟨rfl, rfl⟩, ⟨rfl, rfl⟩, trivial⟩ rfl) ?_
        intro m ⟨hm, hm0⟩
        have hpl := padF_len b m
        conv => whnf
        by_cases hk3 : q.Kind < 3
        case pos =>
          rw [if_pos hk3]
          refine br_i (fun h => ?_) (fun h => by exfalso; simp at h; omega)
          conv => whnf
          exfalso
          omega
        case neg =>
          rw [if_neg hk3]
          obtain rfl := hm0 hk3
          refine br_i (fun h => by exfalso; simp at h; omega) (fun h => ?_)
          conv => whnf
          have hSr := s_Suits q ⟨q.Kind, 0, 0, 0, w, b⟩
          cases hs : suits q ⟨q.Kind, 0, 0, 0, w, b⟩ with
          | true =>
            rw [hs] at hSr
            (repeat' ((conv => whnf); first | refine br_i (fun _ => ?_) (fun _ => ?_) | (refine cur_leaf rfl rfl rfl ?_ ?_; · first | assumption | omega | exact hw ‹_›) | refine leaf_i rfl rfl ?_ | refine And.intro rfl ?_ | refine call_i (hSr) ?_ | (refine Or.inl ?_; (conv => whnf); refine call_i (hSr) ?_) | (refine And.intro ?_ ?_; · decide)))
            all_goals rfl
          | false =>
            rw [hs] at hSr
            (repeat' ((conv => whnf); first | refine br_i (fun _ => ?_) (fun _ => ?_) | (refine cur_leaf rfl rfl rfl ?_ ?_; · first | assumption | omega | exact hw ‹_›) | refine leaf_i rfl rfl ?_ | refine And.intro rfl ?_ | refine call_i (hSr) ?_ | (refine Or.inl ?_; (conv => whnf); refine call_i (hSr) ?_) | refine call_i (hF) ?_ | (refine Or.inl ?_; (conv => whnf); refine call_i (hF) ?_) | (refine And.intro ?_ ?_; · decide)))
            all_goals rfl
def findI (t : XTable) (id : Int) : Int := firstBad (fun p : XPend => !decide (p.Id = id)) t.List_
theorem find_cases (t : XTable) (id : Int) : findI t id = -1 ∨ ∃ k : Nat, ∃ h : k < t.List_.length, findI t id = k := by
  unfold findI firstBad
  split
  · exact .inl rfl
  · rename_i h
    refine .inr ⟨_, List.findIdx_lt_length_of_exists ?_, rfl⟩
    simp at h
    simpa using h
theorem s_Find (t : XTable) (id : Int) : PureC Try.prog 82 [t.v, i64v id] [i64v (findI t id)] := by
  refine pureC_fit ⟨_, Try.func82, by kernel_rfl, rfl⟩ fun hf => ?_
  have hl : t.List_.length ≤ 9223372036854775807 := by
    have := hf t.v (by simp) (XPend.sP t.List_) (by simp [XTable.ps])
    cases this with
    | sl sz xs h1 h2 => simpa using h1
  clear hf
  refine pureC_of (Γ := lookT tbl) (il := ilist) tg dr Try.func82 rfl (by kernel_rfl) rfl (Nat.le_of_ble_eq_true rfl) ?_
  conv => whnf
  refine loop_i (fun k : Nat => ⟨envL [(1, .c (.pv (.int .i64 id))), (2, .c (.ptr 0 0)), (5, .c (.pv (.int .i64 k)))], resL [(0, .box (t.ps.map .pv))], 1, 22⟩) (fun k => k ≤ t.List_.length ∧ (t.List_.take k).all (fun p : XPend => !decide (p.Id = id)) = true) (fun k => t.List_.length - k) 0 ⟨Nat.zero_le _, rfl⟩ (le_mk [(0, _)] rfl ⟨⟨rfl, rfl⟩, ⟨rfl, rfl⟩, ⟨rfl, rfl⟩, trivial⟩ ⟨⟨rfl, rfl⟩, trivial⟩ rfl) ?_
  intro k ⟨hk, hs⟩
  conv => whnf
  refine br_i (fun h => ?_) (fun h => ?_)
  · have hlt : k < t.List_.length := by simpa using h
    conv => whnf
    refine ⟨_, idx_map t.List_ XPend.ps k hlt 13, ?_⟩
    conv => whnf
    refine br_i (fun h => ?_) (fun h => ?_) <;> conv => whnf
    · refine leaf_i rfl rfl ?_
      unfold findI
      rw [firstBad_at hs hlt (by simpa using h)]
      rfl
    · exact ⟨k + 1, ⟨⟨hlt, all_succ hs hlt (by simpa using h)⟩, by omega⟩, le_mk [(0, _)] rfl ⟨⟨rfl, rfl⟩, ⟨rfl, rfl⟩, ⟨ctr (by omega), rfl⟩, trivial⟩ ⟨⟨rfl, rfl⟩, trivial⟩ rfl⟩
  · have hk : t.List_.length ≤ k := by simpa using h
    conv => whnf
    refine leaf_i rfl rfl ?_
    rw [show findI t id = -1 from firstBad_none (all_end hs hk)]
    rfl
/-- A part told in a matter. -/
def fillP (p : XPend) (k : Nat) (a : XResp) : XPend := { p with Has := p.Has.set k true, Told := p.Told.set k a }
/-- May the part be told? -/
def canP (p : XPend) (part : Int) (a : XResp) : Bool := inB part 0 (p.Parts.length - 1) && (!p.Has.getD part.toNat false && suits (p.Parts.getD part.toNat XPart.zero).Req a)
def replyS (p : XPend) : XReply := ⟨p.Source, p.Tag, p.Req, p.Parts, p.Told, joinedS p.Req p.Parts p.Told⟩
theorem sum_all {α : Type} (f : α → Nat) (c : Nat) (l : List α) (h : ∀ x ∈ l, f x ≤ c) : sumF f l ≤ c * l.length := by
  induction l with
  | nil => exact Nat.le_refl _
  | cons a l ih =>
    have h1 := h a (List.mem_cons_self ..)
    have h2 := ih fun x hx => h x (List.mem_cons_of_mem _ hx)
    simp only [sumF, List.length_cons, Nat.mul_add]
    omega
theorem tb_pend {t : XTable} (h : tableB t = true) {k : Nat} (hk : k < t.List_.length) : pendB t.List_[k] = true := by
  simp only [tableB, Bool.and_eq_true, List.all_eq_true] at h
  have h1 := h.2 k (List.mem_range.2 hk)
  have hg : t.List_.getD k XPend.zero = t.List_[k] := by simp [List.getD, List.getElem?_eq_getElem hk]
  simp only [rowB, Bool.and_eq_true, hg] at h1
  exact h1.1.1
theorem pendSmall {p : XPend} (h : pendB p = true) : p.Req.tot ≤ 3000 ∧ XPart.sTot p.Parts ≤ 30000 ∧ (∀ a ∈ p.Told, a.tot ≤ 3000) ∧ p.Has.length = p.Parts.length ∧ p.Told.length = p.Parts.length ∧ 1 ≤ p.Parts.length ∧ p.Parts.length ≤ 8 := by
  simp only [pendB, headB, inB, Bool.and_eq_true, decide_eq_true_eq, List.all_eq_true] at h
  obtain ⟨⟨⟨⟨⟨⟨_, hq⟩, hl⟩, h1⟩, h2⟩, hc⟩, _⟩ := h
  have hq2 := (req_small hq).1
  refine ⟨by omega, ?_, ?_, by omega, by omega, by omega, by omega⟩
  · have hs := sum_all XPart.tot 3000 p.Parts (fun x hx => by
      obtain ⟨i, hi, rfl⟩ := List.getElem_of_mem hx
      have := hc i (List.mem_range.2 hi)
      have hg : p.Parts.getD i XPart.zero = p.Parts[i] := by simp [List.getD, List.getElem?_eq_getElem hi]
      simp only [cellB, partB, hg, Bool.and_eq_true] at this
      have h3 := (req_small this.1.2).1
      have : XPart.tot p.Parts[i] = p.Parts[i].Req.tot := rfl
      omega)
    have := parts_tot p.Parts
    omega
  · intro a ha
    obtain ⟨i, hi, rfl⟩ := List.getElem_of_mem ha
    have := hc i (List.mem_range.2 (by omega))
    have hg : p.Told.getD i XResp.zero = p.Told[i] := by simp [List.getD, List.getElem?_eq_getElem hi]
    simp only [cellB, hg, Bool.and_eq_true] at this
    have h3 := this.2
    split at h3
    · exact suitsTot h3
    · have : p.Told[i] = XResp.zero := by simpa using h3
      rw [this]
      exact Nat.zero_le _
theorem tbSmall {t : XTable} (h : tableB t = true) {k : Nat} (hk : k < t.List_.length) : t.List_[k].Req.tot ≤ 3000 ∧ XPart.sTot t.List_[k].Parts ≤ 30000 ∧ ∀ a ∈ t.List_[k].Told, a.tot ≤ 3000 := by
  obtain ⟨h1, h2, h3, _⟩ := pendSmall (tb_pend h hk)
  exact ⟨h1, h2, h3⟩
theorem pendTot {p : XPend} (h : pendB p = true) : p.tot ≤ 60000 := by
  obtain ⟨h1, h2, h3, h4, h5, h6, h7⟩ := pendSmall h
  have h8 := sum_all XResp.tot 3000 p.Told h3
  have h9 := resps_tot p.Told
  have := pend_tot p
  omega
theorem tableTot {t : XTable} (h : tableB t = true) : t.tot ≤ 1048576 := by
  have h1 := table_tot t
  have h2 := pends_tot t.List_
  have h3 := sum_all XPend.tot 60000 t.List_ (fun x hx => by
    obtain ⟨i, hi, rfl⟩ := List.getElem_of_mem hx
    exact pendTot (tb_pend h hi))
  have h4 := table_b h
  omega
theorem pend_lens {t : XTable} (h : tableB t = true) {k : Nat} (hk : k < t.List_.length) : t.List_[k].Has.length = t.List_[k].Parts.length ∧ t.List_[k].Told.length = t.List_[k].Parts.length ∧ t.List_[k].Parts.length ≤ 8 := by
  simp only [tableB, Bool.and_eq_true, List.all_eq_true] at h
  have h1 := h.2 k (List.mem_range.2 hk)
  have hg : t.List_.getD k XPend.zero = t.List_[k] := by simp [List.getD, List.getElem?_eq_getElem hk]
  simp only [rowB, pendB, headB, inB, Bool.and_eq_true, hg, decide_eq_true_eq] at h1
  omega
theorem in_len (p : XPend) (part : Int) (h : p.Parts.length ≤ 8) : PureC Try.prog 35 [i64v part, i64v 0, i64v (IntKind.i64.wrap (((p.Parts.map XPart.ps).length : Int) - 1))] [boolv (inB part 0 (p.Parts.length - 1))] := by
  rw [List.length_map, wrap_ok (by omega) (by omega)]
  exact s_in _ _ _
/-- The matter is not told, or wrongly. -/
theorem s_Fill0 (t : XTable) (id part : Int) (a : XResp) (ht : t.tot ≤ 1048576) (h : tableB t = false ∨ (tableB t = true ∧ (findI t id = -1 ∨ ∃ k : Nat, ∃ hk : k < t.List_.length, findI t id = k ∧ canP t.List_[k] part a = false))) : PureC Try.prog 47 [t.v, i64v id, i64v part, a.v] [t.v, XReply.sV []] := by
  have hT := s_TableOk t
  have hF := s_Find t id
  refine pureC_of (Γ := lookT tbl) (il := ilist) tg dr Try.func47 rfl (by kernel_rfl) rfl (Nat.le_of_ble_eq_true rfl) ?_
  conv => whnf
  refine inl_nd (Γ := lookT tbl) [26] ?_
  conv => whnf
  refine nd_i (ndC_pure (s_l13Copy t ht)) ?_
  rintro _ rfl
  rcases h with h | ⟨h, h1 | ⟨k, hk, h1, h2⟩⟩
  · rw [h] at hT
    (repeat' ((conv => whnf); first | refine br_i (fun _ => ?_) (fun _ => ?_) | (refine cur_leaf rfl rfl rfl ?_ ?_; · first | assumption | omega | exact hw ‹_›) | refine leaf_i rfl rfl ?_ | refine And.intro rfl ?_ | refine call_i (hF) ?_ | (refine Or.inl ?_; (conv => whnf); refine call_i (hF) ?_) | refine call_i (hT) ?_ | (refine Or.inl ?_; (conv => whnf); refine call_i (hT) ?_) | (refine And.intro ?_ ?_; · decide)))
    all_goals rfl
  · rw [h] at hT
    rw [h1] at hF
    (repeat' ((conv => whnf); first | refine br_i (fun _ => ?_) (fun _ => ?_) | (refine cur_leaf rfl rfl rfl ?_ ?_; · first | assumption | omega | exact hw ‹_›) | refine leaf_i rfl rfl ?_ | refine And.intro rfl ?_ | refine call_i (hF) ?_ | (refine Or.inl ?_; (conv => whnf); refine call_i (hF) ?_) | refine call_i (hT) ?_ | (refine Or.inl ?_; (conv => whnf); refine call_i (hT) ?_) | (refine And.intro ?_ ?_; · decide)))
    all_goals rfl
  · rw [h] at hT
    rw [h1] at hF
    obtain ⟨l1, l2, l3⟩ := pend_lens h hk
    have ix := idx_map t.List_ XPend.ps k hk 13
    generalize t.List_[k] = p at *
    have hI := in_len p part l3
    unfold canP at h2
    cases hb : inB part 0 (p.Parts.length - 1) with
    | false =>
      rw [hb] at hI
      (repeat' ((conv => whnf); first | refine br_i (fun _ => ?_) (fun _ => ?_) | (refine cur_leaf rfl rfl rfl ?_ ?_; · first | assumption | omega | exact hw ‹_›) | refine leaf_i rfl rfl ?_ | refine And.intro rfl ?_ | refine call_i (hF) ?_ | (refine Or.inl ?_; (conv => whnf); refine call_i (hF) ?_) | refine call_i (hT) ?_ | (refine Or.inl ?_; (conv => whnf); refine call_i (hT) ?_) | refine call_i (hI) ?_ | (refine Or.inl ?_; (conv => whnf); refine call_i (hI) ?_) | (refine ⟨_, ix, ?_⟩) | (refine And.intro ?_ ?_; · decide)))
      all_goals rfl
    | true =>
      rw [hb] at hI h2
      simp only [inB, Bool.and_eq_true, decide_eq_true_eq] at hb
      obtain ⟨j, rfl⟩ : ∃ j : Nat, part = j := ⟨part.toNat, by omega⟩
      have hj : j < p.Parts.length := by omega
      have i1 := idx_map p.Has boolEl j (by omega) 1
      have i2 := idx_map p.Parts XPart.ps j hj 8
      have hS := s_Suits p.Parts[j].Req a
      have e1 : p.Has.getD ((j : Int)).toNat false = p.Has[j]'(by omega) := by simp [List.getD, List.getElem?_eq_getElem (show j < p.Has.length by omega)]
      have e2 : p.Parts.getD ((j : Int)).toNat XPart.zero = p.Parts[j] := by simp [List.getD, List.getElem?_eq_getElem hj]
      rw [e1, e2] at h2
      clear e1 e2
      generalize p.Parts[j] = x at *
      generalize p.Has[j] = b at *
      cases b with
      | true =>
        (repeat' ((conv => whnf); first | refine br_i (fun _ => ?_) (fun _ => ?_) | (refine cur_leaf rfl rfl rfl ?_ ?_; · first | assumption | omega | exact hw ‹_›) | refine leaf_i rfl rfl ?_ | refine And.intro rfl ?_ | refine call_i (hF) ?_ | (refine Or.inl ?_; (conv => whnf); refine call_i (hF) ?_) | refine call_i (hT) ?_ | (refine Or.inl ?_; (conv => whnf); refine call_i (hT) ?_) | refine call_i (hI) ?_ | (refine Or.inl ?_; (conv => whnf); refine call_i (hI) ?_) | (refine ⟨_, ix, ?_⟩) | (refine ⟨_, i1, ?_⟩) | (refine And.intro ?_ ?_; · decide)))
        all_goals rfl
      | false =>
        rw [show suits x.Req a = false by simpa using h2] at hS
        (repeat' ((conv => whnf); first | refine br_i (fun _ => ?_) (fun _ => ?_) | (refine cur_leaf rfl rfl rfl ?_ ?_; · first | assumption | omega | exact hw ‹_›) | refine leaf_i rfl rfl ?_ | refine And.intro rfl ?_ | refine call_i (hF) ?_ | (refine Or.inl ?_; (conv => whnf); refine call_i (hF) ?_) | refine call_i (hT) ?_ | (refine Or.inl ?_; (conv => whnf); refine call_i (hT) ?_) | refine call_i (hI) ?_ | (refine Or.inl ?_; (conv => whnf); refine call_i (hI) ?_) | refine call_i (hS) ?_ | (refine Or.inl ?_; (conv => whnf); refine call_i (hS) ?_) | (refine ⟨_, ix, ?_⟩) | (refine ⟨_, i1, ?_⟩) | (refine ⟨_, i2, ?_⟩) | (refine And.intro ?_ ?_; · decide)))
        all_goals rfl
theorem hi_get {t : XTable} {k : Nat} (hk : k < t.List_.length) : (t.List_.map XPend.ps)[k]? = some (XPend.ps t.List_[k]) := by rw [List.getElem?_map, List.getElem?_eq_getElem hk]; rfl
theorem told_set (l : List XResp) (j : Nat) (a : XResp) : (l.set j a).map XResp.ps = setEl (l.map XResp.ps) j 0 a.ps := by
  rw [setEl_all (by intro el he; obtain ⟨x, _, rfl⟩ := List.mem_map.1 he; rfl), List.map_set]
/-- A matter's cells, its slices under names of their own; what these names hold. -/
def holC (p : XPend) (n : Nat) : List AC := [.pv (.int .i64 p.Id), .pv (.int .i64 p.Source), .pv (.int .i64 p.Tag), .pv (.int .i64 p.Unit), .pv (.int .i64 p.Req.Kind), .pv (.int .i64 p.Req.At), .pv (.int .i64 p.Req.N), .row (n + 7), .row (n + 8), .pv (.int .i64 p.Req.WAt), .row (n + 10), .row (n + 11), .row (n + 12)]
def holU (p : XPend) (n : Nat) : Upd := [(n + 7, some (.row true 1 (p.Req.Words.map intEl))), (n + 8, some (.row true 1 (p.Req.Bits.map boolEl))), (n + 10, some (.row true 8 (p.Parts.map XPart.ps))), (n + 11, some (.row true 1 (p.Has.map boolEl))), (n + 12, some (.row true 6 (p.Told.map XResp.ps)))]
set_option maxHeartbeats 4000000 in
theorem s_FillN (t : XTable) (id : Int) (j k : Nat) (a : XResp) (h : tableB t = true) (hk : k < t.List_.length) (h1 : findI t id = k) (h2 : canP t.List_[k] j a = true) (h3 : (fillP t.List_[k] j a).Has.all (fun b => b) = false) :
    PureC Try.prog 47 [t.v, i64v id, i64v j, a.v] [XTable.v ⟨t.Next, t.List_.set k (fillP t.List_[k] j a)⟩, XReply.sV []] := by
  have ht := tableTot h
  have hT := s_TableOk t
  have hF := s_Find t id
  rw [h] at hT
  rw [h1] at hF
  obtain ⟨l1, l2, l3⟩ := pend_lens h hk
  have ix := idx_map t.List_ XPend.ps k hk 13
  have hi := hi_get hk
  have hI := in_len t.List_[k] j l3
  unfold canP at h2
  simp only [Bool.and_eq_true] at h2
  obtain ⟨hb, hh, hs⟩ := h2
  rw [hb] at hI
  simp only [inB, Bool.and_eq_true, decide_eq_true_eq] at hb
  have hj : j < t.List_[k].Parts.length := by omega
  have hlen : k < (t.List_.map XPend.ps).length := by rw [List.length_map]; exact hk
  generalize hp : t.List_[k] = p at *
  have i1 := idx_map p.Has boolEl j (by omega) 1
  have i2 := idx_map p.Parts XPart.ps j hj 8
  have hS := s_Suits p.Parts[j].Req a
  have e1 : p.Has.getD ((j : Int)).toNat false = p.Has[j]'(by omega) := by simp [List.getD, List.getElem?_eq_getElem (show j < p.Has.length by omega)]
  have e2 : p.Parts.getD ((j : Int)).toNat XPart.zero = p.Parts[j] := by simp [List.getD, List.getElem?_eq_getElem hj]
  rw [e1] at hh
  rw [e2] at hs
  rw [hs] at hS
  have hb0 : p.Has[j]'(by omega) = false := by simpa using hh
  rw [hb0] at i1
  clear e1 e2 hh
  have hat := suitsTot hs
  generalize p.Parts[j] = x at *
  refine pureC_of (Γ := lookT tbl) (il := ilist) tg dr Try.func47 rfl (by kernel_rfl) rfl (Nat.le_of_ble_eq_true rfl) ?_
  conv => whnf
  refine inl_post ?_
  refine inl_ndR (Γ := lookT tbl) [26] ?_
  conv => whnf
  refine nd_i (ndC_pure (s_l13Copy t ht)) ?_
  rintro _ rfl
  conv => whnf
  refine ⟨⟨envL [(1, .c (.pv (.int .i64 id))), (2, .c (.pv (.int .i64 j))), (4, .c (.ptr 0 0)), (7, .c (.ptr 1 0)), (8, .c (.ptr 2 0)), (9, .c (.nil 16)), (15, .agg [.pv (.int .i64 t.Next), .row 5])], resL [(0, .box (t.ps.map .pv)), (1, .box (a.ps.map .pv)), (2, .box [.pv (.int .i64 0), .nil 13]), (5, .hol 13 k (t.List_.map XPend.ps) (holC p 0)), (7, .row true 1 (p.Req.Words.map intEl)), (8, .row true 1 (p.Req.Bits.map boolEl)), (10, .row true 8 (p.Parts.map XPart.ps)), (11, .row true 1 (p.Has.map boolEl)), (12, .row true 6 (p.Told.map XResp.ps))], 16, 133⟩, (le_rawHol 5121 k (ac := holC p 6144) (u := holU p 6144) rfl hi ⟨rfl, rfl⟩ rfl).trans (le_mk [(0, 0), (1, 1024), (2, 2048), (5, 5121), (7, 6151), (8, 6152), (10, 6154), (11, 6155), (12, 6156)] rfl ⟨⟨rfl, rfl⟩, ⟨rfl, rfl⟩, ⟨rfl, rfl⟩, ⟨rfl, rfl⟩, ⟨rfl, rfl⟩, ⟨rfl, rfl⟩, ⟨rfl, rfl⟩, trivial⟩ ⟨⟨rfl, rfl⟩, ⟨rfl, rfl⟩, ⟨rfl, rfl⟩, ⟨rfl, rfl⟩, ⟨rfl, rfl⟩, ⟨rfl, rfl⟩, ⟨rfl, rfl⟩, ⟨rfl, rfl⟩, ⟨rfl, rfl⟩, trivial⟩ rfl), ?_⟩
  (repeat' ((conv => whnf); first | refine br_i (fun _ => ?_) (fun _ => ?_) | (refine cur_leaf rfl rfl rfl ?_ ?_; · first | assumption | omega | exact hw ‹_›) | refine leaf_i rfl rfl ?_ | refine And.intro rfl ?_ | refine call_i (hF) ?_ | (refine Or.inl ?_; (conv => whnf); refine call_i (hF) ?_) | refine call_i (hT) ?_ | (refine Or.inl ?_; (conv => whnf); refine call_i (hT) ?_) | refine call_i (hI) ?_ | (refine Or.inl ?_; (conv => whnf); refine call_i (hI) ?_) | refine call_i (hS) ?_ | (refine Or.inl ?_; (conv => whnf); refine call_i (hS) ?_) | (refine ⟨_, ix, ?_⟩) | (refine ⟨_, i1, ?_⟩) | (refine ⟨_, i2, ?_⟩) | (refine And.intro ?_ ?_; · decide)))
  conv => whnf
  refine ⟨k, ⟨⟨rfl, hlen⟩, rfl⟩, ?_⟩
  conv => whnf
  refine And.intro ⟨rfl, rfl⟩ ?_
  conv => whnf
  refine ⟨j, ⟨⟨rfl, by rw [List.length_map, l1]; exact hj⟩, rfl⟩, ?_⟩
  conv => whnf
  refine ⟨(p.Has.set j true).map boolEl, ⟨rfl, by rw [List.length_map, l1]; exact hj, by decide, set_map PV.bool p.Has j true⟩, ?_⟩
  conv => whnf
  refine call_i (s_l12CopyResp a (by omega)) ?_
  conv => whnf
  refine ⟨j, ⟨⟨rfl, by rw [List.length_map, l2]; exact hj⟩, rfl⟩, ?_⟩
  conv => whnf
  refine ⟨(p.Told.set j a).map XResp.ps, ⟨⟨rfl, by rw [List.length_map, l2]; exact hj, Nat.le_refl _⟩, told_set p.Told j a⟩, ?_⟩
  conv => whnf
  refine And.intro rfl ?_
  conv => whnf
  have hH : (fillP p j a).Has = p.Has.set j true := rfl
  rw [hH] at h3
  have hHl : (p.Has.set j true).length = p.Parts.length := by rw [List.length_set, l1]
  refine loop_i (fun n : Nat => ⟨envL [(8, .c (.ptr 2 0)), (10, .c (.ptr 3 0)), (11, .c (.pv (.int .i64 k))), (12, .c (.ptr 4 0)), (13, .c (.pv (.int .i64 n)))], resL [(2, .box [.pv (.int .i64 0), .nil 13]), (3, .box [.pv (.int .i64 t.Next), .row 5]), (4, .box (holC p 0)), (5, .row true 13 ((t.List_.map XPend.ps).set k (XPend.ps (fillP p j a)))), (7, .ro 1 (p.Req.Words.map intEl)), (8, .ro 1 (p.Req.Bits.map boolEl)), (10, .ro 8 (p.Parts.map XPart.ps)), (11, .ro 1 ((p.Has.set j true).map boolEl)), (12, .ro 6 ((p.Told.set j a).map XResp.ps))], 16, 133⟩) (fun n => n ≤ p.Parts.length ∧ ((p.Has.set j true).take n).all (fun b => b) = true) (fun n => p.Parts.length - n) 0 ⟨Nat.zero_le _, rfl⟩
    (Le.trans (le_hol 5 [(7, 1, p.Req.Words.map intEl), (8, 1, p.Req.Bits.map boolEl), (10, 8, p.Parts.map XPart.ps), (11, 1, (p.Has.set j true).map boolEl), (12, 6, (p.Told.set j a).map XResp.ps)] (cs := holC p 0) (el := XPend.ps (fillP p j a)) rfl ⟨⟨rfl, rfl⟩, rfl⟩ ⟨rfl, rfl, rfl, rfl, rfl, trivial⟩ rfl) (le_mk [(2, _), (3, _), (4, _), (5, _), (7, _), (8, _), (10, _), (11, _), (12, _)] rfl ⟨⟨rfl, rfl⟩, ⟨rfl, rfl⟩, ⟨rfl, rfl⟩, ⟨rfl, rfl⟩, ⟨rfl, rfl⟩, trivial⟩ ⟨⟨rfl, rfl⟩, ⟨rfl, rfl⟩, ⟨rfl, rfl⟩, ⟨rfl, rfl⟩, ⟨rfl, rfl⟩, ⟨rfl, rfl⟩, ⟨rfl, rfl⟩, ⟨rfl, rfl⟩, ⟨rfl, rfl⟩, trivial⟩ rfl)) ?_
  intro n ⟨hn, hall⟩
  conv => whnf
  refine br_i (fun hb2 => ?_) (fun hb2 => ?_)
  · have hlt : n < (p.Has.set j true).length := by have := dlt hb2; rw [List.length_map] at this; omega
    have hgt : ((p.Has.set j true).map boolEl)[n]? = some (boolEl (p.Has.set j true)[n]) := by rw [List.getElem?_map, List.getElem?_eq_getElem hlt]; rfl
    conv => whnf
    refine ⟨n, ⟨⟨rfl, by rw [List.length_map]; exact hlt⟩, rfl⟩, ?_⟩
    conv => whnf
    refine ⟨_, ⟨rfl, hgt⟩, ?_⟩
    conv => whnf
    refine br_i (fun hb3 => ?_) (fun hb3 => ?_)
    · conv => whnf
      refine leaf_i rfl rfl ?_
      show [VV.agg [.int .i64 t.Next, .sl 13 ((t.List_.map XPend.ps).set k (XPend.ps (fillP p j a)))], .one (.sl 16 [])] = _
      rw [← List.map_set]
      rfl
    · conv => whnf
      exact ⟨n + 1, ⟨⟨by omega, by rw [List.take_succ_eq_append_getElem hlt, List.all_append, hall]; simpa using hb3⟩, by omega⟩, le_mk [(2, _), (3, _), (4, _), (5, _), (7, _), (8, _), (10, _), (11, _), (12, _)] rfl ⟨⟨rfl, rfl⟩, ⟨rfl, rfl⟩, ⟨rfl, rfl⟩, ⟨rfl, rfl⟩, ⟨ctr (by omega), rfl⟩, trivial⟩ ⟨⟨rfl, rfl⟩, ⟨rfl, rfl⟩, ⟨rfl, rfl⟩, ⟨rfl, rfl⟩, ⟨rfl, rfl⟩, ⟨rfl, rfl⟩, ⟨rfl, rfl⟩, ⟨rfl, rfl⟩, ⟨rfl, rfl⟩, trivial⟩ rfl⟩
  · exfalso
    have hge : (p.Has.set j true).length ≤ n := by have := dge hb2; rw [List.length_map] at this; omega
    rw [List.take_of_length_le hge, h3] at hall
    cases hall
theorem told_tot {l : List XResp} (hl : l.length ≤ 8) (h : ∀ x ∈ l, x.tot ≤ 3000) : XResp.sTot l ≤ 1048576 := by
  rw [resps_tot]
  have : sumF XResp.tot l ≤ 3000 * l.length := by
    clear hl
    induction l with
    | nil => exact Nat.le_refl _
    | cons a l ih =>
      have h1 := h a (by simp)
      have h2 := ih fun x hx => h x (by simp [hx])
      simp [sumF]; omega
  omega
theorem anyFlat {sz n : Nat} {xo ys : List (List PV)} (hA : AnyRow sz n xo) (h : ∀ el ∈ ys, el ∈ xo) : Flat ys := by
  intro el he p hp
  obtain ⟨i, hi⟩ := List.getElem?_of_mem (h el he)
  obtain ⟨j, hj⟩ := List.getElem?_of_mem hp
  obtain ⟨v, rfl⟩ := hA.2.2 i j p (by simp [at2, hi, hj])
  rfl
set_option maxHeartbeats 4000000 in
theorem s_FillC (t : XTable) (id : Int) (j k : Nat) (a : XResp) (h : tableB t = true) (hk : k < t.List_.length) (h1 : findI t id = k) (h2 : canP t.List_[k] j a = true) (h3 : (fillP t.List_[k] j a).Has.all (fun b => b) = true) :
    PureC Try.prog 47 [t.v, i64v id, i64v j, a.v] [XTable.v ⟨t.Next, rmv k t.List_⟩, XReply.sV [replyS (fillP t.List_[k] j a)]] := by
  have ht := tableTot h
  have hT := s_TableOk t
  have hF := s_Find t id
  rw [h] at hT
  rw [h1] at hF
  obtain ⟨l1, l2, l3⟩ := pend_lens h hk
  obtain ⟨b1, b2, b3⟩ := tbSmall h hk
  have ix := idx_map t.List_ XPend.ps k hk 13
  have hi := hi_get hk
  have hI := in_len t.List_[k] j l3
  unfold canP at h2
  simp only [Bool.and_eq_true] at h2
  obtain ⟨hb, hh, hs⟩ := h2
  rw [hb] at hI
  simp only [inB, Bool.and_eq_true, decide_eq_true_eq] at hb
  have hj : j < t.List_[k].Parts.length := by omega
  have hlen : k < (t.List_.map XPend.ps).length := by rw [List.length_map]; exact hk
  generalize hp : t.List_[k] = p at *
  have i1 := idx_map p.Has boolEl j (by omega) 1
  have i2 := idx_map p.Parts XPart.ps j hj 8
  have hS := s_Suits p.Parts[j].Req a
  have e1 : p.Has.getD ((j : Int)).toNat false = p.Has[j]'(by omega) := by simp [List.getD, List.getElem?_eq_getElem (show j < p.Has.length by omega)]
  have e2 : p.Parts.getD ((j : Int)).toNat XPart.zero = p.Parts[j] := by simp [List.getD, List.getElem?_eq_getElem hj]
  rw [e1] at hh
  rw [e2] at hs
  rw [hs] at hS
  have hb0 : p.Has[j]'(by omega) = false := by simpa using hh
  rw [hb0] at i1
  clear e1 e2 hh
  have hat := suitsTot hs
  generalize p.Parts[j] = x at *
  refine pureC_ofL (Γ := lookT tbl) (il := ilist) tg dr Try.func47 rfl (by kernel_rfl) rfl (Nat.le_of_ble_eq_true rfl) ?_
  conv => whnf
  refine inl_postX (List (List PV)) ?_
  refine inl_ndR (Γ := lookT tbl) [26] ?_
  conv => whnf
  refine nd_i (ndC_pure (s_l13Copy t ht)) ?_
  rintro _ rfl
  conv => whnf
  refine ⟨_, _, LeX.le (lex_rawHol 5121 k (ac := holC p 6144) (u := holU p 6144) rfl hi ⟨rfl, rfl⟩ rfl) (sh' := fun xo => ⟨envL [(1, .c (.pv (.int .i64 id))), (2, .c (.pv (.int .i64 j))), (4, .c (.ptr 0 0)), (7, .c (.ptr 1 0)), (8, .c (.ptr 2 0)), (9, .c (.nil 16)), (15, .agg [.pv (.int .i64 t.Next), .row 5])], resL [(0, .box (t.ps.map .pv)), (1, .box (a.ps.map .pv)), (2, .box [.pv (.int .i64 0), .nil 13]), (5, .hol 13 k xo (holC p 0)), (7, .row true 1 (p.Req.Words.map intEl)), (8, .row true 1 (p.Req.Bits.map boolEl)), (10, .row true 8 (p.Parts.map XPart.ps)), (11, .row true 1 (p.Has.map boolEl)), (12, .row true 6 (p.Told.map XResp.ps)), (14, .gho ((t.List_.map XPend.ps).set k []) xo)], 16, 133⟩) (fun xo _ => le_mk [(0, 0), (1, 1024), (2, 2048), (5, 5121), (7, 6151), (8, 6152), (10, 6154), (11, 6155), (12, 6156), (14, 6207)] rfl ⟨⟨rfl, rfl⟩, ⟨rfl, rfl⟩, ⟨rfl, rfl⟩, ⟨rfl, rfl⟩, ⟨rfl, rfl⟩, ⟨rfl, rfl⟩, ⟨rfl, rfl⟩, trivial⟩ ⟨⟨rfl, rfl⟩, ⟨rfl, rfl⟩, ⟨rfl, rfl⟩, ⟨rfl, rfl⟩, ⟨rfl, rfl⟩, ⟨rfl, rfl⟩, ⟨rfl, rfl⟩, ⟨rfl, rfl⟩, ⟨rfl, rfl⟩, ⟨rfl, rfl⟩, trivial⟩ rfl), ?_⟩
  intro xo hA
  have hxl : xo.length = (t.List_.map XPend.ps).length := hA.1
  (repeat' ((conv => whnf); first | refine br_i (fun _ => ?_) (fun _ => ?_) | (refine cur_leaf rfl rfl rfl ?_ ?_; · first | assumption | omega | exact hw ‹_›) | refine leaf_i rfl rfl ?_ | refine And.intro rfl ?_ | refine call_i (hF) ?_ | (refine Or.inl ?_; (conv => whnf); refine call_i (hF) ?_) | refine call_i (hT) ?_ | (refine Or.inl ?_; (conv => whnf); refine call_i (hT) ?_) | refine call_i (hI) ?_ | (refine Or.inl ?_; (conv => whnf); refine call_i (hI) ?_) | refine call_i (hS) ?_ | (refine Or.inl ?_; (conv => whnf); refine call_i (hS) ?_) | (refine ⟨_, ix, ?_⟩) | (refine ⟨_, i1, ?_⟩) | (refine ⟨_, i2, ?_⟩) | (refine And.intro ?_ ?_; · decide)))
  conv => whnf
  refine ⟨k, ⟨⟨rfl, by rw [hxl]; exact hlen⟩, rfl⟩, ?_⟩
  conv => whnf
  refine And.intro ⟨rfl, rfl⟩ ?_
  conv => whnf
  refine ⟨j, ⟨⟨rfl, by rw [List.length_map, l1]; exact hj⟩, rfl⟩, ?_⟩
  conv => whnf
  refine ⟨(p.Has.set j true).map boolEl, ⟨rfl, by rw [List.length_map, l1]; exact hj, by decide, set_map PV.bool p.Has j true⟩, ?_⟩
  conv => whnf
  refine call_i (s_l12CopyResp a (by omega)) ?_
  conv => whnf
  refine ⟨j, ⟨⟨rfl, by rw [List.length_map, l2]; exact hj⟩, rfl⟩, ?_⟩
  conv => whnf
  refine ⟨(p.Told.set j a).map XResp.ps, ⟨⟨rfl, by rw [List.length_map, l2]; exact hj, Nat.le_refl _⟩, told_set p.Told j a⟩, ?_⟩
  conv => whnf
  refine And.intro rfl ?_
  conv => whnf
  have hH : (fillP p j a).Has = p.Has.set j true := rfl
  rw [hH] at h3
  have hHl : (p.Has.set j true).length = p.Parts.length := by rw [List.length_set, l1]
  refine loop_i (fun n : Nat => ⟨envL [(8, .c (.ptr 2 0)), (10, .c (.ptr 3 0)), (11, .c (.pv (.int .i64 k))), (12, .c (.ptr 4 0)), (13, .c (.pv (.int .i64 n))), (68, .c (.row 5))], resL [(2, .box [.pv (.int .i64 0), .nil 13]), (3, .box [.pv (.int .i64 t.Next), .row 5]), (4, .box (holC p 0)), (5, .ro 13 xo), (7, .row true 1 (p.Req.Words.map intEl)), (8, .row true 1 (p.Req.Bits.map boolEl)), (10, .row true 8 (p.Parts.map XPart.ps)), (11, .row true 1 ((p.Has.set j true).map boolEl)), (12, .row true 6 ((p.Told.set j a).map XResp.ps)), (14, .gho ((t.List_.map XPend.ps).set k []) xo)], 16, 133⟩) (fun n => n ≤ p.Parts.length) (fun n => p.Parts.length - n) 0 (Nat.zero_le _)
    (Le.trans (le_holFlat 5 hA rfl) (Le.trans (le_ro 5 rfl) (le_mk [(2, _), (3, _), (4, _), (5, _), (7, _), (8, _), (10, _), (11, _), (12, _), (14, 14)] rfl ⟨⟨rfl, rfl⟩, ⟨rfl, rfl⟩, ⟨rfl, rfl⟩, ⟨rfl, rfl⟩, ⟨rfl, rfl⟩, ⟨rfl, rfl⟩, trivial⟩ ⟨⟨rfl, rfl⟩, ⟨rfl, rfl⟩, ⟨rfl, rfl⟩, ⟨rfl, rfl⟩, ⟨rfl, rfl⟩, ⟨rfl, rfl⟩, ⟨rfl, rfl⟩, ⟨rfl, rfl⟩, ⟨rfl, rfl⟩, ⟨rfl, rfl⟩, trivial⟩ rfl))) ?_
  intro n hn
  conv => whnf
  refine br_i (fun hb2 => ?_) (fun hb2 => ?_)
  · have hlt : n < (p.Has.set j true).length := by have := dlt hb2; rw [List.length_map] at this; omega
    have hgt : ((p.Has.set j true).map boolEl)[n]? = some (boolEl true) := by
      rw [List.getElem?_map, List.getElem?_eq_getElem hlt, List.all_eq_true.1 h3 _ (List.getElem_mem hlt)]; rfl
    conv => whnf
    refine ⟨n, ⟨⟨rfl, by rw [List.length_map]; exact hlt⟩, rfl⟩, ?_⟩
    conv => whnf
    refine ⟨_, ⟨rfl, hgt⟩, ?_⟩
    conv => whnf
    exact ⟨n + 1, ⟨by omega, by omega⟩, le_mk [(2, _), (3, _), (4, _), (5, _), (7, _), (8, _), (10, _), (11, _), (12, _), (14, 14)] rfl ⟨⟨rfl, rfl⟩, ⟨rfl, rfl⟩, ⟨rfl, rfl⟩, ⟨rfl, rfl⟩, ⟨ctr (by omega), rfl⟩, ⟨rfl, rfl⟩, trivial⟩ ⟨⟨rfl, rfl⟩, ⟨rfl, rfl⟩, ⟨rfl, rfl⟩, ⟨rfl, rfl⟩, ⟨rfl, rfl⟩, ⟨rfl, rfl⟩, ⟨rfl, rfl⟩, ⟨rfl, rfl⟩, ⟨rfl, rfl⟩, ⟨rfl, rfl⟩, trivial⟩ rfl⟩
  · conv => whnf
    have hk2 : k < xo.length := by rw [hxl]; exact hlen
    have hl16 : xo.length ≤ 1048576 := by rw [hxl, List.length_map]; have := table_tot t; have := pends_tot t.List_; omega
    refine ⟨xo.take k, ⟨⟨⟨by decide, by omega⟩, by omega⟩, rfl, rfl⟩, ?_⟩
    conv => whnf
    refine ⟨rfl, ?_⟩
    conv => whnf
    refine ⟨xo.take k, ⟨by rw [List.length_take]; show (0 + min k xo.length) * 184 ≤ 140737488355328; omega, rfl⟩, ?_⟩
    conv => whnf
    rw [wrap_ok (x := (k : Int) + 1) (by omega) (by omega)]
    refine ⟨xo.drop (k + 1), ⟨⟨⟨by omega, by omega⟩, Int.le_refl _⟩, by simp, rfl⟩, ?_⟩
    conv => whnf
    refine ⟨rfl, ?_⟩
    conv => whnf
    refine ⟨rmv k xo, ⟨by rw [List.length_take, List.length_drop]; show (min k xo.length + (xo.length - (k + 1))) * 184 ≤ 140737488355328; omega, rfl⟩, ?_⟩
    conv => whnf
    refine And.intro rfl ?_
    conv => whnf
    have hm9 : ∀ x ∈ p.Told.set j a, x.tot ≤ 3000 := fun x hx => by
      rcases List.mem_or_eq_of_mem_set hx with hx | rfl
      · exact b3 x hx
      · exact hat
    have hs9 : XResp.sTot (p.Told.set j a) ≤ 1048576 := told_tot (by rw [List.length_set]; omega) hm9
    (repeat' ((conv => whnf); first | refine br_i (fun _ => ?_) (fun _ => ?_) | (refine cur_leaf rfl rfl rfl ?_ ?_; · first | assumption | omega | exact hw ‹_›) | refine leaf_i rfl rfl ?_ | refine And.intro rfl ?_ | refine call_i (s_l10CopyReq p.Req (by omega)) ?_ | (refine Or.inl ?_; (conv => whnf); refine call_i (s_l10CopyReq p.Req (by omega)) ?_) | refine call_i (s_l13CopyParts p.Parts (by omega)) ?_ | (refine Or.inl ?_; (conv => whnf); refine call_i (s_l13CopyParts p.Parts (by omega)) ?_) | refine call_i (s_l13CopyTold (p.Told.set j a) hs9) ?_ | (refine Or.inl ?_; (conv => whnf); refine call_i (s_l13CopyTold (p.Told.set j a) hs9) ?_) | refine call_i (s_Joined p.Req p.Parts (p.Told.set j a) b1 (by omega) (by rw [List.length_set]; exact l2) l3 hm9) ?_ | (refine Or.inl ?_; (conv => whnf); refine call_i (s_Joined p.Req p.Parts (p.Told.set j a) b1 (by omega) (by rw [List.length_set]; exact l2) l3 hm9) ?_) | (refine And.intro ?_ ?_; · decide)))
    conv => whnf
    refine ⟨_, le_adopt 16400 14 k (xs := t.List_.map XPend.ps) rfl rfl (by rw [hxl] at *; exact hA) (by intro el he; obtain ⟨x, _, rfl⟩ := List.mem_map.1 he; rfl) hlen, ?_⟩
    refine leaf_i rfl rfl ?_
    have hrm : rmv k (t.List_.map XPend.ps) = (rmv k t.List_).map XPend.ps := by simp [rmv]
    rw [hrm]
    rfl

end Go.Proofs.Ytnpcgheojijpjaa
