/- impl.ParseConfig at the texts of right settings. -/
import Derived.Test.YtfpcgomngnfdeaaDoorXCfgPure
namespace Go.Proofs.YtfpcgomngnfdeaaDoor
open Go Go.Vi
set_option linter.unusedVariables false
set_option linter.unusedSimpArgs false
set_option maxRecDepth 100000
def strB (l : List UInt8) : VV := .one (.str (bs l))
theorem m_numberOf (n : Int) (h0 : -1000000 < n) (h1 : n < 1000000) (sg : Bool) (hs : n < 0 → sg = true) : PureC Tryd.prog 55 [strB (Lib.itoa n), boolv sg] [i64v n, boolv true] := by
  have c1 := lib_CutPrefix (Lib.itoa n) [45]
  rw [trim_neg.1, trim_neg.2] at c1
  have l6 := dec_len6 n.natAbs (by omega)
  have l1 := dec_pos n.natAbs
  have c2 := lib_atoi (Lib.decDigits n.natAbs) n.natAbs (by omega) (atoi_dec _)
  have c3 := lib_itoa n.natAbs (by omega) (by omega)
  rw [show numT n.natAbs = bs (Lib.decDigits n.natAbs) by unfold numT bs Lib.itoa; rw [if_neg (by omega)]; rfl] at c3
  have c4 := m_in ((bs (Lib.decDigits n.natAbs)).size : Int) 1 6
  rw [show inB ((bs (Lib.decDigits n.natAbs)).size : Int) 1 6 = true by unfold inB; rw [bs_size]; simp; omega] at c4
  unfold strB
  refine pureC_of (Γ := lookT tbl) (il := ilist) tg dr Tryd.func55 rfl (by kernel_rfl) rfl (Nat.le_of_ble_eq_true rfl) ?_
  (repeat' ((conv => whnf); first | refine br_i (fun _ => ?_) (fun _ => ?_) | (refine cur_leaf rfl rfl rfl ?_ ?_; · first | assumption | omega | exact hw ‹_›) | refine leaf_i rfl rfl ?_ | refine And.intro rfl ?_ | refine call_i (c1) ?_ | (refine Or.inl ?_; (conv => whnf); refine call_i (c1) ?_) | refine call_i (c2) ?_ | (refine Or.inl ?_; (conv => whnf); refine call_i (c2) ?_) | refine call_i (c3) ?_ | (refine Or.inl ?_; (conv => whnf); refine call_i (c3) ?_) | refine call_i (c4) ?_ | (refine Or.inl ?_; (conv => whnf); refine call_i (c4) ?_) | (refine And.intro ?_ ?_; · decide)))
  all_goals clear c1 c2 c3 c4
  all_goals first
    | (exfalso; simp_all [bs]; done)
    | (exfalso; simp_all [bs]; omega)
    | (rw [show IntKind.i64.wrap (0 - (n.natAbs : Int)) = n by rw [wrap_ok (by omega) (by omega)]; simp_all; omega]; rfl)
    | (rw [show (n.natAbs : Int) = n by simp_all; omega]; rfl)
/-- The words of numbers. -/
def wordsT (l : List Int) : List ByteArray := l.map fun n => bs (Lib.itoa n)
theorem m_numbersOf (l : List Int) (h : ∀ n ∈ l, -1000000 < n ∧ n < 1000000) (hs : ∀ (k : Nat) (hk : k < l.length), l[k] < 0 → k + 1 = l.length) (hl : l.length ≤ 100) (sg : Bool) (hsg : sg = false → ∀ n ∈ l, 0 ≤ n) (m : Int) :
    PureC Tryd.prog 40 [strsV (wordsT l), i64v m, boolv sg] [intsV l, boolv ((l.length : Int) == m)] := by
  refine pureC_of (Γ := lookT tbl) (il := ilist) tg dr Tryd.func40 rfl (by kernel_rfl) rfl (Nat.le_of_ble_eq_true rfl) ?_
  unfold strsV wordsT
  rw [List.map_map]
  conv => whnf
  refine loop_i (fun k : Nat => ⟨envL [(0, .c (.pv (.sl 1 (l.map fun n => strEl (bs (Lib.itoa n)))))), (1, .c (.pv (.int .i64 m))), (2, .c (.pv (.bool sg))), (8, .c (.row 0)), (14, .c (.pv (.sl 1 (l.map fun n => strEl (bs (Lib.itoa n)))))), (15, .c (.pv (.int .i64 l.length))), (16, .c (.pv (.int .i64 k)))], resL [(0, .row true 1 ((l.take k).map intEl))], 1, 46⟩) (fun k => k ≤ l.length) (fun k => l.length - k) 0 (Nat.zero_le _) (le_mk [(0, _)] rfl ⟨⟨rfl, rfl⟩, ⟨rfl, rfl⟩, ⟨rfl, rfl⟩, ⟨rfl, rfl⟩, ⟨rfl, rfl⟩, ⟨i64_eq (by rw [List.length_map]), rfl⟩, ⟨rfl, rfl⟩, trivial⟩ ⟨⟨rfl, rfl⟩, trivial⟩ rfl) ?_
  intro k hk
  conv => whnf
  refine br_i (fun hb => ?_) (fun hb => ?_)
  · have hlt : k < l.length := by simpa using hb
    have hn := h _ (List.getElem_mem hlt)
    have hsk := hs k hlt
    have h0 := fun e => hsg e _ (List.getElem_mem hlt)
    have c := fun (b : Bool) (hb2 : l[k] < 0 → b = true) => m_numberOf l[k] hn.1 hn.2 b hb2
    have tk : (l.take (k + 1)).map intEl = (l.take k).map intEl ++ [intEl l[k]] := by rw [List.take_succ_eq_append_getElem hlt, List.map_append]; rfl
    have tl : ((l.take k).map intEl).length = k := by rw [List.length_map, List.length_take]; omega
    have ix := idx_map l (fun n => strEl (bs (Lib.itoa n))) k hlt 1
    generalize l[k] = n at *
    cases sg with
    | false =>
      conv => whnf
      refine ⟨_, ix, ?_⟩
      conv => whnf
      refine call_i (c false (fun e => by have := h0 rfl; omega)) ?_
      conv => whnf
      refine ⟨⟨rfl, flat_int [n]⟩, ?_⟩
      conv => whnf
      refine ⟨(l.take (k + 1)).map intEl, ⟨by rw [tl]; show (k + 1) * 8 ≤ _; omega, tk⟩, ?_⟩
      conv => whnf
      exact ⟨k + 1, ⟨hlt, by omega⟩, le_mk [(0, _)] rfl ⟨⟨rfl, rfl⟩, ⟨rfl, rfl⟩, ⟨rfl, rfl⟩, ⟨rfl, rfl⟩, ⟨rfl, rfl⟩, ⟨rfl, rfl⟩, ⟨ctr (by omega), rfl⟩, trivial⟩ ⟨⟨rfl, rfl⟩, trivial⟩ rfl⟩
    | true =>
      conv => whnf
      refine ⟨_, ix, ?_⟩
      conv => whnf
      refine call_i (c _ (fun e => by have := hsk e; rw [List.length_map, wrap_ok (by omega) (by omega)]; simp; omega)) ?_
      conv => whnf
      refine ⟨⟨rfl, flat_int [n]⟩, ?_⟩
      conv => whnf
      refine ⟨(l.take (k + 1)).map intEl, ⟨by rw [tl]; show (k + 1) * 8 ≤ _; omega, tk⟩, ?_⟩
      conv => whnf
      exact ⟨k + 1, ⟨hlt, by omega⟩, le_mk [(0, _)] rfl ⟨⟨rfl, rfl⟩, ⟨rfl, rfl⟩, ⟨rfl, rfl⟩, ⟨rfl, rfl⟩, ⟨rfl, rfl⟩, ⟨rfl, rfl⟩, ⟨ctr (by omega), rfl⟩, trivial⟩ ⟨⟨rfl, rfl⟩, trivial⟩ rfl⟩
  · have hk2 : k = l.length := by have := dge hb; omega
    subst hk2
    conv => whnf
    refine leaf_i rfl rfl ?_
    rw [List.take_length, List.length_map]
    rfl
theorem m_ruleOf (r : XRule) (h : ∀ n ∈ ruleL r, -1000000 < n ∧ n < 1000000) (h0 : 0 ≤ r.Unit ∧ 0 ≤ r.Space ∧ 0 ≤ r.Lo ∧ 0 ≤ r.Hi ∧ 0 ≤ r.Port ∧ 0 ≤ r.To) :
    PureC Tryd.prog 39 [strsV (wordsT (ruleL r))] [r.v, boolv true] := by
  have c := m_numbersOf (ruleL r) h (fun k hk hn => by
    have h7 : (ruleL r).length = 7 := rfl
    rw [h7] at hk ⊢
    match k, hk with
    | 6, _ => rfl
    | 0, _ | 1, _ | 2, _ | 3, _ | 4, _ | 5, _ => exfalso; simp [ruleL] at hn; omega) (by show 7 ≤ 100; decide) true (fun e => by cases e) 7
  rw [show (((ruleL r).length : Int) == 7) = true from rfl] at c
  refine pureC_of (Γ := lookT tbl) (il := ilist) tg dr Tryd.func39 rfl (by kernel_rfl) rfl (Nat.le_of_ble_eq_true rfl) ?_
  conv => whnf
  refine call_i c ?_
  conv => whnf
  refine ⟨0, ⟨⟨rfl, by show 0 < 7; decide⟩, rfl⟩, ?_⟩
  conv => whnf
  refine ⟨_, ⟨rfl, rfl⟩, ?_⟩
  conv => whnf
  refine ⟨1, ⟨⟨rfl, by show 1 < 7; decide⟩, rfl⟩, ?_⟩
  conv => whnf
  refine ⟨_, ⟨rfl, rfl⟩, ?_⟩
  conv => whnf
  refine ⟨2, ⟨⟨rfl, by show 2 < 7; decide⟩, rfl⟩, ?_⟩
  conv => whnf
  refine ⟨_, ⟨rfl, rfl⟩, ?_⟩
  conv => whnf
  refine ⟨3, ⟨⟨rfl, by show 3 < 7; decide⟩, rfl⟩, ?_⟩
  conv => whnf
  refine ⟨_, ⟨rfl, rfl⟩, ?_⟩
  conv => whnf
  refine ⟨4, ⟨⟨rfl, by show 4 < 7; decide⟩, rfl⟩, ?_⟩
  conv => whnf
  refine ⟨_, ⟨rfl, rfl⟩, ?_⟩
  conv => whnf
  refine ⟨5, ⟨⟨rfl, by show 5 < 7; decide⟩, rfl⟩, ?_⟩
  conv => whnf
  refine ⟨_, ⟨rfl, rfl⟩, ?_⟩
  conv => whnf
  refine ⟨6, ⟨⟨rfl, by show 6 < 7; decide⟩, rfl⟩, ?_⟩
  conv => whnf
  refine ⟨_, ⟨rfl, rfl⟩, ?_⟩
  conv => whnf
  refine And.intro rfl ?_
  conv => whnf
  exact leaf_i rfl rfl rfl
/-! ### The lines of a text -/
/-- A line's words, joined. -/
def lineL (w : List UInt8) (l : List Int) : List UInt8 := w ++ numsT l
def wordB (w : List UInt8) (l : List Int) : List ByteArray := bs w :: wordsT l
theorem lineL_join (w : List UInt8) (l : List Int) : lineL w l = joinC 32 (w :: l.map Lib.itoa) := by
  simp [lineL, numsT, joinC, List.flatMap_map]
theorem m_split (w : List UInt8) (l : List Int) (hw : 32 ∉ w) (hl : (lineL w l).length < 4294967281) : PureC Tryd.prog 38 [strB (lineL w l), .one (.str ⟨#[32]⟩)] [strsV (wordB w l)] := by
  have h := lib_Split (lineL w l) [32] hl (by decide)
  rw [lineL_join] at h
  have e := split_all (c := 32) (l.map Lib.itoa) w (fun x hx => by
    rcases List.mem_cons.1 hx with rfl | hx
    · exact hw
    · obtain ⟨n, _, rfl⟩ := List.mem_map.1 hx
      exact itoa_no (.inr rfl))
  have e2 : Lib.splitB ⟨[(32 : UInt8)].toArray⟩ 0 (Lib.countB ⟨(joinC 32 (w :: l.map Lib.itoa)).toArray⟩ ⟨[(32 : UInt8)].toArray⟩) ⟨(joinC 32 (w :: l.map Lib.itoa)).toArray⟩ = wordB w l := by
    refine e.trans ?_
    simp [wordB, wordsT, bs]
  rw [e2] at h
  rw [lineL_join]
  exact h
def linesT (c : XConfig) : List (List UInt8) := lineL [119, 97, 105, 116] [c.Wait] :: lineL [116, 114, 105, 101, 115] [c.Tries] :: c.Rules.map fun r => lineL [114, 117, 108, 101] (ruleL r)
def restT (L : List (List UInt8)) (k : Nat) : List UInt8 := (L.drop k).flatMap fun x => x ++ [10]
theorem restT_succ {L : List (List UInt8)} {k : Nat} (hk : k < L.length) : restT L k = L[k] ++ 10 :: restT L (k + 1) := by
  unfold restT
  rw [List.drop_eq_getElem_cons hk, List.flatMap_cons]
  simp
theorem linesT_no {c : XConfig} {x : List UInt8} (h : x ∈ linesT c) : (10 : UInt8) ∉ x := by
  have key : ∀ (w : List UInt8) (l : List Int), (10 : UInt8) ∉ w → (10 : UInt8) ∉ lineL w l := by
    intro w l hw hm
    unfold lineL numsT at hm
    rcases List.mem_append.1 hm with hm | hm
    · exact hw hm
    · obtain ⟨n, _, hx⟩ := List.mem_flatMap.1 hm
      rcases List.mem_cons.1 hx with hx | hx
      · revert hx; decide
      · exact itoa_no (.inl rfl) hx
  unfold linesT at h
  simp only [List.mem_cons, List.mem_map] at h
  rcases h with rfl | rfl | ⟨r, _, rfl⟩ <;> exact key _ _ (by decide)
theorem text_lines (c : XConfig) : headT c ++ rulesT c.Rules = restT (linesT c) 0 := by
  unfold restT linesT
  rw [List.drop_zero, List.flatMap_cons, List.flatMap_cons, List.flatMap_map]
  have : rulesT c.Rules = c.Rules.flatMap fun r => lineL [114, 117, 108, 101] (ruleL r) ++ [10] := rfl
  rw [this]
  simp [headT, lineL, numsT]
/-- A text that is read line by line, up to line N. -/
structure Reads (L : List (List UInt8)) (tx : Nat → List UInt8) (N : Nat) : Prop where
  cut : ∀ k (hk : k < L.length), k < N → Lib.cut (tx k) [10] = (L[k], tx (k + 1), true)
  ne : ∀ k, k < N → tx k ≠ []
  len : ∀ k, k ≤ N → (tx k).length < 4294967281
theorem rules_nn {l : List XRule} (h : rulesB l = true) {k : Nat} (hk : k < l.length) : 0 ≤ l[k].Unit ∧ 0 ≤ l[k].Space ∧ 0 ≤ l[k].Lo ∧ 0 ≤ l[k].Hi ∧ 0 ≤ l[k].Port ∧ 0 ≤ l[k].To := by
  simp only [rulesB, Bool.and_eq_true] at h
  have h2 := List.all_eq_true.1 h.2 k (List.mem_range.2 hk)
  rw [ruleIn_at hk] at h2
  simp only [Bool.and_eq_true] at h2
  have h3 := h2.1
  simp only [ruleB, inB, Bool.and_eq_true, decide_eq_true_eq] at h3
  omega
theorem m_parse (c : XConfig) (hc : configB c = true) (tx : Nat → List UInt8) (N : Nat) (hR : Reads (linesT c) tx N) (hlen : ∀ x ∈ linesT c, x.length < 4294967281) (X : XConfig) (I : Int)
    (hN : (N = (linesT c).length ∧ tx N = [] ∧ X = c ∧ I = -1) ∨ (N + 1 = (linesT c).length ∧ (tx N ≠ [] ∧ ∃ a b, Lib.cut (tx N) [10] = (a, b, false)) ∧ X = XConfig.zero ∧ I = N)) :
    PureC Tryd.prog 7 [strB (tx 0)] [X.v, i64v I] := by
  have hC := m_ConfigOk c
  rw [hc] at hC
  have hB2 := hc
  simp only [configB, inB, Bool.and_eq_true, decide_eq_true_eq] at hB2
  obtain ⟨⟨⟨a1, a2⟩, a3, a4⟩, hRu⟩ := hB2
  obtain ⟨h24, hnum⟩ := rules_in hRu
  have hL : (linesT c).length = 2 + c.Rules.length := by simp [linesT]; omega
  refine pureC_of (Γ := lookT tbl) (il := ilist) tg dr Tryd.func7 rfl (by kernel_rfl) rfl (Nat.le_of_ble_eq_true rfl) ?_
  conv => whnf
  refine loop_i (fun k : Nat => ⟨envL [(0, .c (.pv (.str (bs (tx k))))), (2, .c (.ptr 0 0)), (3, .c (.pv (.int .i64 0))), (4, .c (.ptr 1 0)), (5, .c (.pv (.int .i64 k)))], resL [(0, .box [.pv (.int .i64 0), .pv (.int .i64 0), .nil 7]), (1, .box [.pv (.int .i64 (if k = 0 then 0 else c.Wait)), .pv (.int .i64 (if k ≤ 1 then 0 else c.Tries)), .row 2]), (2, .row true 7 ((c.Rules.take (k - 2)).map XRule.ps))], 3, 41⟩) (fun k => k ≤ N) (fun k => (linesT c).length - k) 0 (Nat.zero_le _) ?_ ?_
  · exact (le_rowE 4 2 rfl rfl rfl).trans (le_mk [(0, _), (1, _), (2, _)] rfl ⟨⟨rfl, rfl⟩, ⟨rfl, rfl⟩, ⟨rfl, rfl⟩, ⟨rfl, rfl⟩, ⟨rfl, rfl⟩, trivial⟩ ⟨⟨rfl, rfl⟩, ⟨rfl, rfl⟩, ⟨rfl, rfl⟩, trivial⟩ rfl)
  intro k hk
  have hcutk := lib_Cut (tx k) [10] (hR.len k hk)
  by_cases hkN : k < N
  · have hkL : k < (linesT c).length := by rcases hN with h | h <;> omega
    rw [hR.cut k hkL hkN] at hcutk
    dsimp only at hcutk
    have hne := hR.ne k hkN
    generalize hX : tx (k + 1) = tn at *
    conv => whnf
    refine br_i (fun hb => ?_) (fun hb => ?_)
    · conv => whnf
      match k, hk, hkN, hkL, hX, hne, hb, hcutk with
      | 0, hk, hkN, hkL, hX, hne, hb, hcutk =>
        obtain ⟨w, hw⟩ : ∃ w : List UInt8, w = [119, 97, 105, 116] := ⟨_, rfl⟩
        have hsp := m_split w [c.Wait] (by rw [hw]; decide) (hlen _ (by simp [linesT, hw]))
        rw [show (linesT c)[0] = lineL w [c.Wait] by rw [hw]; rfl] at hcutk
        have hnu := m_numbersOf [c.Wait] (by simp; omega) (fun k hk _ => by simp at hk; simp [hk]) (by simp) false (fun _ => by simp; omega) 1
        refine call_i hcutk ?_
        conv => whnf
        refine inl_of (Γ := lookT tbl) (il := ilist) tg dr Tryd.func22 rfl (by kernel_rfl) rfl (ts := [64, 3, 9]) (Nat.le_of_ble_eq_true rfl) ?_
        conv => whnf
        refine call_i hsp ?_
        conv => whnf
        refine ⟨0, ⟨⟨rfl, by decide⟩, rfl⟩, ?_⟩
        conv => whnf
        refine ⟨_, ⟨rfl, rfl⟩, ?_⟩
        conv => whnf
        refine ⟨0, ⟨⟨rfl, Nat.succ_pos _⟩, rfl⟩, ?_⟩
        conv => whnf
        refine ⟨_, ⟨rfl, rfl⟩, ?_⟩
        conv => whnf
        rw [show (!(bs w).toList == (⟨#[119, 97, 105, 116]⟩ : ByteArray).toList) = false by simp [bs, hw]]
        conv => whnf
        refine ⟨wordsT [c.Wait] |>.map strEl, ⟨⟨⟨by decide, by simp [wordB, wordsT]⟩, Int.le_refl _⟩, rfl, rfl⟩, Or.inl ?_⟩
        conv => whnf
        refine call_i hnu ?_
        conv => whnf
        refine ⟨0, ⟨⟨rfl, Nat.succ_pos _⟩, rfl⟩, ?_⟩
        conv => whnf
        refine ⟨_, ⟨rfl, rfl⟩, ?_⟩
        conv => whnf
        exact ⟨1, ⟨hkN, by show (linesT c).length - 1 < (linesT c).length - 0; omega⟩, le_mk [(0, _), (1, _), (2, _)] rfl ⟨⟨str_eq (congrArg bs hX.symm), rfl⟩, ⟨rfl, rfl⟩, ⟨rfl, rfl⟩, ⟨rfl, rfl⟩, ⟨rfl, rfl⟩, trivial⟩ ⟨⟨rfl, rfl⟩, ⟨rfl, rfl⟩, ⟨rfl, rfl⟩, trivial⟩ rfl⟩
      | 1, hk, hkN, hkL, hX, hne, hb, hcutk =>
        obtain ⟨w, hw⟩ : ∃ w : List UInt8, w = [116, 114, 105, 101, 115] := ⟨_, rfl⟩
        have hsp := m_split w [c.Tries] (by rw [hw]; decide) (hlen _ (by simp [linesT, hw]))
        rw [show (linesT c)[1] = lineL w [c.Tries] by rw [hw]; rfl] at hcutk
        have hnu := m_numbersOf [c.Tries] (by simp; omega) (fun k hk _ => by simp at hk; simp [hk]) (by simp) false (fun _ => by simp; omega) 1
        refine call_i hcutk ?_
        conv => whnf
        refine inl_of (Γ := lookT tbl) (il := ilist) tg dr Tryd.func22 rfl (by kernel_rfl) rfl (ts := [64, 3, 9]) (Nat.le_of_ble_eq_true rfl) ?_
        conv => whnf
        refine call_i hsp ?_
        conv => whnf
        refine ⟨1, ⟨⟨rfl, by decide⟩, rfl⟩, ?_⟩
        conv => whnf
        refine ⟨_, ⟨rfl, rfl⟩, ?_⟩
        conv => whnf
        refine ⟨0, ⟨⟨rfl, Nat.succ_pos _⟩, rfl⟩, ?_⟩
        conv => whnf
        refine ⟨_, ⟨rfl, rfl⟩, ?_⟩
        conv => whnf
        rw [show (!(bs w).toList == (⟨#[116, 114, 105, 101, 115]⟩ : ByteArray).toList) = false by simp [bs, hw]]
        conv => whnf
        refine ⟨wordsT [c.Tries] |>.map strEl, ⟨⟨⟨by decide, by simp [wordB, wordsT]⟩, Int.le_refl _⟩, rfl, rfl⟩, Or.inl ?_⟩
        conv => whnf
        refine call_i hnu ?_
        conv => whnf
        refine ⟨0, ⟨⟨rfl, Nat.succ_pos _⟩, rfl⟩, ?_⟩
        conv => whnf
        refine ⟨_, ⟨rfl, rfl⟩, ?_⟩
        conv => whnf
        exact ⟨2, ⟨hkN, by show (linesT c).length - 2 < (linesT c).length - 1; omega⟩, le_mk [(0, _), (1, _), (2, _)] rfl ⟨⟨str_eq (congrArg bs hX.symm), rfl⟩, ⟨rfl, rfl⟩, ⟨rfl, rfl⟩, ⟨rfl, rfl⟩, ⟨rfl, rfl⟩, trivial⟩ ⟨⟨rfl, rfl⟩, ⟨rfl, rfl⟩, ⟨rfl, rfl⟩, trivial⟩ rfl⟩
      | k + 2, hk, hkN, hkL, hX, hne, hb, hcutk =>
        have hkR : k < c.Rules.length := by omega
        obtain ⟨w, hw⟩ : ∃ w : List UInt8, w = [114, 117, 108, 101] := ⟨_, rfl⟩
        have hLk : (linesT c)[k + 2] = lineL w (ruleL c.Rules[k]) := by simp [linesT, hw]
        have hsp := m_split w (ruleL c.Rules[k]) (by rw [hw]; decide) (by rw [← hLk]; exact hlen _ (List.getElem_mem _))
        have hnk := hnum k hkR
        have hru := m_ruleOf c.Rules[k] (fun n hn => by have := hnk n hn; omega) (rules_nn hRu hkR)
        have tk : (c.Rules.take (k + 1)).map XRule.ps = (c.Rules.take k).map XRule.ps ++ [c.Rules[k].ps] := by rw [List.take_succ_eq_append_getElem hkR, List.map_append]; rfl
        have tl : ((c.Rules.take k).map XRule.ps).length = k := by rw [List.length_map, List.length_take]; omega
        rw [hLk] at hcutk
        clear hLk
        generalize c.Rules[k] = r at *
        refine call_i hcutk ?_
        conv => whnf
        refine inl_of (Γ := lookT tbl) (il := ilist) tg dr Tryd.func22 rfl (by kernel_rfl) rfl (ts := [64, 3, 9]) (Nat.le_of_ble_eq_true rfl) ?_
        conv => whnf
        refine call_i hsp ?_
        conv => whnf
        refine ⟨2, ⟨⟨by show (if (2 : Int) < ((k + 2 : Nat) : Int) then 2 else ((k + 2 : Nat) : Int)) = 2; split <;> omega, by decide⟩, rfl⟩, ?_⟩
        conv => whnf
        refine ⟨_, ⟨rfl, rfl⟩, ?_⟩
        conv => whnf
        refine ⟨0, ⟨⟨rfl, Nat.succ_pos _⟩, rfl⟩, ?_⟩
        conv => whnf
        refine ⟨_, ⟨rfl, rfl⟩, ?_⟩
        conv => whnf
        rw [show (!(bs w).toList == (⟨#[114, 117, 108, 101]⟩ : ByteArray).toList) = false by simp [bs, hw]]
        conv => whnf
        refine br_i (fun _ => ?_) (fun hf => ?_)
        rotate_left
        · exfalso
          have hf2 := of_decide_eq_false hf
          omega
        conv => whnf
        refine ⟨wordsT (ruleL r) |>.map strEl, ⟨⟨⟨by decide, by simp [wordB, wordsT, ruleL]⟩, Int.le_refl _⟩, rfl, rfl⟩, Or.inl ?_⟩
        conv => whnf
        refine call_i hru ?_
        conv => whnf
        refine ⟨⟨rfl, flat_rule [_]⟩, ?_⟩
        conv => whnf
        refine ⟨(c.Rules.take (k + 1)).map XRule.ps, ⟨by show (((c.Rules.take k).map XRule.ps).length + 1) * 56 ≤ 140737488355328; rw [tl]; omega, tk⟩, ?_⟩
        conv => whnf
        refine And.intro rfl ?_
        conv => whnf
        exact ⟨k + 3, ⟨hkN, by show (linesT c).length - (k + 3) < (linesT c).length - (k + 2); omega⟩, le_mk [(0, _), (1, _), (2, _)] rfl ⟨⟨str_eq (congrArg bs hX.symm), rfl⟩, ⟨rfl, rfl⟩, ⟨rfl, rfl⟩, ⟨rfl, rfl⟩, ⟨ctr (by omega), rfl⟩, trivial⟩ ⟨⟨rfl, rfl⟩, ⟨rfl, rfl⟩, ⟨rfl, rfl⟩, trivial⟩ rfl⟩
    · exfalso
      revert hb
      simp [bs, hne]
  · have hkN : k = N := by omega
    subst hkN
    rcases hN with ⟨e1, e2, e3, e4⟩ | ⟨e1, ⟨hne, a, b, hcut⟩, e3, e4⟩
    · subst e3 e4
      conv => whnf
      refine br_i (fun hb => ?_) (fun hb => ?_)
      · exfalso
        revert hb
        simp [bs, e2]
      · conv => whnf
        refine br_i (fun hb => ?_) (fun hb => ?_)
        · exfalso
          have := dlt hb
          omega
        · obtain ⟨j, rfl⟩ : ∃ j, k = j + 2 := ⟨k - 2, by omega⟩
          rw [show X.Rules.take (j + 2 - 2) = X.Rules by rw [show j + 2 - 2 = j by omega, List.take_of_length_le (by omega)]]
          conv => whnf
          refine Or.inl ?_
          conv => whnf
          refine call_i hC ?_
          conv => whnf
          exact leaf_i rfl rfl rfl
    · subst e3 e4
      rw [hcut] at hcutk
      dsimp only at hcutk
      conv => whnf
      refine br_i (fun hb => ?_) (fun hb => ?_)
      · conv => whnf
        refine call_i hcutk ?_
        conv => whnf
        exact leaf_i rfl rfl rfl
      · exfalso
        revert hb
        simp [bs, hne]

end Go.Proofs.YtfpcgomngnfdeaaDoor
