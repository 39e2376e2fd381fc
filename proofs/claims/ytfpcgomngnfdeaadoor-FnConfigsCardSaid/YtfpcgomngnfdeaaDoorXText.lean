/- Settings as a text: both packages' functions, and the law. -/
import Derived.Test.YtfpcgomngnfdeaaDoorXLayC
namespace Go.Proofs.YtfpcgomngnfdeaaDoor
open Go Go.Vi
set_option linter.unusedVariables false
set_option linter.unusedSimpArgs false
set_option maxRecDepth 100000
def configB (c : XConfig) : Bool := (inB c.Wait 1 100 && inB c.Tries 0 5) && rulesB c.Rules
theorem m_ConfigOk (c : XConfig) : PureC Tryd.prog 18 [c.v] [boolv (configB c)] := by
  refine pureC_of (Γ := lookT tbl) (il := ilist) tg dr Tryd.func18 rfl (by kernel_rfl) rfl (Nat.le_of_ble_eq_true rfl) ?_
  (repeat' ((conv => whnf); first | refine br_i (fun _ => ?_) (fun _ => ?_) | (refine cur_leaf rfl rfl rfl ?_ ?_; · first | assumption | omega | exact hw ‹_›) | refine leaf_i rfl rfl ?_ | refine And.intro rfl ?_ | refine call_i (m_wait _ _) ?_ | (refine Or.inl ?_; (conv => whnf); refine call_i (m_wait _ _) ?_) | refine call_i (m_RulesOk c.Rules) ?_ | (refine Or.inl ?_; (conv => whnf); refine call_i (m_RulesOk c.Rules) ?_) | (refine And.intro ?_ ?_; · decide)))
  all_goals (refine bool_leaf ?_; first | (simp_all [configB]; done) | (simp_all [configB]; omega))
theorem s_ConfigOk (c : XConfig) : PureC Tryd.prog 17 [c.v] [boolv (configB c)] := by
  refine pureC_of (Γ := lookT tbl) (il := ilist) tg dr Tryd.func17 rfl (by kernel_rfl) rfl (Nat.le_of_ble_eq_true rfl) ?_
  (repeat' ((conv => whnf); first | refine br_i (fun _ => ?_) (fun _ => ?_) | (refine cur_leaf rfl rfl rfl ?_ ?_; · first | assumption | omega | exact hw ‹_›) | refine leaf_i rfl rfl ?_ | refine And.intro rfl ?_ | refine call_i (s_in _ _ _) ?_ | (refine Or.inl ?_; (conv => whnf); refine call_i (s_in _ _ _) ?_) | refine call_i (s_RulesOk c.Rules) ?_ | (refine Or.inl ?_; (conv => whnf); refine call_i (s_RulesOk c.Rules) ?_) | (refine And.intro ?_ ?_; · decide)))
  all_goals (refine bool_leaf ?_; first | (simp_all [configB]; done) | (simp_all [configB]; omega))
def bs (l : List UInt8) : ByteArray := ⟨l.toArray⟩
theorem bs_app (a b : List UInt8) : bs a ++ bs b = bs (a ++ b) := by
  apply ByteArray.ext
  simp [bs]
theorem bs_size (a : List UInt8) : (bs a).size = a.length := by simp [bs, ByteArray.size]
theorem dec_len (u : Nat) (h : u < 18446744073709551616) : (Lib.decDigits u).length ≤ 20 := by rw [Lib.decDigits_length]; exact Lib.nDigits_le20 u h
theorem dec_small {u : Nat} (h : u < 10) : Lib.decDigits u = [UInt8.ofNat (48 + u)] := by rw [Lib.decDigits, dif_pos h]
theorem dec_big {u : Nat} (h : ¬ u < 10) : Lib.decDigits u = Lib.decDigits (u / 10) ++ [UInt8.ofNat (48 + u % 10)] := by rw [Lib.decDigits, dif_neg h]
theorem itoa_len (n : Int) (h0 : -9223372036854775808 ≤ n) (h1 : n ≤ 9223372036854775807) : (Lib.itoa n).length ≤ 21 := by
  unfold Lib.itoa
  split
  · rw [List.length_cons]; have := dec_len n.natAbs (by omega); omega
  · have := dec_len n.toNat (by omega); omega
theorem son_one (m : Nat) (h : m < 10) (x : Int) (hx : x = m) : strOfNums [IntKind.u8.wrap (IntKind.i64.wrap (48 + x))] = bs [UInt8.ofNat (48 + m)] := by
  subst hx
  rw [wrap_ok (by omega) (by omega)]
  match m, h with
  | 0, _ | 1, _ | 2, _ | 3, _ | 4, _ | 5, _ | 6, _ | 7, _ | 8, _ | 9, _ => decide
theorem s_textP : ∀ (k : Nat) (n : Int), n.toNat < k → 0 ≤ n → n ≤ 9223372036854775807 → PureC Tryd.prog 27 [i64v n] [.one (.str (bs (Lib.decDigits n.toNat)))] := by
  intro k
  induction k with
  | zero => intro n h; omega
  | succ k ih =>
  intro n hu h0 hm
  refine pureC_of (Γ := lookT tbl) (il := ilist) tg dr Tryd.func27 rfl (by kernel_rfl) rfl (Nat.le_of_ble_eq_true rfl) ?_
  conv => whnf
  refine br_i (fun h => ?_) (fun h => ?_)
  · exfalso; have := dlt h; omega
  conv => whnf
  refine br_i (fun h => ?_) (fun h => ?_)
  · have hs : n < 10 := dlt h
    conv => whnf
    refine ⟨[_], rfl, ?_⟩
    conv => whnf
    refine leaf_i rfl rfl ?_
    rw [son_one n.toNat (by omega) n (by omega), dec_small (by omega)]
  · have hs : 10 ≤ n := dge h
    have h1 := ih (n.tdiv 10) (by rw [Int.tdiv_eq_ediv_of_nonneg h0]; omega) (by rw [Int.tdiv_eq_ediv_of_nonneg h0]; omega) (by rw [Int.tdiv_eq_ediv_of_nonneg h0]; omega)
    conv => whnf
    have hw : IntKind.i64.wrap (n.tdiv 10) = n.tdiv 10 := wrap_ok (by rw [Int.tdiv_eq_ediv_of_nonneg h0]; omega) (by rw [Int.tdiv_eq_ediv_of_nonneg h0]; omega)
    have h2 : PureC Tryd.prog 27 [i64v (IntKind.i64.wrap (n.tdiv 10))] [.one (.str (bs (Lib.decDigits (n.tdiv 10).toNat)))] := by rw [hw]; exact h1
    have hd : (n.tdiv 10).toNat = n.toNat / 10 := by rw [Int.tdiv_eq_ediv_of_nonneg h0]; omega
    have hm10 : (n.tmod 10).toNat = n.toNat % 10 := by rw [Int.tmod_eq_emod_of_nonneg h0]; omega
    have e1 := son_one (n.tmod 10).toNat (by rw [hm10]; omega) (n.tmod 10) (by rw [Int.tmod_eq_emod_of_nonneg h0]; omega)
    refine And.intro (by decide) ?_
    conv => whnf
    refine call_i h2 ?_
    conv => whnf
    refine And.intro (by decide) ?_
    conv => whnf
    refine ⟨[_], rfl, ?_⟩
    conv => whnf
    refine And.intro ?_ ?_
    rotate_left
    conv => whnf
    refine And.intro rfl ?_
    conv => whnf
    refine leaf_i rfl rfl ?_
    · rw [e1, hd, hm10, bs_app, ← dec_big (by omega)]
    · rw [e1, bs_size, bs_size]; have := dec_len (n.tdiv 10).toNat (by rw [hd]; omega); simp only [List.length_cons, List.length_nil]; omega
theorem s_text (n : Int) (h0 : -9223372036854775807 ≤ n) (h1 : n ≤ 9223372036854775807) : PureC Tryd.prog 27 [i64v n] [.one (.str (bs (Lib.itoa n)))] := by
  by_cases hn : 0 ≤ n
  · have := s_textP (n.toNat + 1) n (by omega) hn h1
    rwa [show Lib.itoa n = Lib.decDigits n.toNat by unfold Lib.itoa; rw [if_neg (by omega)]]
  · have h2 := s_textP ((-n).toNat + 1) (-n) (by omega) (by omega) (by omega)
    have hw : IntKind.i64.wrap (0 - n) = -n := (wrap_ok (by omega) (by omega)).trans (by omega)
    have h3 : PureC Tryd.prog 27 [i64v (IntKind.i64.wrap (0 - n))] [.one (.str (bs (Lib.decDigits (-n).toNat)))] := by rw [hw]; exact h2
    have hl := dec_len (-n).toNat (by omega)
    refine pureC_of (Γ := lookT tbl) (il := ilist) tg dr Tryd.func27 rfl (by kernel_rfl) rfl (Nat.le_of_ble_eq_true rfl) ?_
    conv => whnf
    refine br_i (fun h => ?_) (fun h => ?_)
    · conv => whnf
      refine call_i h3 ?_
      conv => whnf
      refine And.intro (by show (bs [45]).size + (bs _).size ≤ _; rw [bs_size, bs_size]; simp only [List.length_cons, List.length_nil]; omega) ?_
      conv => whnf
      refine leaf_i rfl rfl ?_
      rw [show Lib.itoa n = [45] ++ Lib.decDigits (-n).toNat by unfold Lib.itoa; rw [if_pos (by omega), show (-n).toNat = n.natAbs by omega]; rfl, ← bs_app]
      rfl
    · exfalso; have := dge h; omega
def ruleL (r : XRule) : List Int := [r.Unit, r.Space, r.Lo, r.Hi, r.Port, r.To, r.Shift]
def numsT (l : List Int) : List UInt8 := l.flatMap fun n => 32 :: Lib.itoa n
def ruleT (r : XRule) : List UInt8 := [114, 117, 108, 101] ++ numsT (ruleL r) ++ [10]
def headT (c : XConfig) : List UInt8 := [119, 97, 105, 116, 32] ++ Lib.itoa c.Wait ++ [10, 116, 114, 105, 101, 115, 32] ++ Lib.itoa c.Tries ++ [10]
def rulesT (l : List XRule) : List UInt8 := l.flatMap ruleT
theorem str_eq {a b : ByteArray} (h : a = b) : AV.c (.pv (.str a)) = AV.c (.pv (.str b)) := by rw [h]
theorem rules_in {l : List XRule} (h : rulesB l = true) : l.length ≤ 24 ∧ ∀ k (hk : k < l.length), ∀ n ∈ ruleL l[k], -65535 ≤ n ∧ n ≤ 65535 := by
  simp only [rulesB, Bool.and_eq_true] at h
  refine ⟨by have := of_decide_eq_true h.1; omega, fun k hk n hn => ?_⟩
  have h2 := List.all_eq_true.1 h.2 k (List.mem_range.2 hk)
  rw [ruleIn_at hk] at h2
  simp only [Bool.and_eq_true] at h2
  have h3 := h2.1
  simp only [ruleB, inB, Bool.and_eq_true, decide_eq_true_eq] at h3
  unfold ruleL at hn
  simp only [List.mem_cons, List.not_mem_nil, or_false] at hn
  rcases hn with rfl | rfl | rfl | rfl | rfl | rfl | rfl <;> omega
theorem numsT_succ (l : List Int) (j : Nat) (hj : j < l.length) : numsT (l.take (j + 1)) = numsT (l.take j) ++ (32 :: Lib.itoa l[j]) := by
  unfold numsT
  rw [List.take_succ_eq_append_getElem hj, List.flatMap_append]
  simp
theorem rulesT_succ (l : List XRule) (k : Nat) (hk : k < l.length) : rulesT (l.take (k + 1)) = rulesT (l.take k) ++ ruleT l[k] := by
  unfold rulesT
  rw [List.take_succ_eq_append_getElem hk, List.flatMap_append]
  simp
theorem numsT_len {l : List Int} (h : ∀ n ∈ l, -65535 ≤ n ∧ n ≤ 65535) : (numsT l).length ≤ 22 * l.length := by
  induction l with
  | nil => simp [numsT]
  | cons a l ih =>
    have h1 := itoa_len a (by have := h a (by simp); omega) (by have := h a (by simp); omega)
    have h2 := ih (fun n hn => h n (by simp [hn]))
    unfold numsT at h2 ⊢
    rw [List.flatMap_cons, List.length_append, List.length_cons, List.length_cons]
    omega
def textOf (c : XConfig) : ByteArray := if configB c then bs (headT c ++ rulesT c.Rules) else ByteArray.empty
theorem head0 {c : XConfig} : ((((⟨#[119, 97, 105, 116, 32]⟩ : ByteArray) ++ numT c.Wait) ++ ⟨#[10, 116, 114, 105, 101, 115, 32]⟩) ++ numT c.Tries) ++ ⟨#[10]⟩ = bs (headT c ++ rulesT (c.Rules.take 0)) := by
  show (((bs [119, 97, 105, 116, 32] ++ bs _) ++ bs [10, 116, 114, 105, 101, 115, 32]) ++ bs _) ++ bs [10] = _
  rw [bs_app, bs_app, bs_app, bs_app]
  simp [headT, rulesT]
theorem m_ConfigText (c : XConfig) : PureC Tryd.prog 14 [c.v] [.one (.str (textOf c))] := by
  refine pureC_of (Γ := lookT tbl) (il := ilist) tg dr Tryd.func14 rfl (by kernel_rfl) rfl (Nat.le_of_ble_eq_true rfl) ?_
  have hC := m_ConfigOk c
  cases hB : configB c with
  | false =>
    rw [hB] at hC
    (repeat' ((conv => whnf); first | refine br_i (fun _ => ?_) (fun _ => ?_) | (refine cur_leaf rfl rfl rfl ?_ ?_; · first | assumption | omega | exact hw ‹_›) | refine leaf_i rfl rfl ?_ | refine And.intro rfl ?_ | refine call_i (hC) ?_ | (refine Or.inl ?_; (conv => whnf); refine call_i (hC) ?_) | (refine And.intro ?_ ?_; · decide)))
    rw [show textOf c = ByteArray.empty by simp [textOf, hB]]
    rfl
  | true =>
  rw [hB] at hC
  have hB2 := hB
  simp only [configB, inB, Bool.and_eq_true, decide_eq_true_eq] at hB2
  obtain ⟨⟨⟨a1, a2⟩, a3, a4⟩, hR⟩ := hB2
  obtain ⟨h24, hnum⟩ := rules_in hR
  have l1 := itoa_len c.Wait (by omega) (by omega)
  have l2 := itoa_len c.Tries (by omega) (by omega)
  have i1 := lib_itoa c.Wait (by omega) (by omega)
  have i2 := lib_itoa c.Tries (by omega) (by omega)
  have hh : (headT c).length ≤ 100 := by unfold headT; simp; omega
  conv => whnf
  refine call_i hC ?_
  conv => whnf
  refine call_i i1 ?_
  conv => whnf
  refine And.intro (by (try simp only [ByteArray.size_append]); simp only [ByteArray.size, numT, bs, List.size_toArray, List.length_cons, List.length_nil, List.length_append, headT] at *; omega) ?_
  conv => whnf
  refine And.intro (by (try simp only [ByteArray.size_append]); simp only [ByteArray.size, numT, bs, List.size_toArray, List.length_cons, List.length_nil, List.length_append, headT] at *; omega) ?_
  conv => whnf
  refine call_i i2 ?_
  conv => whnf
  refine And.intro (by (try simp only [ByteArray.size_append]); simp only [ByteArray.size, numT, bs, List.size_toArray, List.length_cons, List.length_nil, List.length_append, headT] at *; omega) ?_
  conv => whnf
  refine And.intro (by (try simp only [ByteArray.size_append]); simp only [ByteArray.size, numT, bs, List.size_toArray, List.length_cons, List.length_nil, List.length_append, headT] at *; omega) ?_
  conv => whnf
  refine And.intro rfl ?_
  conv => whnf
  refine loop_i (fun k : Nat => ⟨envL [(1, .c (.ptr 0 0)), (3, .c (.pv (.str (bs (headT c ++ rulesT (c.Rules.take k)))))), (22, .c (.pv (XRule.sP c.Rules))), (23, .c (.pv (.int .i64 c.Rules.length))), (24, .c (.pv (.int .i64 k)))], resL [(0, .box (c.ps.map .pv))], 1, 60⟩) (fun k => k ≤ c.Rules.length ∧ (rulesT (c.Rules.take k)).length ≤ 200 * k) (fun k => c.Rules.length - k) 0 ⟨Nat.zero_le _, Nat.le_refl _⟩ (le_mk [(0, _)] rfl ⟨⟨rfl, rfl⟩, ⟨str_eq head0, rfl⟩, ⟨rfl, rfl⟩, ⟨i64_eq (by rw [List.length_map]), rfl⟩, ⟨rfl, rfl⟩, trivial⟩ ⟨⟨rfl, rfl⟩, trivial⟩ rfl) ?_
  intro k ⟨hk, hkl⟩
  conv => whnf
  refine br_i (fun h => ?_) (fun h => ?_)
  · have hlt : k < c.Rules.length := by simpa using h
    have ix := idx_map c.Rules XRule.ps k hlt 7
    have hn := hnum k hlt
    have hsu := rulesT_succ c.Rules k hlt
    have hnl := numsT_len hn
    generalize c.Rules[k] = r at *
    have hl7 : (ruleL r).length = 7 := rfl
    generalize hT : rulesT (c.Rules.take k) = T at *
    conv => whnf
    refine ⟨_, ix, ?_⟩
    conv => whnf
    refine And.intro (by (try simp only [ByteArray.size_append]); simp only [ByteArray.size, numT, bs, List.size_toArray, List.length_cons, List.length_nil, List.length_append, headT] at *; omega) ?_
    conv => whnf
    refine loop_i (fun j : Nat => ⟨envL [(1, .c (.ptr 0 0)), (3, .c (.pv (.str (bs (headT c ++ T ++ [114, 117, 108, 101] ++ numsT ((ruleL r).take j)))))), (22, .c (.pv (XRule.sP c.Rules))), (23, .c (.pv (.int .i64 c.Rules.length))), (24, .c (.pv (.int .i64 k))), (44, .c (.row 1)), (45, .c (.pv (.int .i64 7))), (46, .c (.pv (.int .i64 j)))], resL [(0, .box (c.ps.map .pv)), (1, .row true 1 ((ruleL r).map intEl))], 2, 60⟩) (fun j => j ≤ 7 ∧ (numsT ((ruleL r).take j)).length ≤ 22 * j) (fun j => 7 - j) 0 ⟨Nat.zero_le _, Nat.le_refl _⟩ (le_mk [(0, _), (1, _)] rfl ⟨⟨rfl, rfl⟩, ⟨str_eq (by show bs _ ++ bs [114, 117, 108, 101] = _; rw [bs_app]; simp [numsT]), rfl⟩, ⟨rfl, rfl⟩, ⟨rfl, rfl⟩, ⟨rfl, rfl⟩, ⟨rfl, rfl⟩, ⟨rfl, rfl⟩, ⟨rfl, rfl⟩, trivial⟩ ⟨⟨rfl, rfl⟩, ⟨rfl, rfl⟩, trivial⟩ rfl) ?_
    intro j ⟨hj, hjl⟩
    conv => whnf
    refine br_i (fun h => ?_) (fun h => ?_)
    · have hjt : j < (ruleL r).length := by rw [hl7]; have := dlt h; omega
      have hb := hn _ (List.getElem_mem hjt)
      have hel : ((ruleL r).map intEl)[j]? = some (intEl (ruleL r)[j]) := by rw [List.getElem?_map, List.getElem?_eq_getElem hjt]; rfl
      have hns := numsT_succ (ruleL r) j hjt
      have hil := itoa_len (ruleL r)[j] (by omega) (by omega)
      have hc := lib_itoa (ruleL r)[j] (by omega) (by omega)
      generalize (ruleL r)[j] = n at *
      generalize hN : numsT ((ruleL r).take j) = N at *
      conv => whnf
      refine ⟨j, ⟨⟨rfl, by rw [List.length_map]; exact hjt⟩, rfl⟩, ?_⟩
      conv => whnf
      refine ⟨_, ⟨rfl, hel⟩, ?_⟩
      conv => whnf
      refine call_i hc ?_
      conv => whnf
      refine And.intro (by (try simp only [ByteArray.size_append]); simp only [ByteArray.size, numT, bs, List.size_toArray, List.length_cons, List.length_nil, List.length_append, headT] at *; omega) ?_
      conv => whnf
      refine And.intro (by (try simp only [ByteArray.size_append]); simp only [ByteArray.size, numT, bs, List.size_toArray, List.length_cons, List.length_nil, List.length_append, headT] at *; omega) ?_
      conv => whnf
      exact ⟨j + 1, ⟨⟨by omega, by rw [hns, List.length_append, List.length_cons]; omega⟩, by omega⟩, le_mk [(0, _), (1, _)] rfl ⟨⟨rfl, rfl⟩, ⟨str_eq (by rw [hns]; show bs _ ++ (bs [32] ++ bs _) = _; rw [bs_app, bs_app]; simp), rfl⟩, ⟨rfl, rfl⟩, ⟨rfl, rfl⟩, ⟨rfl, rfl⟩, ⟨rfl, rfl⟩, ⟨rfl, rfl⟩, ⟨ctr (by omega), rfl⟩, trivial⟩ ⟨⟨rfl, rfl⟩, ⟨rfl, rfl⟩, trivial⟩ rfl⟩
    · have hj7 : j = 7 := by have := dge h; omega
      subst hj7
      rw [show (ruleL r).take 7 = ruleL r from rfl] at *
      conv => whnf
      refine And.intro (by (try simp only [ByteArray.size_append]); simp only [ByteArray.size, numT, bs, List.size_toArray, List.length_cons, List.length_nil, List.length_append, headT] at *; omega) ?_
      conv => whnf
      exact ⟨k + 1, ⟨⟨hlt, by rw [hsu]; unfold ruleT; rw [List.length_append, List.length_append, List.length_append]; simp only [List.length_cons, List.length_nil]; omega⟩, by omega⟩, le_mk [(0, _)] rfl ⟨⟨rfl, rfl⟩, ⟨str_eq (by rw [hsu]; show bs _ ++ bs [10] = _; rw [bs_app]; simp [ruleT]), rfl⟩, ⟨rfl, rfl⟩, ⟨rfl, rfl⟩, ⟨ctr (by omega), rfl⟩, trivial⟩ ⟨⟨rfl, rfl⟩, trivial⟩ rfl⟩
  · have hk2 : k = c.Rules.length := by have := dge h; omega
    subst hk2
    conv => whnf
    refine leaf_i rfl rfl ?_
    rw [List.take_length, show textOf c = bs (headT c ++ rulesT c.Rules) by simp [textOf, hB]]
theorem s_ConfigText (c : XConfig) : PureC Tryd.prog 12 [c.v] [.one (.str (textOf c))] := by
  refine pureC_of (Γ := lookT tbl) (il := ilist) tg dr Tryd.func12 rfl (by kernel_rfl) rfl (Nat.le_of_ble_eq_true rfl) ?_
  have hC := s_ConfigOk c
  cases hB : configB c with
  | false =>
    rw [hB] at hC
    (repeat' ((conv => whnf); first | refine br_i (fun _ => ?_) (fun _ => ?_) | (refine cur_leaf rfl rfl rfl ?_ ?_; · first | assumption | omega | exact hw ‹_›) | refine leaf_i rfl rfl ?_ | refine And.intro rfl ?_ | refine call_i (hC) ?_ | (refine Or.inl ?_; (conv => whnf); refine call_i (hC) ?_) | (refine And.intro ?_ ?_; · decide)))
    rw [show textOf c = ByteArray.empty by simp [textOf, hB]]
    rfl
  | true =>
  rw [hB] at hC
  have hB2 := hB
  simp only [configB, inB, Bool.and_eq_true, decide_eq_true_eq] at hB2
  obtain ⟨⟨⟨a1, a2⟩, a3, a4⟩, hR⟩ := hB2
  obtain ⟨h24, hnum⟩ := rules_in hR
  have l1 := itoa_len c.Wait (by omega) (by omega)
  have l2 := itoa_len c.Tries (by omega) (by omega)
  have i1 := s_text c.Wait (by omega) (by omega)
  have i2 := s_text c.Tries (by omega) (by omega)
  have hh : (headT c).length ≤ 100 := by unfold headT; simp; omega
  conv => whnf
  refine call_i hC ?_
  conv => whnf
  refine call_i i1 ?_
  conv => whnf
  refine And.intro (by (try simp only [ByteArray.size_append]); simp only [ByteArray.size, numT, bs, List.size_toArray, List.length_cons, List.length_nil, List.length_append, headT] at *; omega) ?_
  conv => whnf
  refine And.intro (by (try simp only [ByteArray.size_append]); simp only [ByteArray.size, numT, bs, List.size_toArray, List.length_cons, List.length_nil, List.length_append, headT] at *; omega) ?_
  conv => whnf
  refine call_i i2 ?_
  conv => whnf
  refine And.intro (by (try simp only [ByteArray.size_append]); simp only [ByteArray.size, numT, bs, List.size_toArray, List.length_cons, List.length_nil, List.length_append, headT] at *; omega) ?_
  conv => whnf
  refine And.intro (by (try simp only [ByteArray.size_append]); simp only [ByteArray.size, numT, bs, List.size_toArray, List.length_cons, List.length_nil, List.length_append, headT] at *; omega) ?_
  conv => whnf
  refine And.intro rfl ?_
  conv => whnf
  refine loop_i (fun k : Nat => ⟨envL [(1, .c (.ptr 0 0)), (3, .c (.pv (.str (bs (headT c ++ rulesT (c.Rules.take k)))))), (4, .c (.pv (.int .i64 k)))], resL [(0, .box (c.ps.map .pv))], 1, 65⟩) (fun k => k ≤ c.Rules.length ∧ (rulesT (c.Rules.take k)).length ≤ 200 * k) (fun k => c.Rules.length - k) 0 ⟨Nat.zero_le _, Nat.le_refl _⟩ (le_mk [(0, _)] rfl ⟨⟨rfl, rfl⟩, ⟨str_eq head0, rfl⟩, ⟨rfl, rfl⟩, trivial⟩ ⟨⟨rfl, rfl⟩, trivial⟩ rfl) ?_
  intro k ⟨hk, hkl⟩
  conv => whnf
  refine br_i (fun h => ?_) (fun h => ?_)
  · have hlt : k < c.Rules.length := by simpa using h
    have ix := idx_map c.Rules XRule.ps k hlt 7
    have hn := hnum k hlt
    have hsu := rulesT_succ c.Rules k hlt
    have hnl := numsT_len hn
    generalize c.Rules[k] = r at *
    have hl7 : (ruleL r).length = 7 := rfl
    generalize hT : rulesT (c.Rules.take k) = T at *
    conv => whnf
    refine ⟨_, ix, ?_⟩
    conv => whnf
    refine And.intro (by (try simp only [ByteArray.size_append]); simp only [ByteArray.size, numT, bs, List.size_toArray, List.length_cons, List.length_nil, List.length_append, headT] at *; omega) ?_
    conv => whnf
    refine loop_i (fun j : Nat => ⟨envL [(1, .c (.ptr 0 0)), (3, .c (.pv (.str (bs (headT c ++ T ++ [114, 117, 108, 101] ++ numsT ((ruleL r).take j)))))), (4, .c (.pv (.int .i64 k))), (6, .c (.row 1)), (7, .c (.pv (.int .i64 j)))], resL [(0, .box (c.ps.map .pv)), (1, .row true 1 ((ruleL r).map intEl))], 2, 65⟩) (fun j => j ≤ 7 ∧ (numsT ((ruleL r).take j)).length ≤ 22 * j) (fun j => 7 - j) 0 ⟨Nat.zero_le _, Nat.le_refl _⟩ (le_mk [(0, _), (1, _)] rfl ⟨⟨rfl, rfl⟩, ⟨str_eq (by show bs _ ++ bs [114, 117, 108, 101] = _; rw [bs_app]; simp [numsT]), rfl⟩, ⟨rfl, rfl⟩, ⟨rfl, rfl⟩, ⟨rfl, rfl⟩, trivial⟩ ⟨⟨rfl, rfl⟩, ⟨rfl, rfl⟩, trivial⟩ rfl) ?_
    intro j ⟨hj, hjl⟩
    conv => whnf
    refine br_i (fun h => ?_) (fun h => ?_)
    · have hjt : j < (ruleL r).length := by rw [hl7]; have := dlt h; omega
      have hb := hn _ (List.getElem_mem hjt)
      have hel : ((ruleL r).map intEl)[j]? = some (intEl (ruleL r)[j]) := by rw [List.getElem?_map, List.getElem?_eq_getElem hjt]; rfl
      have hns := numsT_succ (ruleL r) j hjt
      have hil := itoa_len (ruleL r)[j] (by omega) (by omega)
      have hc := s_text (ruleL r)[j] (by omega) (by omega)
      generalize (ruleL r)[j] = n at *
      generalize hN : numsT ((ruleL r).take j) = N at *
      conv => whnf
      refine And.intro (by (try simp only [ByteArray.size_append]); simp only [ByteArray.size, numT, bs, List.size_toArray, List.length_cons, List.length_nil, List.length_append, headT] at *; omega) ?_
      conv => whnf
      refine ⟨j, ⟨⟨rfl, by rw [List.length_map]; exact hjt⟩, rfl⟩, ?_⟩
      conv => whnf
      refine ⟨_, ⟨rfl, hel⟩, ?_⟩
      conv => whnf
      refine call_i hc ?_
      conv => whnf
      refine And.intro (by (try simp only [ByteArray.size_append]); simp only [ByteArray.size, numT, bs, List.size_toArray, List.length_cons, List.length_nil, List.length_append, headT] at *; omega) ?_
      conv => whnf
      exact ⟨j + 1, ⟨⟨by omega, by rw [hns, List.length_append, List.length_cons]; omega⟩, by omega⟩, le_mk [(0, _), (1, _)] rfl ⟨⟨rfl, rfl⟩, ⟨str_eq (by rw [hns]; show (bs _ ++ bs [32]) ++ bs _ = _; rw [bs_app, bs_app]; simp), rfl⟩, ⟨rfl, rfl⟩, ⟨rfl, rfl⟩, ⟨ctr (by omega), rfl⟩, trivial⟩ ⟨⟨rfl, rfl⟩, ⟨rfl, rfl⟩, trivial⟩ rfl⟩
    · have hj7 : j = 7 := by have := dge h; omega
      subst hj7
      rw [show (ruleL r).take 7 = ruleL r from rfl] at *
      conv => whnf
      refine And.intro (by (try simp only [ByteArray.size_append]); simp only [ByteArray.size, numT, bs, List.size_toArray, List.length_cons, List.length_nil, List.length_append, headT] at *; omega) ?_
      conv => whnf
      exact ⟨k + 1, ⟨⟨hlt, by rw [hsu]; unfold ruleT; rw [List.length_append, List.length_append, List.length_append]; simp only [List.length_cons, List.length_nil]; omega⟩, by omega⟩, le_mk [(0, _)] rfl ⟨⟨rfl, rfl⟩, ⟨str_eq (by rw [hsu]; show bs _ ++ bs [10] = _; rw [bs_app]; simp [ruleT]), rfl⟩, ⟨ctr (by omega), rfl⟩, trivial⟩ ⟨⟨rfl, rfl⟩, trivial⟩ rfl⟩
  · have hk2 : k = c.Rules.length := by have := dge h; rw [List.length_map] at this; omega
    subst hk2
    conv => whnf
    refine leaf_i rfl rfl ?_
    rw [List.take_length, show textOf c = bs (headT c ++ rulesT c.Rules) by simp [textOf, hB]]
theorem law_FnExactConfigText (x : XConfig) (_ : x.Ok) : PureC Tryd.prog 4 [x.v] [boolv true] := by
  refine pureC_of (Γ := lookT tbl) (il := ilist) tg dr Tryd.func4 rfl (by kernel_rfl) rfl (Nat.le_of_ble_eq_true rfl) ?_
  conv => whnf
  refine call_i (szConfig x 1048576 (by decide) (by decide)) ?_
  conv => whnf
  refine br_i (fun h => ?_) (fun h => ?_) <;> conv => whnf
  · exact leaf_i rfl rfl rfl
  have ht : x.tot ≤ 1048576 := by have := sub_nn (dge h); omega
  have he : PureC Tryd.prog 8 [x.v, x.v] [boolv true] := by simpa using eqConfig x x
  (repeat' ((conv => whnf); first | refine br_i (fun _ => ?_) (fun _ => ?_) | (refine cur_leaf rfl rfl rfl ?_ ?_; · first | assumption | omega | exact hw ‹_›) | refine leaf_i rfl rfl ?_ | refine And.intro rfl ?_ | refine call_i (toConfig x ht) ?_ | (refine Or.inl ?_; (conv => whnf); refine call_i (toConfig x ht) ?_) | refine call_i (s_ConfigText x) ?_ | (refine Or.inl ?_; (conv => whnf); refine call_i (s_ConfigText x) ?_) | refine call_i (m_ConfigText x) ?_ | (refine Or.inl ?_; (conv => whnf); refine call_i (m_ConfigText x) ?_) | refine call_i (he) ?_ | (refine Or.inl ?_; (conv => whnf); refine call_i (he) ?_) | (refine And.intro ?_ ?_; · decide)))
  all_goals first | rfl | (rename_i h; simp at h)

end Go.Proofs.YtfpcgomngnfdeaaDoor
