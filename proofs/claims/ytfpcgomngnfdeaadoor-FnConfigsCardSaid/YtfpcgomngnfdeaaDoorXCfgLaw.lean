/- What is drawn of settings comes back of their text. -/
import Derived.Test.YtfpcgomngnfdeaaDoorXDrawCfg
namespace Go.Proofs.YtfpcgomngnfdeaaDoor
open Go Go.Vi
set_option linter.unusedVariables false
set_option linter.unusedSimpArgs false
set_option maxRecDepth 100000
theorem rulesT_len {l : List XRule} (h : ∀ r ∈ l, ∀ n ∈ ruleL r, -65535 ≤ n ∧ n ≤ 65535) : (rulesT l).length ≤ 200 * l.length := by
  induction l with
  | nil => simp [rulesT]
  | cons r l ih =>
    have h1 := numsT_len (h r (by simp))
    have h2 := ih (fun r hr => h r (by simp [hr]))
    unfold rulesT at h2 ⊢
    rw [List.flatMap_cons, List.length_append, List.length_cons]
    have h7 : (ruleL r).length = 7 := rfl
    have : (ruleT r).length ≤ 200 := by
      unfold ruleT
      simp only [List.length_append, List.length_cons, List.length_nil]
      omega
    omega
theorem text_len {c : XConfig} (hc : configB c = true) : (restT (linesT c) 0).length ≤ 5000 := by
  rw [← text_lines]
  have hB2 := hc
  simp only [configB, inB, Bool.and_eq_true, decide_eq_true_eq] at hB2
  obtain ⟨⟨⟨a1, a2⟩, a3, a4⟩, hRu⟩ := hB2
  obtain ⟨h24, hnum⟩ := rules_in hRu
  have l1 := itoa_len c.Wait (by omega) (by omega)
  have l2 := itoa_len c.Tries (by omega) (by omega)
  have hh : (headT c).length ≤ 100 := by unfold headT; simp; omega
  have hr : (rulesT c.Rules).length ≤ 200 * c.Rules.length := rulesT_len fun r hr n hn => by
    obtain ⟨k, hk, rfl⟩ := List.getElem_of_mem hr
    exact hnum k hk n hn
  rw [List.length_append]
  omega
theorem restT_le (L : List (List UInt8)) (k : Nat) : (restT L k).length ≤ (restT L 0).length := by
  have : restT L 0 = (L.take k).flatMap (fun x => x ++ [10]) ++ restT L k := by
    unfold restT
    rw [← List.flatMap_append, List.take_append_drop, List.drop_zero]
  rw [this, List.length_append]
  omega
theorem line_le {L : List (List UInt8)} {k : Nat} (hk : k < L.length) : L[k].length ≤ (restT L 0).length := by
  have h1 := restT_le L k
  rw [restT_succ hk, List.length_append] at h1
  omega
theorem restT_end (L : List (List UInt8)) : restT L L.length = [] := by simp [restT]
theorem reads_all {c : XConfig} (hc : configB c = true) : Reads (linesT c) (restT (linesT c)) (linesT c).length := by
  have h5 := text_len hc
  refine ⟨fun k hk _ => ?_, fun k hk => ?_, fun k hk => ?_⟩
  · rw [restT_succ hk]
    exact cut_at (linesT_no (List.getElem_mem hk))
  · rw [restT_succ hk]
    simp
  · have := restT_le (linesT c) k
    omega
theorem dropLast_app {a b : List UInt8} (h : b ≠ []) : (a ++ 10 :: b).dropLast = a ++ 10 :: b.dropLast := by
  rw [List.dropLast_append_of_ne_nil (by simp)]
  cases b with
  | nil => exact absurd rfl h
  | cons x b => rfl
theorem restT_ne {L : List (List UInt8)} {k : Nat} (hk : k < L.length) : restT L k ≠ [] := by rw [restT_succ hk]; simp
theorem reads_cut {c : XConfig} (hc : configB c = true) : Reads (linesT c) (fun k => (restT (linesT c) k).dropLast) ((linesT c).length - 1) := by
  have h5 := text_len hc
  refine ⟨fun k hk hk2 => ?_, fun k hk => ?_, fun k hk => ?_⟩
  · show Lib.cut (restT (linesT c) k).dropLast [10] = _
    rw [restT_succ hk, dropLast_app (restT_ne (by omega))]
    exact cut_at (linesT_no (List.getElem_mem hk))
  · show (restT (linesT c) k).dropLast ≠ []
    rw [restT_succ (by omega), dropLast_app (restT_ne (by omega))]
    simp
  · show (restT (linesT c) k).dropLast.length < _
    have := restT_le (linesT c) k
    rw [List.length_dropLast]
    omega
theorem line_ne {c : XConfig} {x : List UInt8} (h : x ∈ linesT c) : x ≠ [] := by
  unfold linesT at h
  simp only [List.mem_cons, List.mem_map] at h
  rcases h with rfl | rfl | ⟨r, _, rfl⟩ <;> simp [lineL]
theorem hlen_all {c : XConfig} (hc : configB c = true) : ∀ x ∈ linesT c, x.length < 4294967281 := by
  intro x hx
  obtain ⟨k, hk, rfl⟩ := List.getElem_of_mem hx
  have := line_le hk
  have := text_len hc
  omega
theorem linesT_len (c : XConfig) : (linesT c).length = c.Rules.length + 2 := by simp [linesT]
theorem m_parse1 {c : XConfig} (hc : configB c = true) : PureC Tryd.prog 7 [strB (restT (linesT c) 0)] [c.v, i64v (-1)] :=
  m_parse c hc (restT (linesT c)) _ (reads_all hc) (hlen_all hc) c (-1) (.inl ⟨rfl, restT_end _, rfl, rfl⟩)
theorem m_parse2 {c : XConfig} (hc : configB c = true) : PureC Tryd.prog 7 [strB (restT (linesT c) 0).dropLast] [XConfig.zero.v, i64v ((c.Rules.length : Int) + 1)] := by
  have hl := linesT_len c
  have h := m_parse c hc (fun k => (restT (linesT c) k).dropLast) _ (reads_cut hc) (hlen_all hc) XConfig.zero ((c.Rules.length : Int) + 1)
  refine h (.inr ⟨by omega, ?_, rfl, by omega⟩)
  have hk : (linesT c).length - 1 < (linesT c).length := by omega
  have e : (restT (linesT c) ((linesT c).length - 1)).dropLast = (linesT c)[(linesT c).length - 1] := by
    rw [restT_succ hk, show (linesT c).length - 1 + 1 = (linesT c).length by omega, restT_end, List.dropLast_concat]
  show (restT (linesT c) ((linesT c).length - 1)).dropLast ≠ [] ∧ ∃ a b, Lib.cut (restT (linesT c) ((linesT c).length - 1)).dropLast [10] = (a, b, false)
  rw [e]
  exact ⟨line_ne (List.getElem_mem hk), _, _, cut_none (linesT_no (List.getElem_mem hk))⟩
theorem eqRule7 : eqSB Tryd.prog 42 7 = true := by kernel_rfl
theorem law_FnConfigs (code : List Int) (hw : ∀ q0, q0 ∈ code → (Lit.int .u8 q0).wf = true) : PureC Tryd.prog 5 [bytesV code] [boolv true] := by
  refine pureC_of (Γ := lookT tbl) (il := ilist) tg dr Tryd.func5 rfl (by kernel_rfl) rfl (Nat.le_of_ble_eq_true rfl) ?_
  conv => whnf
  refine call_i (l_big code) ?_
  conv => whnf
  refine br_i (fun h => ?_) (fun h => ?_)
  · conv => whnf
    exact leaf_i rfl rfl rfl
  have hlc : code.length ≤ 1048576 := by simp [bigB] at h; omega
  conv => whnf
  refine inl_nd (Γ := lookT tbl) [37] ?_
  conv => whnf
  refine nd_i (d_ConfigText code hlc) ?_
  rintro _ ⟨c, rfl⟩
  have hT := m_ConfigText c
  have hS := s_ConfigOk c
  have hM := m_ConfigOk c
  cases hB : configB c with
  | false =>
    rw [hB] at hS hM
    obtain ⟨T, hT2⟩ : ∃ T, T = textOf c := ⟨_, rfl⟩
    rw [← hT2] at hT
    have hT3 : T = ByteArray.empty := by rw [hT2]; simp [textOf, hB]
    conv => whnf
    refine Or.inl ?_
    conv => whnf
    refine call_i hT ?_
    conv => whnf
    refine Or.inl ?_
    conv => whnf
    refine call_i hS ?_
    conv => whnf
    refine br_i (fun h => ?_) (fun h => ?_)
    · conv => whnf
      refine Or.inl ?_
      conv => whnf
      refine call_i hM ?_
      conv => whnf
      exact leaf_i rfl rfl rfl
    · exfalso
      revert h
      rw [hT3]
      simp
  | true =>
    rw [hB] at hS hM
    have h5 := text_len hB
    have hp1 := m_parse1 hB
    have hp2 := m_parse2 hB
    have ht : textOf c = bs (restT (linesT c) 0) := by rw [← text_lines]; simp [textOf, hB]
    rw [ht] at hT
    have hne := restT_ne (L := linesT c) (k := 0) (by rw [linesT_len]; omega)
    have hpos := List.length_pos_iff.2 hne
    have hd : (bs (restT (linesT c) 0)).extract 0 ((bs (restT (linesT c) 0)).size - 1) = bs (restT (linesT c) 0).dropLast := by
      rw [bs_size]
      apply ByteArray.ext
      simp [bs, List.dropLast_eq_take]
    unfold strB at hp1 hp2
    rw [← hd] at hp2
    have hs := bs_size (restT (linesT c) 0)
    generalize restT (linesT c) 0 = tx at *
    generalize bs tx = T at *
    have hw1 : IntKind.i64.wrap ((T.size : Int) - 1) = ((T.size - 1 : Nat) : Int) := by rw [wrap_ok (by omega) (by omega)]; omega
    conv => whnf
    refine Or.inl ?_
    conv => whnf
    refine call_i hT ?_
    conv => whnf
    refine Or.inl ?_
    conv => whnf
    refine call_i hS ?_
    conv => whnf
    refine call_i hp1 ?_
    conv => whnf
    rw [hw1]
    refine And.intro (by omega) ?_
    conv => whnf
    refine call_i hp2 ?_
    conv => whnf
    refine Or.inl ?_
    conv => whnf
    refine call_i hT ?_
    conv => whnf
    rw [show (!(T.toList == T.toList)) = false by simp]
    conv => whnf
    have hl9 : (c.Rules.map XRule.ps).length = c.Rules.length := List.length_map ..
    have hlc2 : c.Rules.length ≤ 24 := by
      have hB2 := hB
      simp only [configB, Bool.and_eq_true] at hB2
      exact (rules_in hB2.2).1
    rw [hl9, wrap_ok (x := (c.Rules.length : Int) + 1) (by omega) (by omega)]
    refine br_i (fun h => absurd h (by simp)) (fun _ => ?_)
    conv => whnf
    refine br_i (fun h => absurd h (by simp)) (fun _ => ?_)
    conv => whnf
    refine loop_i (fun k : Nat => ⟨envL [(3, .c (.ptr 0 0)), (5, .c (.ptr 1 0)), (9, .c (.pv (.int .i64 k)))], resL [(0, .box [.pv (.int .i64 c.Wait), .pv (.int .i64 c.Tries), .row 2]), (1, .box [.pv (.int .i64 c.Wait), .pv (.int .i64 c.Tries), .row 3]), (2, .row true 7 (c.Rules.map XRule.ps)), (3, .row true 7 (c.Rules.map XRule.ps))], 4, 95⟩) (fun k => k ≤ c.Rules.length) (fun k => c.Rules.length - k) 0 (Nat.zero_le _) (le_mk [(0, _), (1, _), (2, _), (3, _)] rfl ⟨⟨rfl, rfl⟩, ⟨rfl, rfl⟩, ⟨rfl, rfl⟩, trivial⟩ ⟨⟨rfl, rfl⟩, ⟨rfl, rfl⟩, ⟨rfl, rfl⟩, ⟨rfl, rfl⟩, trivial⟩ rfl) ?_
    intro k hk
    conv => whnf
    refine br_i (fun h => ?_) (fun h => ?_)
    · have hlt : k < c.Rules.length := by simpa using h
      have hgt : (c.Rules.map XRule.ps)[k]? = some (XRule.ps c.Rules[k]) := by rw [List.getElem?_map, List.getElem?_eq_getElem hlt]; rfl
      generalize c.Rules[k] = r at *
      conv => whnf
      refine ⟨k, ⟨⟨rfl, by rw [hl9]; exact hlt⟩, rfl⟩, ?_⟩
      conv => whnf
      refine ⟨_, ⟨rfl, hgt⟩, ?_⟩
      conv => whnf
      refine ⟨k, ⟨⟨rfl, by rw [hl9]; exact hlt⟩, rfl⟩, ?_⟩
      conv => whnf
      refine ⟨_, ⟨rfl, hgt⟩, ?_⟩
      conv => whnf
      refine And.intro eqRule7 ?_
      conv => whnf
      refine And.intro rfl ?_
      conv => whnf
      refine br_i (fun h => ?_) (fun _ => ?_)
      · exfalso
        simp at h
      conv => whnf
      exact ⟨k + 1, ⟨hlt, by omega⟩, le_mk [(0, _), (1, _), (2, _), (3, _)] rfl ⟨⟨rfl, rfl⟩, ⟨rfl, rfl⟩, ⟨ctr (by omega), rfl⟩, trivial⟩ ⟨⟨rfl, rfl⟩, ⟨rfl, rfl⟩, ⟨rfl, rfl⟩, ⟨rfl, rfl⟩, trivial⟩ rfl⟩
    · conv => whnf
      refine br_i (fun _ => ?_) (fun h => absurd h (by simp))
      conv => whnf
      refine leaf_i rfl rfl ?_
      simp
      rfl

end Go.Proofs.YtfpcgomngnfdeaaDoor
