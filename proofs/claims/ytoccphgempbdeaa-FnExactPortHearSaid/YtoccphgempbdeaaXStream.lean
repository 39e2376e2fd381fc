/- StreamHear: both packages' functions, and the law. -/
import Derived.Test.YtoccphgempbdeaaXConcat
namespace Go.Proofs.Ytoccphgempbdeaa
open Go Go.Vi
set_option linter.unusedVariables false
set_option linter.unusedSimpArgs false
set_option maxRecDepth 100000
def boxOf (l : List Int) : XBox := ⟨(nextMbap l).num, (nextMbap l).unit, (nextMbap l).pdu⟩
def hearGo : Nat → List Int → List XBox × List Int × Int
  | 0, l => ([], l, (nextMbap l).code)
  | f + 1, l => if (nextMbap l).code = 1 then (boxOf l :: (hearGo f (l.drop (nextMbap l).n.toNat)).1, (hearGo f (l.drop (nextMbap l).n.toNat)).2) else ([], l, (nextMbap l).code)
theorem nm_code (l : List Int) (h : (nextMbap l).code = 1) : 8 ≤ (nextMbap l).n ∧ (nextMbap l).n ≤ l.length ∧ ((nextMbap l).pdu.length : Int) = (nextMbap l).n - 7 := by
  cases hb : nmBad l with
  | true => rw [nm_bad hb] at h; cases h
  | false =>
    cases hw : nmWait l with
    | true => rw [nm_wait hb hw] at h; cases h
    | false =>
      obtain ⟨f1, f2, f3, f4⟩ := nm_fact hb hw
      rw [nm_good hb hw]
      simp only [f3]
      exact ⟨by omega, by omega, cutL_len _ _ _ (by omega)⟩
theorem hear_step {f : Nat} {l : List Int} (hf : l.length < f) (h : (nextMbap l).code = 1) : hearGo f l = (boxOf l :: (hearGo (f - 1) (l.drop (nextMbap l).n.toNat)).1, (hearGo (f - 1) (l.drop (nextMbap l).n.toNat)).2) := by
  cases f with
  | zero => omega
  | succ f => simp [hearGo, h]
theorem hear_stop {f : Nat} {l : List Int} (h : (nextMbap l).code ≠ 1) : hearGo f l = ([], l, (nextMbap l).code) := by
  cases f <;> simp [hearGo, h]
def bxm (x : XBox) : Nat := 2 + x.Pdu.length
theorem hear_size : ∀ (f : Nat) (l : List Int), sumF bxm (hearGo f l).1 + (hearGo f l).2.1.length ≤ l.length
  | 0, l => by simp [hearGo, sumF]
  | f + 1, l => by
    by_cases h : (nextMbap l).code = 1
    · have ih := hear_size f (l.drop (nextMbap l).n.toNat)
      obtain ⟨h1, h2, h3⟩ := nm_code l h
      rw [show hearGo (f + 1) l = (boxOf l :: (hearGo f (l.drop (nextMbap l).n.toNat)).1, (hearGo f (l.drop (nextMbap l).n.toNat)).2) by simp [hearGo, h]]
      simp only [List.length_drop] at ih
      simp [sumF, bxm, boxOf]
      omega
    · rw [hear_stop h]; simp [sumF]
theorem boxes_le (l : List XBox) : 2 * l.length ≤ sumF bxm l := by
  induction l with
  | nil => simp
  | cons a l ih => simp [sumF, bxm]; omega
def streamOk (s : XStream) : Bool := decide ((s.Buf.length : Int) ≤ 600) && (!s.Shut || decide ((s.Buf.length : Int) = 0))
def streamHear (s : XStream) (b : List Int) : XStream × List XBox :=
  if !streamOk s || s.Shut then (s, []) else
  (if (hearGo ((s.Buf ++ b).length + 1) (s.Buf ++ b)).2.2 = 2 ∨ ((hearGo ((s.Buf ++ b).length + 1) (s.Buf ++ b)).2.1.length : Int) > 600 then ⟨[], true⟩ else ⟨(hearGo ((s.Buf ++ b).length + 1) (s.Buf ++ b)).2.1, false⟩, (hearGo ((s.Buf ++ b).length + 1) (s.Buf ++ b)).1)
theorem s_StreamOk (s : XStream) : PureC Try.prog 67 [s.v] [boolv (streamOk s)] := by
  refine pureC_of (Γ := lookT tbl) (il := ilist) tg dr Try.func67 rfl (by kernel_rfl) rfl (Nat.le_of_ble_eq_true rfl) ?_
  (repeat' ((conv => whnf); first | refine br_i (fun _ => ?_) (fun _ => ?_) | (refine cur_leaf rfl rfl rfl ?_ ?_; · first | assumption | omega | exact hw ‹_›) | refine leaf_i rfl rfl ?_ | refine And.intro rfl ?_ | (refine And.intro ?_ ?_; · decide)))
  all_goals (refine bool_leaf ?_; first | (simp_all [streamOk]; done) | (simp_all [streamOk]; omega))
theorem m_StreamOk (s : XStream) : PureC Try.prog 79 [s.v] [boolv (streamOk s)] := by
  refine pureC_of (Γ := lookT tbl) (il := ilist) tg dr Try.func79 rfl (by kernel_rfl) rfl (Nat.le_of_ble_eq_true rfl) ?_
  (repeat' ((conv => whnf); first | refine br_i (fun _ => ?_) (fun _ => ?_) | (refine cur_leaf rfl rfl rfl ?_ ?_; · first | assumption | omega | exact hw ‹_›) | refine leaf_i rfl rfl ?_ | refine And.intro rfl ?_ | (refine And.intro ?_ ?_; · decide)))
  all_goals (refine bool_leaf ?_; first | (simp_all [streamOk]; done) | (simp_all [streamOk]; omega))
theorem s_StreamHear (s : XStream) (b : List Int) (h1 : s.Buf.length ≤ 1048576) (h2 : b.length ≤ 1048576) : PureC Try.prog 48 [s.v, bytesV b] [(streamHear s b).1.v, XBox.sV (streamHear s b).2] := by
  refine pureC_of (Γ := lookT tbl) (il := ilist) tg dr Try.func48 rfl (by kernel_rfl) rfl (Nat.le_of_ble_eq_true rfl) ?_
  have e1 : (0 + (s.Buf.map byteEl).length) * 1 ≤ 140737488355328 := by rw [List.length_map]; omega
  have stop : (!streamOk s || s.Shut) = true → [(streamHear s b).1.v, XBox.sV (streamHear s b).2] = [s.v, XBox.sV []] := by intro h; simp [streamHear, h]
  (repeat' ((conv => whnf); first | refine br_i (fun _ => ?_) (fun _ => ?_) | (refine cur_leaf rfl rfl rfl ?_ ?_; · first | assumption | omega | exact hw ‹_›) | refine leaf_i rfl rfl ?_ | refine And.intro rfl ?_ | refine call_i (s_StreamOk s) ?_ | (refine Or.inl ?_; (conv => whnf); refine call_i (s_StreamOk s) ?_) | (refine ⟨⟨rfl, flat_byte _⟩, ?_⟩) | (refine ⟨s.Buf.map byteEl, ⟨e1, rfl⟩, ?_⟩) | (refine And.intro ?_ ?_; · decide)))
  · rw [stop (by simp_all)]; rfl
  · rw [stop (by simp_all)]; rfl
  rename_i ha hb
  have hns : (!streamOk s || s.Shut) = false := by simp_all
  conv => whnf
  have ez : ∀ l m : List Int, l.length ≤ 1048576 → m.length ≤ 1048576 → ((l.map byteEl).length + (m.map byteEl).length) * 1 ≤ 140737488355328 := by intro l m h h'; rw [List.length_map, List.length_map]; omega
  refine ⟨(s.Buf ++ b).map byteEl, ⟨ez _ _ h1 h2, by rw [List.map_append]⟩, ?_⟩
  conv => whnf
  generalize hall : s.Buf ++ b = all at *
  have hlen : all.length ≤ 2097152 := by rw [← hall, List.length_append]; omega
  generalize hR : hearGo (all.length + 1) all = R at *
  refine loop_i (fun x : Nat × List XBox × Nat => ⟨envL [(4, .c (.ptr 0 0)), (6, .c (.row 1)), (7, .c (.row 2)), (8, .c (.pv (.int .i64 x.1)))], resL [(0, .box [.nil 1, .pv (.bool false)]), (1, .row true 3 (x.2.1.map XBox.ps)), (2, .ro 1 (all.map byteEl))], 3, 77⟩)
    (fun x => x.1 ≤ all.length ∧ all.length - x.1 < x.2.2 ∧ x.2.1 ++ (hearGo x.2.2 (all.drop x.1)).1 = R.1 ∧ (hearGo x.2.2 (all.drop x.1)).2 = R.2) (fun x => all.length - x.1) (0, [], all.length + 1) ⟨Nat.zero_le _, by simp, by simp [hR], by simp [hR]⟩
    ((le_roE 7 rfl rfl).trans (le_mk [(0, _), (1, _), (2, _)] rfl ⟨⟨rfl, rfl⟩, ⟨rfl, rfl⟩, ⟨rfl, rfl⟩, ⟨rfl, rfl⟩, trivial⟩ ⟨⟨rfl, rfl⟩, ⟨rfl, rfl⟩, ⟨rfl, rfl⟩, trivial⟩ rfl)) ?_
  intro ⟨p, acc, f⟩ ⟨hp, hpf, hb1, hb2⟩
  dsimp only at hp hpf hb1 hb2 ⊢
  have hRs := hear_size (all.length + 1) all
  rw [hR] at hRs
  have hRl := boxes_le R.1
  have hacc : acc.length ≤ R.1.length := by rw [← hb1, List.length_append]; omega
  conv => whnf
  refine ⟨_, cut_e byteEl 1 all p hp, ?_⟩
  conv => whnf
  refine call_i (s_NextMbap (all.drop p)) ?_
  conv => whnf
  refine br_i (fun h => ?_) (fun h => ?_)
  · have hc : (nextMbap (all.drop p)).code ≠ 1 := by simpa using h
    rw [hear_stop hc] at hb1 hb2
    have e3 : (0 + ((all.drop p).map byteEl).length) * 1 ≤ 140737488355328 := by rw [List.length_map, List.length_drop]; omega
    have hsub : IntKind.i64.wrap (((all.map byteEl).length : Int) - p) = ((all.drop p).length : Nat) := by rw [List.length_map, List.length_drop]; exact (wrap_ok (by omega) (by omega)).trans (by omega)
    have hdone : [(streamHear s b).1.v, XBox.sV (streamHear s b).2] = [XStream.v (if (nextMbap (all.drop p)).code = 2 ∨ ((all.drop p).length : Int) > 600 then ⟨[], true⟩ else ⟨all.drop p, false⟩), XBox.sV acc] := by
      unfold streamHear
      rw [hns, hall, hR, ← hb1, ← hb2]
      simp
    rw [hdone]
    (repeat' ((conv => whnf); first | refine br_i (fun _ => ?_) (fun _ => ?_) | (refine cur_leaf rfl rfl rfl ?_ ?_; · first | assumption | omega | exact hw ‹_›) | refine leaf_i rfl rfl ?_ | refine And.intro rfl ?_ | (refine ⟨⟨rfl, flat_byte _⟩, ?_⟩) | (refine ⟨_, cut_e byteEl 1 all p hp, ?_⟩) | (refine ⟨(all.drop p).map byteEl, ⟨e3, rfl⟩, ?_⟩) | (refine And.intro ?_ ?_; · decide)))
    · rename_i h2; rw [if_pos (.inl (by simpa using h2))]; rfl
    · rename_i h2 h3; rw [hsub] at h3; rw [if_pos (.inr (by simpa using h3))]; rfl
    · rename_i h2 h3; rw [hsub] at h3; rw [if_neg (by simp at h2 h3 ⊢; omega)]; rfl
  · have hc : (nextMbap (all.drop p)).code = 1 := by simpa using h
    obtain ⟨n1, n2, n3⟩ := nm_code _ hc
    rw [hear_step (by rw [List.length_drop]; exact hpf) hc, List.drop_drop] at hb1 hb2
    rw [List.length_drop] at n2
    have hw : IntKind.i64.wrap ((p : Int) + (nextMbap (all.drop p)).n) = ((p + (nextMbap (all.drop p)).n.toNat : Nat) : Int) := (wrap_ok (by omega) (by omega)).trans (by omega)
    conv => whnf
    refine ⟨rfl, ?_⟩
    conv => whnf
    refine ⟨(acc ++ [boxOf (all.drop p)]).map XBox.ps, ⟨by show ((acc.map XBox.ps).length + 1) * 40 ≤ 140737488355328; rw [List.length_map]; omega, by rw [List.map_append]; rfl⟩, ?_⟩
    conv => whnf
    exact ⟨(p + (nextMbap (all.drop p)).n.toNat, acc ++ [boxOf (all.drop p)], f - 1), ⟨⟨by show _ ≤ _; omega, by show _ < f - 1; omega, by rw [← hb1]; simp, hb2⟩, by show _ < _; omega⟩, le_mk [(0, _), (1, _), (2, _)] rfl ⟨⟨rfl, rfl⟩, ⟨rfl, rfl⟩, ⟨rfl, rfl⟩, ⟨i64_eq hw, rfl⟩, trivial⟩ ⟨⟨rfl, rfl⟩, ⟨rfl, rfl⟩, ⟨rfl, rfl⟩, trivial⟩ rfl⟩
theorem m_StreamHear (s : XStream) (b : List Int) (h1 : s.Buf.length ≤ 1048576) (h2 : b.length ≤ 1048576) : PureC Try.prog 54 [s.v, bytesV b] [(streamHear s b).1.v, XBox.sV (streamHear s b).2] := by
  refine pureC_of (Γ := lookT tbl) (il := ilist) tg dr Try.func54 rfl (by kernel_rfl) rfl (Nat.le_of_ble_eq_true rfl) ?_
  have stop : (!streamOk s || s.Shut) = true → [(streamHear s b).1.v, XBox.sV (streamHear s b).2] = [s.v, XBox.sV []] := by intro h; simp [streamHear, h]
  have hcat : PureC Try.prog 81 [.one (.sl 1 [[bytesP s.Buf], [bytesP b]])] [bytesV (s.Buf ++ b)] := by
    have := m_Concat [s.Buf, b] (by simp; omega) (by simp)
    simpa [bytesElC] using this
  (repeat' ((conv => whnf); first | refine br_i (fun _ => ?_) (fun _ => ?_) | (refine cur_leaf rfl rfl rfl ?_ ?_; · first | assumption | omega | exact hw ‹_›) | refine leaf_i rfl rfl ?_ | refine And.intro rfl ?_ | refine call_i (m_StreamOk s) ?_ | (refine Or.inl ?_; (conv => whnf); refine call_i (m_StreamOk s) ?_) | refine call_i (m_Clone s.Buf (by omega)) ?_ | (refine Or.inl ?_; (conv => whnf); refine call_i (m_Clone s.Buf (by omega)) ?_) | refine call_i (hcat) ?_ | (refine Or.inl ?_; (conv => whnf); refine call_i (hcat) ?_) | (refine And.intro ?_ ?_; · decide)))
  · rw [stop (by simp_all)]; rfl
  · rw [stop (by simp_all)]; rfl
  rename_i ha hb
  have hns : (!streamOk s || s.Shut) = false := by simp_all
  conv => whnf
  generalize hall : s.Buf ++ b = all at *
  have hlen : all.length ≤ 2097152 := by rw [← hall, List.length_append]; omega
  generalize hR : hearGo (all.length + 1) all = R at *
  refine loop_i (fun x : List Int × List XBox × Nat => ⟨envL [(4, .c (.ptr 0 0)), (6, .c (.pv (bytesP x.1))), (7, .c (.row 1))], resL [(0, .box [.nil 1, .pv (.bool false)]), (1, .row true 3 (x.2.1.map XBox.ps))], 2, 65⟩)
    (fun x => x.1.length ≤ all.length ∧ x.1.length < x.2.2 ∧ x.2.1 ++ (hearGo x.2.2 x.1).1 = R.1 ∧ (hearGo x.2.2 x.1).2 = R.2) (fun x => x.1.length) (all, [], all.length + 1) ⟨Nat.le_refl _, by simp, by simp [hR], by simp [hR]⟩
    ((le_roE 6 rfl rfl).trans ((le_pv 6 rfl rfl).trans (le_mk [(0, _), (1, _)] rfl ⟨⟨rfl, rfl⟩, ⟨rfl, rfl⟩, ⟨rfl, rfl⟩, trivial⟩ ⟨⟨rfl, rfl⟩, ⟨rfl, rfl⟩, trivial⟩ rfl))) ?_
  intro ⟨l, acc, f⟩ ⟨hp, hpf, hb1, hb2⟩
  dsimp only at hp hpf hb1 hb2 ⊢
  have hRs := hear_size (all.length + 1) all
  rw [hR] at hRs
  have hRl := boxes_le R.1
  have hacc : acc.length ≤ R.1.length := by rw [← hb1, List.length_append]; omega
  conv => whnf
  refine call_i (m_NextMbap l) ?_
  conv => whnf
  refine br_i (fun h => ?_) (fun h => ?_)
  · have hc : (nextMbap l).code = 1 := by simpa using h
    obtain ⟨n1, n2, n3⟩ := nm_code _ hc
    rw [hear_step hpf hc] at hb1 hb2
    conv => whnf
    refine ⟨rfl, ?_⟩
    conv => whnf
    refine ⟨(acc ++ [boxOf l]).map XBox.ps, ⟨by show ((acc.map XBox.ps).length + 1) * 40 ≤ 140737488355328; rw [List.length_map]; omega, by rw [List.map_append]; rfl⟩, ?_⟩
    conv => whnf
    refine ⟨_, cut_i byteEl 1 l (nextMbap l).n (by omega), ?_⟩
    conv => whnf
    exact ⟨(l.drop (nextMbap l).n.toNat, acc ++ [boxOf l], f - 1), ⟨⟨by show (l.drop _).length ≤ _; rw [List.length_drop]; omega, by show (l.drop _).length < f - 1; rw [List.length_drop]; omega, by rw [← hb1]; simp, hb2⟩, by show (l.drop _).length < _; rw [List.length_drop]; omega⟩, le_mk [(0, _), (1, _)] rfl ⟨⟨rfl, rfl⟩, ⟨rfl, rfl⟩, ⟨rfl, rfl⟩, trivial⟩ ⟨⟨rfl, rfl⟩, ⟨rfl, rfl⟩, trivial⟩ rfl⟩
  · have hc : (nextMbap l).code ≠ 1 := by simpa using h
    rw [hear_stop hc] at hb1 hb2
    have hdone : [(streamHear s b).1.v, XBox.sV (streamHear s b).2] = [XStream.v (if (nextMbap l).code = 2 ∨ (l.length : Int) > 600 then ⟨[], true⟩ else ⟨l, false⟩), XBox.sV acc] := by
      unfold streamHear
      rw [hns, hall, hR, ← hb1, ← hb2]
      simp
    rw [hdone]
    (repeat' ((conv => whnf); first | refine br_i (fun _ => ?_) (fun _ => ?_) | (refine cur_leaf rfl rfl rfl ?_ ?_; · first | assumption | omega | exact hw ‹_›) | refine leaf_i rfl rfl ?_ | refine And.intro rfl ?_ | refine call_i (m_Clone l (by omega)) ?_ | (refine Or.inl ?_; (conv => whnf); refine call_i (m_Clone l (by omega)) ?_) | (refine And.intro ?_ ?_; · decide)))
    · rename_i h2; rw [if_pos (.inl (by simpa using h2))]; rfl
    · rename_i h2 h3; rw [if_pos (.inr (by simpa using h3))]; rfl
    · rename_i h2 h3; rw [if_neg (by simp at h2 h3 ⊢; omega)]; rfl
end Go.Proofs.Ytoccphgempbdeaa
