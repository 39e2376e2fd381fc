/- What is drawn: settings. -/
import Derived.Test.YtfpcgomngnfdeaaDoorXCfg
namespace Go.Proofs.YtfpcgomngnfdeaaDoor
open Go Go.Vi
set_option linter.unusedVariables false
set_option linter.unusedSimpArgs false
set_option maxRecDepth 100000
def bigB (code : List Int) : Bool := decide ((code.length : Int) > 1048576)
theorem l_big (code : List Int) : PureC Tryd.prog 15 [bytesV code] [boolv (bigB code)] := by
  refine pureC_of (Γ := lookT tbl) (il := ilist) tg dr Tryd.func15 rfl (by kernel_rfl) rfl (Nat.le_of_ble_eq_true rfl) ?_
  (repeat' ((conv => whnf); first | refine br_i (fun _ => ?_) (fun _ => ?_) | (refine cur_leaf rfl rfl rfl ?_ ?_; · first | assumption | omega | exact hw ‹_›) | refine leaf_i rfl rfl ?_ | refine And.intro rfl ?_ | (refine And.intro ?_ ?_; · decide)))
  all_goals (refine bool_leaf ?_; first | (simp_all [bigB]; done) | (simp_all [bigB]; omega))
theorem d_11Draw (code : List Int) (hl : code.length ≤ 9223372036854775807) : CurC Tryd.prog 44 1 (code.map byteEl) [] (fun rs => ∃ c : XConfig, rs = [c.v] ∧ c.Rules.length ≤ 200) := by
  refine curC_of (Γ := lookT tbl) (il := ilist) tg dr Tryd.func44 rfl (by kernel_rfl) rfl (Nat.le_of_ble_eq_true rfl) ?_
  intro i h hi
  have hR := d_Rules code hl
  have hO := d_One code hl
  have hN := d_Once code hl
  have hB := d_Below code hl
  generalize code.map byteEl = L at *
  conv => whnf
  refine inl_cur (Γ := lookT tbl) [] ?_
  conv => whnf
  refine cur_i (hR) hi ?_
  rintro _ i h ⟨l, rfl, hl1⟩ hi
  conv => whnf
  refine inl_cur (Γ := lookT tbl) [3] ?_
  conv => whnf
  refine cur_i (hN 2 (by decide)) hi ?_
  rintro _ i h ⟨x, rfl⟩ hi
  conv => whnf
  refine br_i (fun hb => ?_) (fun hb => ?_)
  focus
    conv => whnf
    refine inl_cur (Γ := lookT tbl) [] ?_
    conv => whnf
    refine cur_i (hO) hi ?_
    rintro _ i h ⟨l, rfl, hl1⟩ hi
    conv => whnf
    refine br_i (fun hb => ?_) (fun hb => ?_)
    focus
      have hb : 24 < l.length := by simp at hb; omega
      conv => whnf
      refine ⟨(l.take 24).map XRule.ps, cut_to XRule.ps 7 l 24 24 rfl (by omega), Or.inr ?_⟩
      have hl1 : (l.take 24).length ≤ 200 := by rw [List.length_take]; omega
      generalize l.take 24 = l at *
      conv => whnf
      refine inl_cur (Γ := lookT tbl) [3] ?_
      conv => whnf
      refine cur_i (hB 4 (by decide)) hi ?_
      rintro _ i h ⟨a, rfl, _, _⟩ hi
      conv => whnf
      refine inl_cur (Γ := lookT tbl) [3] ?_
      conv => whnf
      refine cur_i (hB 3 (by decide)) hi ?_
      rintro _ i h ⟨b, rfl, _, _⟩ hi
      conv => whnf
      refine cur_leaf rfl rfl rfl hi ?_
      exact ⟨⟨_, _, l⟩, rfl, hl1⟩
    conv => whnf
    refine inl_cur (Γ := lookT tbl) [3] ?_
    conv => whnf
    refine cur_i (hB 4 (by decide)) hi ?_
    rintro _ i h ⟨a, rfl, _, _⟩ hi
    conv => whnf
    refine inl_cur (Γ := lookT tbl) [3] ?_
    conv => whnf
    refine cur_i (hB 3 (by decide)) hi ?_
    rintro _ i h ⟨b, rfl, _, _⟩ hi
    conv => whnf
    refine cur_leaf rfl rfl rfl hi ?_
    exact ⟨⟨_, _, l⟩, rfl, hl1⟩
  conv => whnf
  refine br_i (fun hb => ?_) (fun hb => ?_)
  focus
    have hb : 24 < l.length := by simp at hb; omega
    conv => whnf
    refine ⟨(l.take 24).map XRule.ps, cut_to XRule.ps 7 l 24 24 rfl (by omega), Or.inr ?_⟩
    have hl1 : (l.take 24).length ≤ 200 := by rw [List.length_take]; omega
    generalize l.take 24 = l at *
    conv => whnf
    refine inl_cur (Γ := lookT tbl) [3] ?_
    conv => whnf
    refine cur_i (hB 4 (by decide)) hi ?_
    rintro _ i h ⟨a, rfl, _, _⟩ hi
    conv => whnf
    refine inl_cur (Γ := lookT tbl) [3] ?_
    conv => whnf
    refine cur_i (hB 3 (by decide)) hi ?_
    rintro _ i h ⟨b, rfl, _, _⟩ hi
    conv => whnf
    refine cur_leaf rfl rfl rfl hi ?_
    exact ⟨⟨_, _, l⟩, rfl, hl1⟩
  conv => whnf
  refine inl_cur (Γ := lookT tbl) [3] ?_
  conv => whnf
  refine cur_i (hB 4 (by decide)) hi ?_
  rintro _ i h ⟨a, rfl, _, _⟩ hi
  conv => whnf
  refine inl_cur (Γ := lookT tbl) [3] ?_
  conv => whnf
  refine cur_i (hB 3 (by decide)) hi ?_
  rintro _ i h ⟨b, rfl, _, _⟩ hi
  conv => whnf
  refine cur_leaf rfl rfl rfl hi ?_
  exact ⟨⟨_, _, l⟩, rfl, hl1⟩
theorem d_11Any (code : List Int) (hl : code.length ≤ 9223372036854775807) : CurC Tryd.prog 31 1 (code.map byteEl) [] (fun rs => ∃ c : XConfig, rs = [c.v]) := by
  refine curC_of (Γ := lookT tbl) (il := ilist) tg dr Tryd.func31 rfl (by kernel_rfl) rfl (Nat.le_of_ble_eq_true rfl) ?_
  intro i h hi
  have hD := d_11Draw code hl
  have hI := fun l h => d_Int code hl l h
  have hB := d_Below code hl
  have hE := d_Bend code hl
  generalize code.map byteEl = L at *
  conv => whnf
  refine inl_cur (Γ := lookT tbl) [] ?_
  conv => whnf
  refine cur_i (hD) hi ?_
  rintro _ i h ⟨c, rfl, hl1⟩ hi
  conv => whnf
  refine inl_cur (Γ := lookT tbl) [3] ?_
  conv => whnf
  refine cur_i (hB 8 (by decide)) hi ?_
  rintro _ i h ⟨x, rfl, _, _⟩ hi
  obtain ⟨W, T, l⟩ := c
  dsimp only at hl1
  conv => whnf
  refine br_i (fun hb => ?_) (fun hb => ?_)
  focus
    conv => whnf
    refine inl_cur (Γ := lookT tbl) [45] ?_
    conv => whnf
    refine cur_i (hI [0, 100, 101, -1] (Nat.succ_pos _)) hi ?_
    rintro _ i h ⟨y, rfl, _⟩ hi
    conv => whnf
    refine cur_leaf rfl rfl rfl hi ?_
    exact ⟨⟨y, T, l⟩, rfl⟩
  conv => whnf
  refine br_i (fun hb => ?_) (fun hb => ?_)
  focus
    conv => whnf
    refine inl_cur (Γ := lookT tbl) [45] ?_
    conv => whnf
    refine cur_i (hI [-1, 5, 6] (Nat.succ_pos _)) hi ?_
    rintro _ i h ⟨y, rfl, _⟩ hi
    conv => whnf
    refine cur_leaf rfl rfl rfl hi ?_
    exact ⟨⟨W, y, l⟩, rfl⟩
  conv => whnf
  refine br_i (fun hb => ?_) (fun hb => ?_)
  focus
    conv => whnf
    refine inl_cur (Γ := lookT tbl) [22] ?_
    conv => whnf
    refine cur_i (hE l hl1) hi ?_
    rintro _ i h ⟨l, rfl, _⟩ hi
    conv => whnf
    refine cur_leaf rfl rfl rfl hi ?_
    exact ⟨⟨W, T, l⟩, rfl⟩
  conv => whnf
  refine cur_leaf rfl rfl rfl hi ?_
  exact ⟨⟨W, T, l⟩, rfl⟩
theorem d_ConfigText (code : List Int) (hl : code.length ≤ 1048576) : NdC Tryd.prog 16 [bytesV code] (fun rs => ∃ c : XConfig, rs = [c.v]) := by
  refine ndC_of (Γ := lookT tbl) (il := ilist) tg dr Tryd.func16 rfl (by kernel_rfl) rfl (Nat.le_of_ble_eq_true rfl) ?_
  have hA := d_11Any code (by omega)
  have newI := fun {k : Nat} (hb : (k : Int) < (code.map byteEl).length) => newI (L := code.map byteEl) (code := code) hb rfl
  have hL : (code.map byteEl).length ≤ 1048576 := by rw [List.length_map]; exact hl
  unfold bytesV bytesP
  generalize code.map byteEl = L at *
  conv => whnf
  refine inl_of (Γ := lookT tbl) (il := ilist) tg dr Tryd.func30 rfl (by kernel_rfl) rfl (ts := [37]) (Nat.le_of_ble_eq_true rfl) ?_
  conv => whnf
  refine loop_i (fun s : Nat × Int => ⟨envL [(0, .c (.pv (.sl 1 L))), (3, .c (.pv (.int .i64 s.2))), (4, .c (.pv (.int .i64 s.1)))], resL [(0, .box [.pv (.int .i64 0), .pv (.int .i64 0), .nil 7]), (2048, .env [(0, .c (.pv (.sl 1 L))), (2, .c (.ptr 0 0))])], 2048 + 1, 32⟩) (fun s => s.1 ≤ L.length) (fun s => L.length - s.1) (0, _) (Nat.zero_le _) (le_mk [] rfl ⟨⟨rfl, rfl⟩, ⟨rfl, rfl⟩, ⟨rfl, rfl⟩, trivial⟩ ⟨⟨rfl, rfl⟩, ⟨⟨rfl, rfl⟩, _, rfl, ⟨rfl, rfl⟩, ⟨rfl, rfl⟩, trivial⟩, trivial⟩ rfl) ?_
  rintro ⟨k, h⟩ hk
  dsimp only at hk
  conv => whnf
  refine br_i (fun hb => ?_) (fun hb => ?_)
  focus
    have hb : (k : Int) < L.length := by simpa using hb
    conv => whnf
    refine br_i (fun hb2 => ?_) (fun hb2 => ?_)
    focus
      conv => whnf
      refine ⟨_, ⟨⟨by omega, newI hb⟩, rfl⟩, ?_⟩
      conv => whnf
      exact ⟨(k + 1, _), ⟨by show k + 1 ≤ L.length; omega, by show L.length - (k + 1) < L.length - k; omega⟩, le_mk [] rfl ⟨⟨rfl, rfl⟩, ⟨rfl, rfl⟩, ⟨ctr (by omega), rfl⟩, trivial⟩ ⟨⟨rfl, rfl⟩, ⟨⟨rfl, rfl⟩, _, rfl, ⟨rfl, rfl⟩, ⟨rfl, rfl⟩, trivial⟩, trivial⟩ rfl⟩
  all_goals
    conv => whnf
    refine inl_cur (Γ := lookT tbl) [] ?_
    conv => whnf
    refine cur_i hA (by decide) ?_
    rintro _ i h ⟨c, rfl⟩ hi
    conv => whnf
    refine leaf_i rfl rfl ?_
    exact ⟨c, rfl⟩

end Go.Proofs.YtfpcgomngnfdeaaDoor
