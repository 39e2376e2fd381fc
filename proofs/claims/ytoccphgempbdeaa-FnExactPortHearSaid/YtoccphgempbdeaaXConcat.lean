/- slices.Concat of rows of bytes. -/
import Derived.Test.YtoccphgempbdeaaXWire
namespace Go.Proofs.Ytoccphgempbdeaa
open Go Go.Vi
set_option linter.unusedVariables false
set_option linter.unusedSimpArgs false
set_option maxRecDepth 100000
def bytesElC (l : List Int) : List PV := [bytesP l]
theorem flat_take {α : Type} (ls : List (List α)) (k : Nat) (h : k < ls.length) : ((ls.take (k + 1)).flatten).length = ((ls.take k).flatten).length + ls[k].length := by
  rw [List.take_succ_eq_append_getElem h, List.flatten_append, List.length_append]; simp [List.flatten]
theorem flat_takeS {α : Type} (ls : List (List α)) (k : Nat) (h : k < ls.length) : (ls.take (k + 1)).flatten = (ls.take k).flatten ++ ls[k] := by
  rw [List.take_succ_eq_append_getElem h, List.flatten_append]; simp [List.flatten]
theorem flat_le {α : Type} (ls : List (List α)) (k : Nat) : ((ls.take k).flatten).length ≤ ls.flatten.length := by
  have : ls.flatten = (ls.take k).flatten ++ (ls.drop k).flatten := by rw [← List.flatten_append, List.take_append_drop]
  rw [this, List.length_append]; omega
theorem m_Concat (ls : List (List Int)) (h1 : ls.flatten.length ≤ 70368744177664) (h2 : ls.length ≤ 70368744177664) : PureC Try.prog 81 [.one (.sl 1 (ls.map bytesElC))] [bytesV ls.flatten] := by
  refine pureC_of (Γ := lookT tbl) (il := ilist) tg dr Try.func81 rfl (by kernel_rfl) rfl (Nat.le_of_ble_eq_true rfl) ?_
  conv => whnf
  refine loop_i (fun k : Nat => ⟨envL [(0, .c (.pv (.sl 1 (ls.map bytesElC)))), (2, .c (.nil 1)), (3, .c (.pv (.int .i64 ((ls.take k).flatten.length : Nat)))), (9, .c (.pv (.sl 1 (ls.map bytesElC)))), (10, .c (.pv (.int .i64 ls.length))), (11, .c (.pv (.int .i64 k)))], resL [], 0, 36⟩) (fun k => k ≤ ls.length) (fun k => ls.length - k) 0 (Nat.zero_le _) (le_mk [] rfl ⟨⟨rfl, rfl⟩, ⟨rfl, rfl⟩, ⟨rfl, rfl⟩, ⟨rfl, rfl⟩, ⟨i64_eq (by simp), rfl⟩, ⟨rfl, rfl⟩, trivial⟩ trivial rfl) ?_
  intro k hk
  have hfk := flat_le ls k
  conv => whnf
  refine br_i (fun h => ?_) (fun h => ?_)
  · have hlt : k < ls.length := by simpa using h
    have hf1 := flat_take ls k hlt
    have hf2 := flat_le ls (k + 1)
    have hw : IntKind.i64.wrap (((ls.take k).flatten.length : Nat) + ((ls[k].map byteEl).length : Nat)) = ((ls.take (k + 1)).flatten.length : Nat) := by rw [List.length_map, hf1]; exact wrap_ok (by omega) (by omega)
    conv => whnf
    refine ⟨_, idx_map ls bytesElC k hlt 1, ?_⟩
    conv => whnf
    refine br_i (fun h => absurd (dlt h) (by rw [hw]; omega)) (fun h => ?_)
    conv => whnf
    exact ⟨k + 1, ⟨hlt, by omega⟩, le_mk [] rfl ⟨⟨rfl, rfl⟩, ⟨rfl, rfl⟩, ⟨i64_eq hw, rfl⟩, ⟨rfl, rfl⟩, ⟨rfl, rfl⟩, ⟨ctr (by omega), rfl⟩, trivial⟩ trivial rfl⟩
  · have hk2 : k = ls.length := by simp at h; omega
    subst hk2
    rw [List.take_length]
    generalize hL : ls.flatten.length = L at *
    conv => whnf
    refine inl_of (Γ := lookT tbl) (il := ilist) tg dr Try.func99 rfl (by kernel_rfl) rfl (ts := [22, 3]) (Nat.le_of_ble_eq_true rfl) ?_
    conv => whnf
    have hw : IntKind.i64.wrap ((L : Int) - IntKind.i64.wrap (0 - 0)) = L := by
      rw [show IntKind.i64.wrap (0 - 0) = 0 from by decide]; exact (wrap_ok (by omega) (by omega)).trans (by omega)
    refine br_i (fun h => ?_) (fun h => ?_)
    · have hL0 : 0 < L := by
        have : IntKind.i64.wrap ((L : Int) - IntKind.i64.wrap (0 - 0)) > 0 := by simpa using h
        omega
      conv => whnf
      refine ⟨⟨rfl, rfl⟩, ?_⟩
      conv => whnf
      refine ⟨L, _, ⟨⟨⟨hw, hL0⟩, ⟨by show L * 1 ≤ _; omega, by decide, by decide⟩⟩, rfl⟩, ?_⟩
      conv => whnf
      refine ⟨[], ⟨⟨⟨by decide, by decide⟩, by omega⟩, rfl, rfl⟩, Or.inr ?_⟩
      conv => whnf
      refine loop_i (fun k : Nat => ⟨envL [(6, .c (.row 0)), (25, .c (.pv (.sl 1 (ls.map bytesElC)))), (26, .c (.pv (.int .i64 ls.length))), (27, .c (.pv (.int .i64 k)))], resL [(0, .row true 1 ((ls.take k).flatten.map byteEl))], 1, 36⟩) (fun k => k ≤ ls.length) (fun k => ls.length - k) 0 (Nat.zero_le _) (le_mk [(0, _)] rfl ⟨⟨rfl, rfl⟩, ⟨rfl, rfl⟩, ⟨i64_eq (by simp), rfl⟩, ⟨rfl, rfl⟩, trivial⟩ ⟨⟨rfl, rfl⟩, trivial⟩ rfl) ?_
      intro k hk
      have hfk := flat_le ls k
      conv => whnf
      refine br_i (fun h => ?_) (fun h => ?_)
      · have hlt : k < ls.length := by simpa using h
        have hf1 := flat_take ls k hlt
        have hf2 := flat_le ls (k + 1)
        conv => whnf
        refine ⟨_, idx_map ls bytesElC k hlt 1, ?_⟩
        conv => whnf
        refine ⟨⟨rfl, flat_byte _⟩, ?_⟩
        conv => whnf
        refine ⟨(ls.take (k + 1)).flatten.map byteEl, ⟨by show (((ls.take k).flatten.map byteEl).length + (ls[k].map byteEl).length) * 1 ≤ 140737488355328; rw [List.length_map, List.length_map]; omega, by rw [flat_takeS ls k hlt, List.map_append]⟩, ?_⟩
        conv => whnf
        exact ⟨k + 1, ⟨hlt, by omega⟩, le_mk [(0, _)] rfl ⟨⟨rfl, rfl⟩, ⟨rfl, rfl⟩, ⟨rfl, rfl⟩, ⟨ctr (by omega), rfl⟩, trivial⟩ ⟨⟨rfl, rfl⟩, trivial⟩ rfl⟩
      · have hk2 : k = ls.length := by simp at h; omega
        subst hk2
        conv => whnf
        refine leaf_i rfl rfl ?_
        rw [List.take_length]
        rfl
    · have hL0 : L = 0 := by
        have : ¬ (IntKind.i64.wrap ((L : Int) - IntKind.i64.wrap (0 - 0)) > 0) := by simpa using h
        omega
      conv => whnf
      refine loop_i (fun k : Nat => ⟨envL [(6, .c (.row 0)), (25, .c (.pv (.sl 1 (ls.map bytesElC)))), (26, .c (.pv (.int .i64 ls.length))), (27, .c (.pv (.int .i64 k)))], resL [(0, .row true 1 ((ls.take k).flatten.map byteEl))], 1, 36⟩) (fun k => k ≤ ls.length) (fun k => ls.length - k) 0 (Nat.zero_le _) ((le_row 6 rfl).trans (le_mk [(0, _)] rfl ⟨⟨rfl, rfl⟩, ⟨rfl, rfl⟩, ⟨i64_eq (by simp), rfl⟩, ⟨rfl, rfl⟩, trivial⟩ ⟨⟨rfl, rfl⟩, trivial⟩ rfl)) ?_
      intro k hk
      have hfk := flat_le ls k
      conv => whnf
      refine br_i (fun h => ?_) (fun h => ?_)
      · have hlt : k < ls.length := by simpa using h
        have hf1 := flat_take ls k hlt
        have hf2 := flat_le ls (k + 1)
        conv => whnf
        refine ⟨_, idx_map ls bytesElC k hlt 1, ?_⟩
        conv => whnf
        refine ⟨⟨rfl, flat_byte _⟩, ?_⟩
        conv => whnf
        refine ⟨(ls.take (k + 1)).flatten.map byteEl, ⟨by show (((ls.take k).flatten.map byteEl).length + (ls[k].map byteEl).length) * 1 ≤ 140737488355328; rw [List.length_map, List.length_map]; omega, by rw [flat_takeS ls k hlt, List.map_append]⟩, ?_⟩
        conv => whnf
        exact ⟨k + 1, ⟨hlt, by omega⟩, le_mk [(0, _)] rfl ⟨⟨rfl, rfl⟩, ⟨rfl, rfl⟩, ⟨rfl, rfl⟩, ⟨ctr (by omega), rfl⟩, trivial⟩ ⟨⟨rfl, rfl⟩, trivial⟩ rfl⟩
      · have hk2 : k = ls.length := by simp at h; omega
        subst hk2
        conv => whnf
        refine leaf_i rfl rfl ?_
        rw [List.take_length]
        rfl

end Go.Proofs.Ytoccphgempbdeaa
