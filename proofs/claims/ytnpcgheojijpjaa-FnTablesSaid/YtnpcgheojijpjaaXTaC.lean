/- slices.Delete of a row's last element: the machine's own run. -/
import Derived.Test.YtnpcgheojijpjaaXTaB
import Derived.WalkKit
import Derived.Shelf.RegionOpenPlain
import Derived.Deep.RegionLaw
import Derived.Lib.Walk
import Derived.Lib.SliceRun
namespace Go.Proofs.Ytnpcgheojijpjaa
open Go Go.Vi
set_option linter.unusedVariables false
set_option linter.unusedSimpArgs false
set_option maxRecDepth 100000
-- IMPORT Derived.WalkKit
-- IMPORT Derived.Shelf.RegionOpenPlain
-- IMPORT Derived.Deep.RegionLaw
-- IMPORT Derived.Lib.Walk
-- IMPORT Derived.Lib.SliceRun
open Go.RowKit Go.Shelf
def zPend : List Value := ti66.zero.map zeroVal
theorem run_clearP (w : World) (ty : TypeId) (b q k : Nat) {ca : Array Value} {e : TypeId} (hh : CellsAt w b ca e) (hfit : q + 13 ≤ ca.size) :
    (Builtin.clear_ #[24] ty #[.slice (some ⟨b, q, none⟩) 1 k]).run Try.prog w = .ok (.tuple #[]) (w.setRow b (ca.toList.take q ++ zPend ++ ca.toList.drop (q + 13)).toArray) := by
  have hti := tg 66 ti66 rfl
  obtain ⟨z, hz, hcl⟩ := hti.zeroValue w
  have hzs : z.cells.size = 13 := by
    have := congrArg List.length hcl
    simpa [ti66] using this
  have hzc : (Builtin.zeroCells z.cells 1).toList = zPend := by
    rw [show zPend = z.cells.toList from hcl.symm]
    simp only [Builtin.zeroCells, Nat.one_mul, Array.toList_map, Array.toList_range, hzs]
    apply List.ext_getElem
    · simp [hzs]
    · intro i h1 h2
      have hi : i < 13 := by simpa using h1
      have hi2 : i < z.cells.size := by omega
      simp [Nat.mod_eq_of_lt hi, hi2]
  have hst := run_storeCells_row (P := Try.prog) b q e zPend 0 ca w hh (by simpa [zPend, ti66] using hfit) (by intro v hv; simp [zPend, ti66, zeroVal] at hv; rcases hv with rfl | rfl | rfl | rfl <;> rfl)
  have hl : zPend.length = 13 := rfl
  simp only [Nat.add_zero, hl] at hst
  simp [Builtin.clear_, run_underlying Try.underlying24, hz, hzc, hst]
theorem info66 : ∃ i0, Try.prog.info? 66 = some i0 ∧ i0.size = 13 := by
  obtain ⟨i, z, h1, h2, _⟩ := (tg 66 ti66 rfl).info
  exact ⟨i, h1, h2⟩
set_option maxHeartbeats 4000000 in
set_option maxRecDepth 1000000 in
theorem del_walk (b o c n : Nat) (w : World) {ca : Array Value} {e : TypeId} (hh : CellsAt w b ca e) (hsz : o + c * 13 ≤ ca.size) (hc : n + 1 ≤ c) (hm : c ≤ 9223372036854775807) :
    Calls Try.prog 74 #[.slice (some ⟨b, o, none⟩) (n + 1) c, .int .i64 n, .int .i64 ((n : Int) + 1)] w fun e' w' => e' = .returned (.slice (some ⟨b, o, none⟩) n c) ∧ w' = w.drew.setRow b (ca.toList.take (o + n * 13) ++ zPend ++ ca.toList.drop (o + n * 13 + 13)).toArray := by
  obtain ⟨i0, hi0, hz1⟩ := info66
  have t24 := Try.underlying24
  have mixed := mixed
  obtain ⟨A, hA⟩ : ∃ A : Addr, (if c = n + 1 then some (⟨b, o, none⟩ : Addr) else some ⟨b, o + (n + 1) * 13, none⟩) = some A := by
    by_cases h : c = n + 1
    · exact ⟨_, by rw [if_pos h]⟩
    · exact ⟨_, by rw [if_neg h]⟩
  have hcl : ∀ ty, (Builtin.clear_ #[24] ty #[.slice (some ⟨b, o + n * 13, none⟩) 1 (c - n)]).run Try.prog w.drew = .ok (.tuple #[]) (w.drew.setRow b (ca.toList.take (o + n * 13) ++ zPend ++ ca.toList.drop (o + n * 13 + 13)).toArray) :=
    fun ty => run_clearP w.drew ty b (o + n * 13) (c - n) hh (by have : n * 13 + 13 ≤ c * 13 := by omega
                                                                 omega)
  have hnc : n ≤ c := by omega
  have hne : ¬ c = n := by omega
  have hp0 : (0 : Int) ≤ (n : Int) + 1 := by omega
  have hp2 : ((n : Int) + 1).toNat = n + 1 := by omega
  clear hh hsz
  go_enter Try.func74, Try.ntmps74
  go_wp2_with fail
  go_region_law_o (refine step_append_room rfl (.tmp 22) (.tmp 25) 24 rfl 66 i0 13 t24 hi0 hz1 b o n c (by simp [Act.eval, Act.put]) A 0 (c - (n + 1)) [] (by simp [Act.eval, Act.put, hp2]) rfl (fun j u hj => by simp at hj) (fun u hu => by cases hu) (by omega) (fun j hj => by simp at hj) ?_; rw [show (w.drew).setCells b (o + n * 13) [] = w.drew from rfl])
  go_wp2
  go_ret
  exact ⟨rfl, by rw [List.append_assoc]⟩
theorem delC : DelC Try.prog 74 13 zPend :=
  ⟨⟨_, Try.func74, by kernel_rfl, rfl⟩, rfl, fun b o c n w ca e hh hsz hc hm => del_walk b o c n w hh hsz hc hm⟩

end Go.Proofs.Ytnpcgheojijpjaa
