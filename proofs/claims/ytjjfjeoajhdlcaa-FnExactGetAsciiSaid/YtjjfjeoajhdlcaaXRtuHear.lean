/- RtuWait and RtuHear: both packages' functions, and the laws. -/
import Derived.Test.YtjjfjeoajhdlcaaXRtu
namespace Go.Proofs.Ytjjfjeoajhdlcaa
open Go Go.Vi
set_option linter.unusedVariables false
set_option linter.unusedSimpArgs false
set_option maxRecDepth 100000
def tickB (n : Int) : Bool := inB n 0 4294967295
def tickGap (a b : Int) : Int := if tickB a && tickB b then (b - a) % 4294967296 else 0
theorem maskB (a : Int) : IntKind.i64.wrap ((BitVec.ofInt IntKind.i64.bits a &&& BitVec.ofInt IntKind.i64.bits 4294967295).toNat : Nat) = a % 4294967296 := by
  have h1 : ((4294967295 : Int) % 2 ^ 64).toNat = 2 ^ 32 - 1 := by decide
  have h : (BitVec.ofInt IntKind.i64.bits a &&& BitVec.ofInt IntKind.i64.bits 4294967295).toNat = (a % 4294967296).toNat := by
    rw [BitVec.toNat_and, BitVec.toNat_ofInt, BitVec.toNat_ofInt]
    show ((a % 2 ^ 64).toNat &&& ((4294967295 : Int) % 2 ^ 64).toNat) = _
    rw [h1, Nat.and_two_pow_sub_one_eq_mod]
    omega
  rw [h]
  exact (wrap_ok (by omega) (by omega)).trans (by omega)
end Go.Proofs.Ytjjfjeoajhdlcaa
