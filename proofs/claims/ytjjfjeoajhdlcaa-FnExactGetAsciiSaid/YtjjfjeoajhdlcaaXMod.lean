/- The values that the laws speak of, as plain structures. -/
import Derived.Test.YtjjfjeoajhdlcaaXTypes
namespace Go.Proofs.Ytjjfjeoajhdlcaa
open Go Go.Vi
set_option linter.unusedVariables false
set_option linter.unusedSimpArgs false
set_option maxRecDepth 100000
structure XStream where
  Buf : List Int
  Shut : Bool
  deriving DecidableEq
def XStream.ps (x : XStream) : List PV := [bytesP x.Buf, .bool x.Shut]
def XStream.v (x : XStream) : VV := .agg x.ps
def XStream.zero : XStream := ⟨[], false⟩
def XStream.tot (x : XStream) : Nat := x.Buf.length
def XStream.Ok (x : XStream) : Prop := (∀ q0, q0 ∈ x.Buf → (Lit.int .u8 q0).wf = true) ∧ (True)
def XStream.sP (l : List XStream) : PV := .sl 2 (l.map XStream.ps)
def XStream.sV (l : List XStream) : VV := .one (XStream.sP l)
def XStream.sTot (l : List XStream) : Nat := l.length + sumF XStream.tot l
structure XAscii where
  Buf : List Int
  Open : Bool
  Last : Int
  Wait : Int
  deriving DecidableEq
def XAscii.ps (x : XAscii) : List PV := [bytesP x.Buf, .bool x.Open, .int .i64 x.Last, .int .i64 x.Wait]
def XAscii.v (x : XAscii) : VV := .agg x.ps
def XAscii.zero : XAscii := ⟨[], false, 0, 0⟩
def XAscii.tot (x : XAscii) : Nat := x.Buf.length
def XAscii.Ok (x : XAscii) : Prop := (∀ q0, q0 ∈ x.Buf → (Lit.int .u8 q0).wf = true) ∧ (True) ∧ ((Lit.int .i64 x.Last).wf = true) ∧ ((Lit.int .i64 x.Wait).wf = true)
def XAscii.sP (l : List XAscii) : PV := .sl 4 (l.map XAscii.ps)
def XAscii.sV (l : List XAscii) : VV := .one (XAscii.sP l)
def XAscii.sTot (l : List XAscii) : Nat := l.length + sumF XAscii.tot l
structure XRule where
  Unit : Int
  Space : Int
  Lo : Int
  Hi : Int
  Port : Int
  To : Int
  Shift : Int
  deriving DecidableEq
def XRule.ps (x : XRule) : List PV := [.int .i64 x.Unit, .int .i64 x.Space, .int .i64 x.Lo, .int .i64 x.Hi, .int .i64 x.Port, .int .i64 x.To, .int .i64 x.Shift]
def XRule.v (x : XRule) : VV := .agg x.ps
def XRule.zero : XRule := ⟨0, 0, 0, 0, 0, 0, 0⟩
def XRule.Ok (x : XRule) : Prop := ((Lit.int .i64 x.Unit).wf = true) ∧ ((Lit.int .i64 x.Space).wf = true) ∧ ((Lit.int .i64 x.Lo).wf = true) ∧ ((Lit.int .i64 x.Hi).wf = true) ∧ ((Lit.int .i64 x.Port).wf = true) ∧ ((Lit.int .i64 x.To).wf = true) ∧ ((Lit.int .i64 x.Shift).wf = true)
def XRule.sP (l : List XRule) : PV := .sl 7 (l.map XRule.ps)
def XRule.sV (l : List XRule) : VV := .one (XRule.sP l)
structure XConfig where
  Wait : Int
  Tries : Int
  Rules : List XRule
  deriving DecidableEq
def XConfig.ps (x : XConfig) : List PV := [.int .i64 x.Wait, .int .i64 x.Tries, XRule.sP x.Rules]
def XConfig.v (x : XConfig) : VV := .agg x.ps
def XConfig.zero : XConfig := ⟨0, 0, []⟩
def XConfig.tot (x : XConfig) : Nat := x.Rules.length
def XConfig.Ok (x : XConfig) : Prop := ((Lit.int .i64 x.Wait).wf = true) ∧ ((Lit.int .i64 x.Tries).wf = true) ∧ (∀ q0, q0 ∈ x.Rules → XRule.Ok q0)
def XConfig.sP (l : List XConfig) : PV := .sl 3 (l.map XConfig.ps)
def XConfig.sV (l : List XConfig) : VV := .one (XConfig.sP l)
def XConfig.sTot (l : List XConfig) : Nat := l.length + sumF XConfig.tot l
end Go.Proofs.Ytjjfjeoajhdlcaa
