/- The values that the laws speak of, as plain structures. -/
import Derived.Test.YtfpcgomngnfdeaaDoorXTypes
namespace Go.Proofs.YtfpcgomngnfdeaaDoor
open Go Go.Vi
set_option linter.unusedVariables false
set_option linter.unusedSimpArgs false
set_option maxRecDepth 100000
structure XRule where
  Unit : Int
  Space : Int
  Lo : Int
  Hi : Int
  Port : Int
  To : Int
  Shift : Int
  deriving DecidableEq
def XRule.ps (x : XRule) : List PV := [.int .i64 x.Unit, .int .i64 x.Space, .int .i64 x.Lo, .int .i64 x.Hi, .int .i64 x.Port, .int .i64 x.To, .int .i64 x.Shift]
def XRule.v (x : XRule) : VV := .agg x.ps
def XRule.zero : XRule := ⟨0, 0, 0, 0, 0, 0, 0⟩
def XRule.Ok (x : XRule) : Prop := ((Lit.int .i64 x.Unit).wf = true) ∧ ((Lit.int .i64 x.Space).wf = true) ∧ ((Lit.int .i64 x.Lo).wf = true) ∧ ((Lit.int .i64 x.Hi).wf = true) ∧ ((Lit.int .i64 x.Port).wf = true) ∧ ((Lit.int .i64 x.To).wf = true) ∧ ((Lit.int .i64 x.Shift).wf = true)
def XRule.sP (l : List XRule) : PV := .sl 7 (l.map XRule.ps)
def XRule.sV (l : List XRule) : VV := .one (XRule.sP l)
structure XConfig where
  Wait : Int
  Tries : Int
  Rules : List XRule
  deriving DecidableEq
def XConfig.ps (x : XConfig) : List PV := [.int .i64 x.Wait, .int .i64 x.Tries, XRule.sP x.Rules]
def XConfig.v (x : XConfig) : VV := .agg x.ps
def XConfig.zero : XConfig := ⟨0, 0, []⟩
def XConfig.tot (x : XConfig) : Nat := x.Rules.length
def XConfig.Ok (x : XConfig) : Prop := ((Lit.int .i64 x.Wait).wf = true) ∧ ((Lit.int .i64 x.Tries).wf = true) ∧ (∀ q0, q0 ∈ x.Rules → XRule.Ok q0)
def XConfig.sP (l : List XConfig) : PV := .sl 3 (l.map XConfig.ps)
def XConfig.sV (l : List XConfig) : VV := .one (XConfig.sP l)
def XConfig.sTot (l : List XConfig) : Nat := l.length + sumF XConfig.tot l
end Go.Proofs.YtfpcgomngnfdeaaDoor
