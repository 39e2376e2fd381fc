/- The values that the laws speak of, as plain structures. -/
import Derived.Test.YtdgmaaiijkoedaaXTypes
namespace Go.Proofs.Ytdgmaaiijkoedaa
open Go Go.Vi
set_option linter.unusedVariables false
set_option linter.unusedSimpArgs false
set_option maxRecDepth 100000
structure XRule where
  Unit : Int
  Space : Int
  Lo : Int
  Hi : Int
  Port : Int
  To : Int
  Shift : Int
  deriving DecidableEq
def XRule.ps (x : XRule) : List PV := [.int .i64 x.Unit, .int .i64 x.Space, .int .i64 x.Lo, .int .i64 x.Hi, .int .i64 x.Port, .int .i64 x.To, .int .i64 x.Shift]
def XRule.v (x : XRule) : VV := .agg x.ps
def XRule.zero : XRule := ⟨0, 0, 0, 0, 0, 0, 0⟩
def XRule.Ok (x : XRule) : Prop := ((Lit.int .i64 x.Unit).wf = true) ∧ ((Lit.int .i64 x.Space).wf = true) ∧ ((Lit.int .i64 x.Lo).wf = true) ∧ ((Lit.int .i64 x.Hi).wf = true) ∧ ((Lit.int .i64 x.Port).wf = true) ∧ ((Lit.int .i64 x.To).wf = true) ∧ ((Lit.int .i64 x.Shift).wf = true)
def XRule.sP (l : List XRule) : PV := .sl 7 (l.map XRule.ps)
def XRule.sV (l : List XRule) : VV := .one (XRule.sP l)
structure XReq where
  Kind : Int
  At : Int
  N : Int
  Words : List Int
  Bits : List Bool
  WAt : Int
  deriving DecidableEq
def XReq.ps (x : XReq) : List PV := [.int .i64 x.Kind, .int .i64 x.At, .int .i64 x.N, intsP x.Words, boolsP x.Bits, .int .i64 x.WAt]
def XReq.v (x : XReq) : VV := .agg x.ps
def XReq.zero : XReq := ⟨0, 0, 0, [], [], 0⟩
def XReq.tot (x : XReq) : Nat := x.Words.length + x.Bits.length
def XReq.Ok (x : XReq) : Prop := ((Lit.int .i64 x.Kind).wf = true) ∧ ((Lit.int .i64 x.At).wf = true) ∧ ((Lit.int .i64 x.N).wf = true) ∧ (∀ q0, q0 ∈ x.Words → (Lit.int .i64 q0).wf = true) ∧ (∀ q0, q0 ∈ x.Bits → True) ∧ ((Lit.int .i64 x.WAt).wf = true)
def XReq.sP (l : List XReq) : PV := .sl 6 (l.map XReq.ps)
def XReq.sV (l : List XReq) : VV := .one (XReq.sP l)
def XReq.sTot (l : List XReq) : Nat := l.length + sumF XReq.tot l
structure XPart where
  Port : Int
  Unit : Int
  Req : XReq
  deriving DecidableEq
def XPart.ps (x : XPart) : List PV := [.int .i64 x.Port, .int .i64 x.Unit, .int .i64 x.Req.Kind, .int .i64 x.Req.At, .int .i64 x.Req.N, intsP x.Req.Words, boolsP x.Req.Bits, .int .i64 x.Req.WAt]
def XPart.v (x : XPart) : VV := .agg x.ps
def XPart.zero : XPart := ⟨0, 0, XReq.zero⟩
def XPart.tot (x : XPart) : Nat := x.Req.tot
def XPart.Ok (x : XPart) : Prop := ((Lit.int .i64 x.Port).wf = true) ∧ ((Lit.int .i64 x.Unit).wf = true) ∧ (XReq.Ok x.Req)
def XPart.sP (l : List XPart) : PV := .sl 8 (l.map XPart.ps)
def XPart.sV (l : List XPart) : VV := .one (XPart.sP l)
def XPart.sTot (l : List XPart) : Nat := l.length + sumF XPart.tot l
end Go.Proofs.Ytdgmaaiijkoedaa
