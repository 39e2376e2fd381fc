/- The values that the laws speak of, as plain structures. -/
import Derived.Test.YtojkaphhgldepaaXTypes
namespace Go.Proofs.Ytojkaphhgldepaa
open Go Go.Vi
set_option linter.unusedVariables false
set_option linter.unusedSimpArgs false
set_option maxRecDepth 100000
structure XReq where
  Kind : Int
  At : Int
  N : Int
  Words : List Int
  Bits : List Bool
  WAt : Int
  deriving DecidableEq
def XReq.ps (x : XReq) : List PV := [.int .i64 x.Kind, .int .i64 x.At, .int .i64 x.N, intsP x.Words, boolsP x.Bits, .int .i64 x.WAt]
def XReq.v (x : XReq) : VV := .agg x.ps
def XReq.zero : XReq := ⟨0, 0, 0, [], [], 0⟩
def XReq.tot (x : XReq) : Nat := x.Words.length + x.Bits.length
def XReq.Ok (x : XReq) : Prop := ((Lit.int .i64 x.Kind).wf = true) ∧ ((Lit.int .i64 x.At).wf = true) ∧ ((Lit.int .i64 x.N).wf = true) ∧ (∀ q0, q0 ∈ x.Words → (Lit.int .i64 q0).wf = true) ∧ (∀ q0, q0 ∈ x.Bits → True) ∧ ((Lit.int .i64 x.WAt).wf = true)
def XReq.sP (l : List XReq) : PV := .sl 6 (l.map XReq.ps)
def XReq.sV (l : List XReq) : VV := .one (XReq.sP l)
def XReq.sTot (l : List XReq) : Nat := l.length + sumF XReq.tot l
structure XPart where
  Port : Int
  Unit : Int
  Req : XReq
  deriving DecidableEq
def XPart.ps (x : XPart) : List PV := [.int .i64 x.Port, .int .i64 x.Unit, .int .i64 x.Req.Kind, .int .i64 x.Req.At, .int .i64 x.Req.N, intsP x.Req.Words, boolsP x.Req.Bits, .int .i64 x.Req.WAt]
def XPart.v (x : XPart) : VV := .agg x.ps
def XPart.zero : XPart := ⟨0, 0, XReq.zero⟩
def XPart.tot (x : XPart) : Nat := x.Req.tot
def XPart.Ok (x : XPart) : Prop := ((Lit.int .i64 x.Port).wf = true) ∧ ((Lit.int .i64 x.Unit).wf = true) ∧ (XReq.Ok x.Req)
def XPart.sP (l : List XPart) : PV := .sl 8 (l.map XPart.ps)
def XPart.sV (l : List XPart) : VV := .one (XPart.sP l)
def XPart.sTot (l : List XPart) : Nat := l.length + sumF XPart.tot l
structure XResp where
  Kind : Int
  Fault : Int
  At : Int
  N : Int
  Words : List Int
  Bits : List Bool
  deriving DecidableEq
def XResp.ps (x : XResp) : List PV := [.int .i64 x.Kind, .int .i64 x.Fault, .int .i64 x.At, .int .i64 x.N, intsP x.Words, boolsP x.Bits]
def XResp.v (x : XResp) : VV := .agg x.ps
def XResp.zero : XResp := ⟨0, 0, 0, 0, [], []⟩
def XResp.tot (x : XResp) : Nat := x.Words.length + x.Bits.length
def XResp.Ok (x : XResp) : Prop := ((Lit.int .i64 x.Kind).wf = true) ∧ ((Lit.int .i64 x.Fault).wf = true) ∧ ((Lit.int .i64 x.At).wf = true) ∧ ((Lit.int .i64 x.N).wf = true) ∧ (∀ q0, q0 ∈ x.Words → (Lit.int .i64 q0).wf = true) ∧ (∀ q0, q0 ∈ x.Bits → True)
def XResp.sP (l : List XResp) : PV := .sl 6 (l.map XResp.ps)
def XResp.sV (l : List XResp) : VV := .one (XResp.sP l)
def XResp.sTot (l : List XResp) : Nat := l.length + sumF XResp.tot l
structure XPend where
  Id : Int
  Source : Int
  Tag : Int
  Unit : Int
  Req : XReq
  Parts : List XPart
  Has : List Bool
  Told : List XResp
  deriving DecidableEq
def XPend.ps (x : XPend) : List PV := [.int .i64 x.Id, .int .i64 x.Source, .int .i64 x.Tag, .int .i64 x.Unit, .int .i64 x.Req.Kind, .int .i64 x.Req.At, .int .i64 x.Req.N, intsP x.Req.Words, boolsP x.Req.Bits, .int .i64 x.Req.WAt, XPart.sP x.Parts, boolsP x.Has, XResp.sP x.Told]
def XPend.v (x : XPend) : VV := .agg x.ps
def XPend.zero : XPend := ⟨0, 0, 0, 0, XReq.zero, [], [], []⟩
def XPend.tot (x : XPend) : Nat := x.Req.tot + XPart.sTot x.Parts + x.Has.length + XResp.sTot x.Told
def XPend.Ok (x : XPend) : Prop := ((Lit.int .i64 x.Id).wf = true) ∧ ((Lit.int .i64 x.Source).wf = true) ∧ ((Lit.int .i64 x.Tag).wf = true) ∧ ((Lit.int .i64 x.Unit).wf = true) ∧ (XReq.Ok x.Req) ∧ (∀ q0, q0 ∈ x.Parts → XPart.Ok q0) ∧ (∀ q0, q0 ∈ x.Has → True) ∧ (∀ q0, q0 ∈ x.Told → XResp.Ok q0)
def XPend.sP (l : List XPend) : PV := .sl 13 (l.map XPend.ps)
def XPend.sV (l : List XPend) : VV := .one (XPend.sP l)
def XPend.sTot (l : List XPend) : Nat := l.length + sumF XPend.tot l
structure XTable where
  Next : Int
  List_ : List XPend
  deriving DecidableEq
def XTable.ps (x : XTable) : List PV := [.int .i64 x.Next, XPend.sP x.List_]
def XTable.v (x : XTable) : VV := .agg x.ps
def XTable.zero : XTable := ⟨0, []⟩
def XTable.tot (x : XTable) : Nat := XPend.sTot x.List_
def XTable.Ok (x : XTable) : Prop := ((Lit.int .i64 x.Next).wf = true) ∧ (∀ q0, q0 ∈ x.List_ → XPend.Ok q0)
def XTable.sP (l : List XTable) : PV := .sl 2 (l.map XTable.ps)
def XTable.sV (l : List XTable) : VV := .one (XTable.sP l)
def XTable.sTot (l : List XTable) : Nat := l.length + sumF XTable.tot l
end Go.Proofs.Ytojkaphhgldepaa
