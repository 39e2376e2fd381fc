/- The values that the laws speak of, as plain structures. -/
import Derived.Test.YtnpcgheojijpjaaXTypes
namespace Go.Proofs.Ytnpcgheojijpjaa
open Go Go.Vi
set_option linter.unusedVariables false
set_option linter.unusedSimpArgs false
set_option maxRecDepth 100000
structure XReq where
  Kind : Int
  At : Int
  N : Int
  Words : List Int
  Bits : List Bool
  WAt : Int
  deriving DecidableEq
def XReq.ps (x : XReq) : List PV := [.int .i64 x.Kind, .int .i64 x.At, .int .i64 x.N, intsP x.Words, boolsP x.Bits, .int .i64 x.WAt]
def XReq.v (x : XReq) : VV := .agg x.ps
def XReq.zero : XReq := ⟨0, 0, 0, [], [], 0⟩
def XReq.tot (x : XReq) : Nat := x.Words.length + x.Bits.length
def XReq.Ok (x : XReq) : Prop := ((Lit.int .i64 x.Kind).wf = true) ∧ ((Lit.int .i64 x.At).wf = true) ∧ ((Lit.int .i64 x.N).wf = true) ∧ (∀ q0, q0 ∈ x.Words → (Lit.int .i64 q0).wf = true) ∧ (∀ q0, q0 ∈ x.Bits → True) ∧ ((Lit.int .i64 x.WAt).wf = true)
def XReq.sP (l : List XReq) : PV := .sl 6 (l.map XReq.ps)
def XReq.sV (l : List XReq) : VV := .one (XReq.sP l)
def XReq.sTot (l : List XReq) : Nat := l.length + sumF XReq.tot l
structure XPart where
  Port : Int
  Unit : Int
  Req : XReq
  deriving DecidableEq
def XPart.ps (x : XPart) : List PV := [.int .i64 x.Port, .int .i64 x.Unit, .int .i64 x.Req.Kind, .int .i64 x.Req.At, .int .i64 x.Req.N, intsP x.Req.Words, boolsP x.Req.Bits, .int .i64 x.Req.WAt]
def XPart.v (x : XPart) : VV := .agg x.ps
def XPart.zero : XPart := ⟨0, 0, XReq.zero⟩
def XPart.tot (x : XPart) : Nat := x.Req.tot
def XPart.Ok (x : XPart) : Prop := ((Lit.int .i64 x.Port).wf = true) ∧ ((Lit.int .i64 x.Unit).wf = true) ∧ (XReq.Ok x.Req)
def XPart.sP (l : List XPart) : PV := .sl 8 (l.map XPart.ps)
def XPart.sV (l : List XPart) : VV := .one (XPart.sP l)
def XPart.sTot (l : List XPart) : Nat := l.length + sumF XPart.tot l
structure XResp where
  Kind : Int
  Fault : Int
  At : Int
  N : Int
  Words : List Int
  Bits : List Bool
  deriving DecidableEq
def XResp.ps (x : XResp) : List PV := [.int .i64 x.Kind, .int .i64 x.Fault, .int .i64 x.At, .int .i64 x.N, intsP x.Words, boolsP x.Bits]
def XResp.v (x : XResp) : VV := .agg x.ps
def XResp.zero : XResp := ⟨0, 0, 0, 0, [], []⟩
def XResp.tot (x : XResp) : Nat := x.Words.length + x.Bits.length
def XResp.Ok (x : XResp) : Prop := ((Lit.int .i64 x.Kind).wf = true) ∧ ((Lit.int .i64 x.Fault).wf = true) ∧ ((Lit.int .i64 x.At).wf = true) ∧ ((Lit.int .i64 x.N).wf = true) ∧ (∀ q0, q0 ∈ x.Words → (Lit.int .i64 q0).wf = true) ∧ (∀ q0, q0 ∈ x.Bits → True)
def XResp.sP (l : List XResp) : PV := .sl 6 (l.map XResp.ps)
def XResp.sV (l : List XResp) : VV := .one (XResp.sP l)
def XResp.sTot (l : List XResp) : Nat := l.length + sumF XResp.tot l
structure XPend where
  Id : Int
  Source : Int
  Tag : Int
  Unit : Int
  Req : XReq
  Parts : List XPart
  Has : List Bool
  Told : List XResp
  deriving DecidableEq
def XPend.ps (x : XPend) : List PV := [.int .i64 x.Id, .int .i64 x.Source, .int .i64 x.Tag, .int .i64 x.Unit, .int .i64 x.Req.Kind, .int .i64 x.Req.At, .int .i64 x.Req.N, intsP x.Req.Words, boolsP x.Req.Bits, .int .i64 x.Req.WAt, XPart.sP x.Parts, boolsP x.Has, XResp.sP x.Told]
def XPend.v (x : XPend) : VV := .agg x.ps
def XPend.zero : XPend := ⟨0, 0, 0, 0, XReq.zero, [], [], []⟩
def XPend.tot (x : XPend) : Nat := x.Req.tot + XPart.sTot x.Parts + x.Has.length + XResp.sTot x.Told
def XPend.Ok (x : XPend) : Prop := ((Lit.int .i64 x.Id).wf = true) ∧ ((Lit.int .i64 x.Source).wf = true) ∧ ((Lit.int .i64 x.Tag).wf = true) ∧ ((Lit.int .i64 x.Unit).wf = true) ∧ (XReq.Ok x.Req) ∧ (∀ q0, q0 ∈ x.Parts → XPart.Ok q0) ∧ (∀ q0, q0 ∈ x.Has → True) ∧ (∀ q0, q0 ∈ x.Told → XResp.Ok q0)
def XPend.sP (l : List XPend) : PV := .sl 13 (l.map XPend.ps)
def XPend.sV (l : List XPend) : VV := .one (XPend.sP l)
def XPend.sTot (l : List XPend) : Nat := l.length + sumF XPend.tot l
structure XTable where
  Next : Int
  List_ : List XPend
  deriving DecidableEq
def XTable.ps (x : XTable) : List PV := [.int .i64 x.Next, XPend.sP x.List_]
def XTable.v (x : XTable) : VV := .agg x.ps
def XTable.zero : XTable := ⟨0, []⟩
def XTable.tot (x : XTable) : Nat := XPend.sTot x.List_
def XTable.Ok (x : XTable) : Prop := ((Lit.int .i64 x.Next).wf = true) ∧ (∀ q0, q0 ∈ x.List_ → XPend.Ok q0)
def XTable.sP (l : List XTable) : PV := .sl 2 (l.map XTable.ps)
def XTable.sV (l : List XTable) : VV := .one (XTable.sP l)
def XTable.sTot (l : List XTable) : Nat := l.length + sumF XTable.tot l
structure XReply where
  Source : Int
  Tag : Int
  Req : XReq
  Parts : List XPart
  Told : List XResp
  Resp : XResp
  deriving DecidableEq
def XReply.ps (x : XReply) : List PV := [.int .i64 x.Source, .int .i64 x.Tag, .int .i64 x.Req.Kind, .int .i64 x.Req.At, .int .i64 x.Req.N, intsP x.Req.Words, boolsP x.Req.Bits, .int .i64 x.Req.WAt, XPart.sP x.Parts, XResp.sP x.Told, .int .i64 x.Resp.Kind, .int .i64 x.Resp.Fault, .int .i64 x.Resp.At, .int .i64 x.Resp.N, intsP x.Resp.Words, boolsP x.Resp.Bits]
def XReply.v (x : XReply) : VV := .agg x.ps
def XReply.zero : XReply := ⟨0, 0, XReq.zero, [], [], XResp.zero⟩
def XReply.tot (x : XReply) : Nat := x.Req.tot + XPart.sTot x.Parts + XResp.sTot x.Told + x.Resp.tot
def XReply.Ok (x : XReply) : Prop := ((Lit.int .i64 x.Source).wf = true) ∧ ((Lit.int .i64 x.Tag).wf = true) ∧ (XReq.Ok x.Req) ∧ (∀ q0, q0 ∈ x.Parts → XPart.Ok q0) ∧ (∀ q0, q0 ∈ x.Told → XResp.Ok q0) ∧ (XResp.Ok x.Resp)
def XReply.sP (l : List XReply) : PV := .sl 16 (l.map XReply.ps)
def XReply.sV (l : List XReply) : VV := .one (XReply.sP l)
def XReply.sTot (l : List XReply) : Nat := l.length + sumF XReply.tot l
structure XRule where
  Unit : Int
  Space : Int
  Lo : Int
  Hi : Int
  Port : Int
  To : Int
  Shift : Int
  deriving DecidableEq
def XRule.ps (x : XRule) : List PV := [.int .i64 x.Unit, .int .i64 x.Space, .int .i64 x.Lo, .int .i64 x.Hi, .int .i64 x.Port, .int .i64 x.To, .int .i64 x.Shift]
def XRule.v (x : XRule) : VV := .agg x.ps
def XRule.zero : XRule := ⟨0, 0, 0, 0, 0, 0, 0⟩
def XRule.Ok (x : XRule) : Prop := ((Lit.int .i64 x.Unit).wf = true) ∧ ((Lit.int .i64 x.Space).wf = true) ∧ ((Lit.int .i64 x.Lo).wf = true) ∧ ((Lit.int .i64 x.Hi).wf = true) ∧ ((Lit.int .i64 x.Port).wf = true) ∧ ((Lit.int .i64 x.To).wf = true) ∧ ((Lit.int .i64 x.Shift).wf = true)
def XRule.sP (l : List XRule) : PV := .sl 7 (l.map XRule.ps)
def XRule.sV (l : List XRule) : VV := .one (XRule.sP l)
end Go.Proofs.Ytnpcgheojijpjaa
