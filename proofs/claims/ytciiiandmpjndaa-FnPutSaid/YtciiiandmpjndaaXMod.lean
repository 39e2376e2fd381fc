/- The values that the laws speak of, as plain structures. -/
import Derived.Test.YtciiiandmpjndaaXTypes
namespace Go.Proofs.Ytciiiandmpjndaa
open Go Go.Vi
set_option linter.unusedVariables false
set_option linter.unusedSimpArgs false
set_option maxRecDepth 100000
structure XReq where
  Kind : Int
  At : Int
  N : Int
  Words : List Int
  Bits : List Bool
  WAt : Int
  deriving DecidableEq
def XReq.ps (x : XReq) : List PV := [.int .i64 x.Kind, .int .i64 x.At, .int .i64 x.N, intsP x.Words, boolsP x.Bits, .int .i64 x.WAt]
def XReq.v (x : XReq) : VV := .agg x.ps
def XReq.zero : XReq := ⟨0, 0, 0, [], [], 0⟩
def XReq.tot (x : XReq) : Nat := x.Words.length + x.Bits.length
def XReq.Ok (x : XReq) : Prop := ((Lit.int .i64 x.Kind).wf = true) ∧ ((Lit.int .i64 x.At).wf = true) ∧ ((Lit.int .i64 x.N).wf = true) ∧ (∀ q0, q0 ∈ x.Words → (Lit.int .i64 q0).wf = true) ∧ (∀ q0, q0 ∈ x.Bits → True) ∧ ((Lit.int .i64 x.WAt).wf = true)
def XReq.sP (l : List XReq) : PV := .sl 6 (l.map XReq.ps)
def XReq.sV (l : List XReq) : VV := .one (XReq.sP l)
def XReq.sTot (l : List XReq) : Nat := l.length + sumF XReq.tot l
structure XCall where
  Id : Int
  Part : Int
  Unit : Int
  Req : XReq
  deriving DecidableEq
def XCall.ps (x : XCall) : List PV := [.int .i64 x.Id, .int .i64 x.Part, .int .i64 x.Unit, .int .i64 x.Req.Kind, .int .i64 x.Req.At, .int .i64 x.Req.N, intsP x.Req.Words, boolsP x.Req.Bits, .int .i64 x.Req.WAt]
def XCall.v (x : XCall) : VV := .agg x.ps
def XCall.zero : XCall := ⟨0, 0, 0, XReq.zero⟩
def XCall.tot (x : XCall) : Nat := x.Req.tot
def XCall.Ok (x : XCall) : Prop := ((Lit.int .i64 x.Id).wf = true) ∧ ((Lit.int .i64 x.Part).wf = true) ∧ ((Lit.int .i64 x.Unit).wf = true) ∧ (XReq.Ok x.Req)
def XCall.sP (l : List XCall) : PV := .sl 9 (l.map XCall.ps)
def XCall.sV (l : List XCall) : VV := .one (XCall.sP l)
def XCall.sTot (l : List XCall) : Nat := l.length + sumF XCall.tot l
structure XLine where
  Queue : List XCall
  Busy : Bool
  Call : XCall
  Number : Int
  Due : Int
  Left : Int
  Next : Int
  Wait : Int
  Tries : Int
  deriving DecidableEq
def XLine.ps (x : XLine) : List PV := [XCall.sP x.Queue, .bool x.Busy, .int .i64 x.Call.Id, .int .i64 x.Call.Part, .int .i64 x.Call.Unit, .int .i64 x.Call.Req.Kind, .int .i64 x.Call.Req.At, .int .i64 x.Call.Req.N, intsP x.Call.Req.Words, boolsP x.Call.Req.Bits, .int .i64 x.Call.Req.WAt, .int .i64 x.Number, .int .i64 x.Due, .int .i64 x.Left, .int .i64 x.Next, .int .i64 x.Wait, .int .i64 x.Tries]
def XLine.v (x : XLine) : VV := .agg x.ps
def XLine.zero : XLine := ⟨[], false, XCall.zero, 0, 0, 0, 0, 0, 0⟩
def XLine.tot (x : XLine) : Nat := XCall.sTot x.Queue + x.Call.tot
def XLine.Ok (x : XLine) : Prop := (∀ q0, q0 ∈ x.Queue → XCall.Ok q0) ∧ (True) ∧ (XCall.Ok x.Call) ∧ ((Lit.int .i64 x.Number).wf = true) ∧ ((Lit.int .i64 x.Due).wf = true) ∧ ((Lit.int .i64 x.Left).wf = true) ∧ ((Lit.int .i64 x.Next).wf = true) ∧ ((Lit.int .i64 x.Wait).wf = true) ∧ ((Lit.int .i64 x.Tries).wf = true)
def XLine.sP (l : List XLine) : PV := .sl 17 (l.map XLine.ps)
def XLine.sV (l : List XLine) : VV := .one (XLine.sP l)
def XLine.sTot (l : List XLine) : Nat := l.length + sumF XLine.tot l
structure XOrder where
  Number : Int
  Unit : Int
  Req : XReq
  deriving DecidableEq
def XOrder.ps (x : XOrder) : List PV := [.int .i64 x.Number, .int .i64 x.Unit, .int .i64 x.Req.Kind, .int .i64 x.Req.At, .int .i64 x.Req.N, intsP x.Req.Words, boolsP x.Req.Bits, .int .i64 x.Req.WAt]
def XOrder.v (x : XOrder) : VV := .agg x.ps
def XOrder.zero : XOrder := ⟨0, 0, XReq.zero⟩
def XOrder.tot (x : XOrder) : Nat := x.Req.tot
def XOrder.Ok (x : XOrder) : Prop := ((Lit.int .i64 x.Number).wf = true) ∧ ((Lit.int .i64 x.Unit).wf = true) ∧ (XReq.Ok x.Req)
def XOrder.sP (l : List XOrder) : PV := .sl 8 (l.map XOrder.ps)
def XOrder.sV (l : List XOrder) : VV := .one (XOrder.sP l)
def XOrder.sTot (l : List XOrder) : Nat := l.length + sumF XOrder.tot l
structure XResp where
  Kind : Int
  Fault : Int
  At : Int
  N : Int
  Words : List Int
  Bits : List Bool
  deriving DecidableEq
def XResp.ps (x : XResp) : List PV := [.int .i64 x.Kind, .int .i64 x.Fault, .int .i64 x.At, .int .i64 x.N, intsP x.Words, boolsP x.Bits]
def XResp.v (x : XResp) : VV := .agg x.ps
def XResp.zero : XResp := ⟨0, 0, 0, 0, [], []⟩
def XResp.tot (x : XResp) : Nat := x.Words.length + x.Bits.length
def XResp.Ok (x : XResp) : Prop := ((Lit.int .i64 x.Kind).wf = true) ∧ ((Lit.int .i64 x.Fault).wf = true) ∧ ((Lit.int .i64 x.At).wf = true) ∧ ((Lit.int .i64 x.N).wf = true) ∧ (∀ q0, q0 ∈ x.Words → (Lit.int .i64 q0).wf = true) ∧ (∀ q0, q0 ∈ x.Bits → True)
def XResp.sP (l : List XResp) : PV := .sl 6 (l.map XResp.ps)
def XResp.sV (l : List XResp) : VV := .one (XResp.sP l)
def XResp.sTot (l : List XResp) : Nat := l.length + sumF XResp.tot l
structure XDone where
  Id : Int
  Part : Int
  Resp : XResp
  deriving DecidableEq
def XDone.ps (x : XDone) : List PV := [.int .i64 x.Id, .int .i64 x.Part, .int .i64 x.Resp.Kind, .int .i64 x.Resp.Fault, .int .i64 x.Resp.At, .int .i64 x.Resp.N, intsP x.Resp.Words, boolsP x.Resp.Bits]
def XDone.v (x : XDone) : VV := .agg x.ps
def XDone.zero : XDone := ⟨0, 0, XResp.zero⟩
def XDone.tot (x : XDone) : Nat := x.Resp.tot
def XDone.Ok (x : XDone) : Prop := ((Lit.int .i64 x.Id).wf = true) ∧ ((Lit.int .i64 x.Part).wf = true) ∧ (XResp.Ok x.Resp)
def XDone.sP (l : List XDone) : PV := .sl 8 (l.map XDone.ps)
def XDone.sV (l : List XDone) : VV := .one (XDone.sP l)
def XDone.sTot (l : List XDone) : Nat := l.length + sumF XDone.tot l
end Go.Proofs.Ytciiiandmpjndaa
