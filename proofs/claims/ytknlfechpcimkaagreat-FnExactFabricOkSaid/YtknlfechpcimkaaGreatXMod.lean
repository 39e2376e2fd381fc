/- The values that the laws speak of, as plain structures. -/
import Derived.Test.YtknlfechpcimkaaGreatXTypes
namespace Go.Proofs.YtknlfechpcimkaaGreat
open Go Go.Vi
set_option linter.unusedVariables false
set_option linter.unusedSimpArgs false
set_option maxRecDepth 100000
structure XRule where
  Unit : Int
  Space : Int
  Lo : Int
  Hi : Int
  Port : Int
  To : Int
  Shift : Int
  deriving DecidableEq
def XRule.ps (x : XRule) : List PV := [.int .i64 x.Unit, .int .i64 x.Space, .int .i64 x.Lo, .int .i64 x.Hi, .int .i64 x.Port, .int .i64 x.To, .int .i64 x.Shift]
def XRule.v (x : XRule) : VV := .agg x.ps
def XRule.zero : XRule := ⟨0, 0, 0, 0, 0, 0, 0⟩
def XRule.Ok (x : XRule) : Prop := ((Lit.int .i64 x.Unit).wf = true) ∧ ((Lit.int .i64 x.Space).wf = true) ∧ ((Lit.int .i64 x.Lo).wf = true) ∧ ((Lit.int .i64 x.Hi).wf = true) ∧ ((Lit.int .i64 x.Port).wf = true) ∧ ((Lit.int .i64 x.To).wf = true) ∧ ((Lit.int .i64 x.Shift).wf = true)
def XRule.sP (l : List XRule) : PV := .sl 7 (l.map XRule.ps)
def XRule.sV (l : List XRule) : VV := .one (XRule.sP l)
structure XConfig where
  Wait : Int
  Tries : Int
  Rules : List XRule
  deriving DecidableEq
def XConfig.ps (x : XConfig) : List PV := [.int .i64 x.Wait, .int .i64 x.Tries, XRule.sP x.Rules]
def XConfig.v (x : XConfig) : VV := .agg x.ps
def XConfig.zero : XConfig := ⟨0, 0, []⟩
def XConfig.tot (x : XConfig) : Nat := x.Rules.length
def XConfig.Ok (x : XConfig) : Prop := ((Lit.int .i64 x.Wait).wf = true) ∧ ((Lit.int .i64 x.Tries).wf = true) ∧ (∀ q0, q0 ∈ x.Rules → XRule.Ok q0)
def XConfig.sP (l : List XConfig) : PV := .sl 3 (l.map XConfig.ps)
def XConfig.sV (l : List XConfig) : VV := .one (XConfig.sP l)
def XConfig.sTot (l : List XConfig) : Nat := l.length + sumF XConfig.tot l
structure XReq where
  Kind : Int
  At : Int
  N : Int
  Words : List Int
  Bits : List Bool
  WAt : Int
  deriving DecidableEq
def XReq.ps (x : XReq) : List PV := [.int .i64 x.Kind, .int .i64 x.At, .int .i64 x.N, intsP x.Words, boolsP x.Bits, .int .i64 x.WAt]
def XReq.v (x : XReq) : VV := .agg x.ps
def XReq.zero : XReq := ⟨0, 0, 0, [], [], 0⟩
def XReq.tot (x : XReq) : Nat := x.Words.length + x.Bits.length
def XReq.Ok (x : XReq) : Prop := ((Lit.int .i64 x.Kind).wf = true) ∧ ((Lit.int .i64 x.At).wf = true) ∧ ((Lit.int .i64 x.N).wf = true) ∧ (∀ q0, q0 ∈ x.Words → (Lit.int .i64 q0).wf = true) ∧ (∀ q0, q0 ∈ x.Bits → True) ∧ ((Lit.int .i64 x.WAt).wf = true)
def XReq.sP (l : List XReq) : PV := .sl 6 (l.map XReq.ps)
def XReq.sV (l : List XReq) : VV := .one (XReq.sP l)
def XReq.sTot (l : List XReq) : Nat := l.length + sumF XReq.tot l
structure XPart where
  Port : Int
  Unit : Int
  Req : XReq
  deriving DecidableEq
def XPart.ps (x : XPart) : List PV := [.int .i64 x.Port, .int .i64 x.Unit, .int .i64 x.Req.Kind, .int .i64 x.Req.At, .int .i64 x.Req.N, intsP x.Req.Words, boolsP x.Req.Bits, .int .i64 x.Req.WAt]
def XPart.v (x : XPart) : VV := .agg x.ps
def XPart.zero : XPart := ⟨0, 0, XReq.zero⟩
def XPart.tot (x : XPart) : Nat := x.Req.tot
def XPart.Ok (x : XPart) : Prop := ((Lit.int .i64 x.Port).wf = true) ∧ ((Lit.int .i64 x.Unit).wf = true) ∧ (XReq.Ok x.Req)
def XPart.sP (l : List XPart) : PV := .sl 8 (l.map XPart.ps)
def XPart.sV (l : List XPart) : VV := .one (XPart.sP l)
def XPart.sTot (l : List XPart) : Nat := l.length + sumF XPart.tot l
structure XResp where
  Kind : Int
  Fault : Int
  At : Int
  N : Int
  Words : List Int
  Bits : List Bool
  deriving DecidableEq
def XResp.ps (x : XResp) : List PV := [.int .i64 x.Kind, .int .i64 x.Fault, .int .i64 x.At, .int .i64 x.N, intsP x.Words, boolsP x.Bits]
def XResp.v (x : XResp) : VV := .agg x.ps
def XResp.zero : XResp := ⟨0, 0, 0, 0, [], []⟩
def XResp.tot (x : XResp) : Nat := x.Words.length + x.Bits.length
def XResp.Ok (x : XResp) : Prop := ((Lit.int .i64 x.Kind).wf = true) ∧ ((Lit.int .i64 x.Fault).wf = true) ∧ ((Lit.int .i64 x.At).wf = true) ∧ ((Lit.int .i64 x.N).wf = true) ∧ (∀ q0, q0 ∈ x.Words → (Lit.int .i64 q0).wf = true) ∧ (∀ q0, q0 ∈ x.Bits → True)
def XResp.sP (l : List XResp) : PV := .sl 6 (l.map XResp.ps)
def XResp.sV (l : List XResp) : VV := .one (XResp.sP l)
def XResp.sTot (l : List XResp) : Nat := l.length + sumF XResp.tot l
structure XPend where
  Id : Int
  Source : Int
  Tag : Int
  Unit : Int
  Req : XReq
  Parts : List XPart
  Has : List Bool
  Told : List XResp
  deriving DecidableEq
def XPend.ps (x : XPend) : List PV := [.int .i64 x.Id, .int .i64 x.Source, .int .i64 x.Tag, .int .i64 x.Unit, .int .i64 x.Req.Kind, .int .i64 x.Req.At, .int .i64 x.Req.N, intsP x.Req.Words, boolsP x.Req.Bits, .int .i64 x.Req.WAt, XPart.sP x.Parts, boolsP x.Has, XResp.sP x.Told]
def XPend.v (x : XPend) : VV := .agg x.ps
def XPend.zero : XPend := ⟨0, 0, 0, 0, XReq.zero, [], [], []⟩
def XPend.tot (x : XPend) : Nat := x.Req.tot + XPart.sTot x.Parts + x.Has.length + XResp.sTot x.Told
def XPend.Ok (x : XPend) : Prop := ((Lit.int .i64 x.Id).wf = true) ∧ ((Lit.int .i64 x.Source).wf = true) ∧ ((Lit.int .i64 x.Tag).wf = true) ∧ ((Lit.int .i64 x.Unit).wf = true) ∧ (XReq.Ok x.Req) ∧ (∀ q0, q0 ∈ x.Parts → XPart.Ok q0) ∧ (∀ q0, q0 ∈ x.Has → True) ∧ (∀ q0, q0 ∈ x.Told → XResp.Ok q0)
def XPend.sP (l : List XPend) : PV := .sl 13 (l.map XPend.ps)
def XPend.sV (l : List XPend) : VV := .one (XPend.sP l)
def XPend.sTot (l : List XPend) : Nat := l.length + sumF XPend.tot l
structure XTable where
  Next : Int
  List_ : List XPend
  deriving DecidableEq
def XTable.ps (x : XTable) : List PV := [.int .i64 x.Next, XPend.sP x.List_]
def XTable.v (x : XTable) : VV := .agg x.ps
def XTable.zero : XTable := ⟨0, []⟩
def XTable.tot (x : XTable) : Nat := XPend.sTot x.List_
def XTable.Ok (x : XTable) : Prop := ((Lit.int .i64 x.Next).wf = true) ∧ (∀ q0, q0 ∈ x.List_ → XPend.Ok q0)
def XTable.sP (l : List XTable) : PV := .sl 2 (l.map XTable.ps)
def XTable.sV (l : List XTable) : VV := .one (XTable.sP l)
def XTable.sTot (l : List XTable) : Nat := l.length + sumF XTable.tot l
structure XCall where
  Id : Int
  Part : Int
  Unit : Int
  Req : XReq
  deriving DecidableEq
def XCall.ps (x : XCall) : List PV := [.int .i64 x.Id, .int .i64 x.Part, .int .i64 x.Unit, .int .i64 x.Req.Kind, .int .i64 x.Req.At, .int .i64 x.Req.N, intsP x.Req.Words, boolsP x.Req.Bits, .int .i64 x.Req.WAt]
def XCall.v (x : XCall) : VV := .agg x.ps
def XCall.zero : XCall := ⟨0, 0, 0, XReq.zero⟩
def XCall.tot (x : XCall) : Nat := x.Req.tot
def XCall.Ok (x : XCall) : Prop := ((Lit.int .i64 x.Id).wf = true) ∧ ((Lit.int .i64 x.Part).wf = true) ∧ ((Lit.int .i64 x.Unit).wf = true) ∧ (XReq.Ok x.Req)
def XCall.sP (l : List XCall) : PV := .sl 9 (l.map XCall.ps)
def XCall.sV (l : List XCall) : VV := .one (XCall.sP l)
def XCall.sTot (l : List XCall) : Nat := l.length + sumF XCall.tot l
structure XLine where
  Queue : List XCall
  Busy : Bool
  Call : XCall
  Number : Int
  Due : Int
  Left : Int
  Next : Int
  Wait : Int
  Tries : Int
  deriving DecidableEq
def XLine.ps (x : XLine) : List PV := [XCall.sP x.Queue, .bool x.Busy, .int .i64 x.Call.Id, .int .i64 x.Call.Part, .int .i64 x.Call.Unit, .int .i64 x.Call.Req.Kind, .int .i64 x.Call.Req.At, .int .i64 x.Call.Req.N, intsP x.Call.Req.Words, boolsP x.Call.Req.Bits, .int .i64 x.Call.Req.WAt, .int .i64 x.Number, .int .i64 x.Due, .int .i64 x.Left, .int .i64 x.Next, .int .i64 x.Wait, .int .i64 x.Tries]
def XLine.v (x : XLine) : VV := .agg x.ps
def XLine.zero : XLine := ⟨[], false, XCall.zero, 0, 0, 0, 0, 0, 0⟩
def XLine.tot (x : XLine) : Nat := XCall.sTot x.Queue + x.Call.tot
def XLine.Ok (x : XLine) : Prop := (∀ q0, q0 ∈ x.Queue → XCall.Ok q0) ∧ (True) ∧ (XCall.Ok x.Call) ∧ ((Lit.int .i64 x.Number).wf = true) ∧ ((Lit.int .i64 x.Due).wf = true) ∧ ((Lit.int .i64 x.Left).wf = true) ∧ ((Lit.int .i64 x.Next).wf = true) ∧ ((Lit.int .i64 x.Wait).wf = true) ∧ ((Lit.int .i64 x.Tries).wf = true)
def XLine.sP (l : List XLine) : PV := .sl 17 (l.map XLine.ps)
def XLine.sV (l : List XLine) : VV := .one (XLine.sP l)
def XLine.sTot (l : List XLine) : Nat := l.length + sumF XLine.tot l
structure XFabric where
  Now : Int
  Set : XConfig
  Open : XTable
  Lines : List XLine
  Asked : Int
  Replied : Int
  Faults : Int
  Sent : Int
  deriving DecidableEq
def XFabric.ps (x : XFabric) : List PV := [.int .i64 x.Now, .int .i64 x.Set.Wait, .int .i64 x.Set.Tries, XRule.sP x.Set.Rules, .int .i64 x.Open.Next, XPend.sP x.Open.List_, XLine.sP x.Lines, .int .i64 x.Asked, .int .i64 x.Replied, .int .i64 x.Faults, .int .i64 x.Sent]
def XFabric.v (x : XFabric) : VV := .agg x.ps
def XFabric.zero : XFabric := ⟨0, XConfig.zero, XTable.zero, [], 0, 0, 0, 0⟩
def XFabric.tot (x : XFabric) : Nat := x.Set.tot + x.Open.tot + XLine.sTot x.Lines
def XFabric.Ok (x : XFabric) : Prop := ((Lit.int .i64 x.Now).wf = true) ∧ (XConfig.Ok x.Set) ∧ (XTable.Ok x.Open) ∧ (∀ q0, q0 ∈ x.Lines → XLine.Ok q0) ∧ ((Lit.int .i64 x.Asked).wf = true) ∧ ((Lit.int .i64 x.Replied).wf = true) ∧ ((Lit.int .i64 x.Faults).wf = true) ∧ ((Lit.int .i64 x.Sent).wf = true)
def XFabric.sP (l : List XFabric) : PV := .sl 11 (l.map XFabric.ps)
def XFabric.sV (l : List XFabric) : VV := .one (XFabric.sP l)
def XFabric.sTot (l : List XFabric) : Nat := l.length + sumF XFabric.tot l
structure Xplace where
  id : Int
  part : Int
  deriving DecidableEq
def Xplace.ps (x : Xplace) : List PV := [.int .i64 x.id, .int .i64 x.part]
def Xplace.v (x : Xplace) : VV := .agg x.ps
def Xplace.zero : Xplace := ⟨0, 0⟩
def Xplace.Ok (x : Xplace) : Prop := ((Lit.int .i64 x.id).wf = true) ∧ ((Lit.int .i64 x.part).wf = true)
def Xplace.sP (l : List Xplace) : PV := .sl 2 (l.map Xplace.ps)
def Xplace.sV (l : List Xplace) : VV := .one (Xplace.sP l)
end Go.Proofs.YtknlfechpcimkaaGreat
