/- The values that the laws speak of, as plain structures. -/
import Derived.Test.YtoccphgempbdeaaXTypes
namespace Go.Proofs.Ytoccphgempbdeaa
open Go Go.Vi
set_option linter.unusedVariables false
set_option linter.unusedSimpArgs false
set_option maxRecDepth 100000
structure XRtu where
  Buf : List Int
  Last : Int
  Bad : Bool
  Half : Int
  Whole : Int
  deriving DecidableEq
def XRtu.ps (x : XRtu) : List PV := [bytesP x.Buf, .int .i64 x.Last, .bool x.Bad, .int .i64 x.Half, .int .i64 x.Whole]
def XRtu.v (x : XRtu) : VV := .agg x.ps
def XRtu.zero : XRtu := ⟨[], 0, false, 0, 0⟩
def XRtu.tot (x : XRtu) : Nat := x.Buf.length
def XRtu.Ok (x : XRtu) : Prop := (∀ q0, q0 ∈ x.Buf → (Lit.int .u8 q0).wf = true) ∧ ((Lit.int .i64 x.Last).wf = true) ∧ (True) ∧ ((Lit.int .i64 x.Half).wf = true) ∧ ((Lit.int .i64 x.Whole).wf = true)
def XRtu.sP (l : List XRtu) : PV := .sl 5 (l.map XRtu.ps)
def XRtu.sV (l : List XRtu) : VV := .one (XRtu.sP l)
def XRtu.sTot (l : List XRtu) : Nat := l.length + sumF XRtu.tot l
structure XAscii where
  Buf : List Int
  Open : Bool
  Last : Int
  Wait : Int
  deriving DecidableEq
def XAscii.ps (x : XAscii) : List PV := [bytesP x.Buf, .bool x.Open, .int .i64 x.Last, .int .i64 x.Wait]
def XAscii.v (x : XAscii) : VV := .agg x.ps
def XAscii.zero : XAscii := ⟨[], false, 0, 0⟩
def XAscii.tot (x : XAscii) : Nat := x.Buf.length
def XAscii.Ok (x : XAscii) : Prop := (∀ q0, q0 ∈ x.Buf → (Lit.int .u8 q0).wf = true) ∧ (True) ∧ ((Lit.int .i64 x.Last).wf = true) ∧ ((Lit.int .i64 x.Wait).wf = true)
def XAscii.sP (l : List XAscii) : PV := .sl 4 (l.map XAscii.ps)
def XAscii.sV (l : List XAscii) : VV := .one (XAscii.sP l)
def XAscii.sTot (l : List XAscii) : Nat := l.length + sumF XAscii.tot l
structure XStream where
  Buf : List Int
  Shut : Bool
  deriving DecidableEq
def XStream.ps (x : XStream) : List PV := [bytesP x.Buf, .bool x.Shut]
def XStream.v (x : XStream) : VV := .agg x.ps
def XStream.zero : XStream := ⟨[], false⟩
def XStream.tot (x : XStream) : Nat := x.Buf.length
def XStream.Ok (x : XStream) : Prop := (∀ q0, q0 ∈ x.Buf → (Lit.int .u8 q0).wf = true) ∧ (True)
def XStream.sP (l : List XStream) : PV := .sl 2 (l.map XStream.ps)
def XStream.sV (l : List XStream) : VV := .one (XStream.sP l)
def XStream.sTot (l : List XStream) : Nat := l.length + sumF XStream.tot l
structure XPort where
  Kind : Int
  R : XRtu
  A : XAscii
  S : XStream
  Errors : Int
  deriving DecidableEq
def XPort.ps (x : XPort) : List PV := [.int .i64 x.Kind, bytesP x.R.Buf, .int .i64 x.R.Last, .bool x.R.Bad, .int .i64 x.R.Half, .int .i64 x.R.Whole, bytesP x.A.Buf, .bool x.A.Open, .int .i64 x.A.Last, .int .i64 x.A.Wait, bytesP x.S.Buf, .bool x.S.Shut, .int .i64 x.Errors]
def XPort.v (x : XPort) : VV := .agg x.ps
def XPort.zero : XPort := ⟨0, XRtu.zero, XAscii.zero, XStream.zero, 0⟩
def XPort.tot (x : XPort) : Nat := x.R.tot + x.A.tot + x.S.tot
def XPort.Ok (x : XPort) : Prop := ((Lit.int .i64 x.Kind).wf = true) ∧ (XRtu.Ok x.R) ∧ (XAscii.Ok x.A) ∧ (XStream.Ok x.S) ∧ ((Lit.int .i64 x.Errors).wf = true)
def XPort.sP (l : List XPort) : PV := .sl 13 (l.map XPort.ps)
def XPort.sV (l : List XPort) : VV := .one (XPort.sP l)
def XPort.sTot (l : List XPort) : Nat := l.length + sumF XPort.tot l
structure XBox where
  Number : Int
  Unit : Int
  Pdu : List Int
  deriving DecidableEq
def XBox.ps (x : XBox) : List PV := [.int .i64 x.Number, .int .i64 x.Unit, bytesP x.Pdu]
def XBox.v (x : XBox) : VV := .agg x.ps
def XBox.zero : XBox := ⟨0, 0, []⟩
def XBox.tot (x : XBox) : Nat := x.Pdu.length
def XBox.Ok (x : XBox) : Prop := ((Lit.int .i64 x.Number).wf = true) ∧ ((Lit.int .i64 x.Unit).wf = true) ∧ (∀ q0, q0 ∈ x.Pdu → (Lit.int .u8 q0).wf = true)
def XBox.sP (l : List XBox) : PV := .sl 3 (l.map XBox.ps)
def XBox.sV (l : List XBox) : VV := .one (XBox.sP l)
def XBox.sTot (l : List XBox) : Nat := l.length + sumF XBox.tot l
structure XGot where
  Code : Int
  Unit : Int
  Pdu : List Int
  deriving DecidableEq
def XGot.ps (x : XGot) : List PV := [.int .i64 x.Code, .int .i64 x.Unit, bytesP x.Pdu]
def XGot.v (x : XGot) : VV := .agg x.ps
def XGot.zero : XGot := ⟨0, 0, []⟩
def XGot.tot (x : XGot) : Nat := x.Pdu.length
def XGot.Ok (x : XGot) : Prop := ((Lit.int .i64 x.Code).wf = true) ∧ ((Lit.int .i64 x.Unit).wf = true) ∧ (∀ q0, q0 ∈ x.Pdu → (Lit.int .u8 q0).wf = true)
def XGot.sP (l : List XGot) : PV := .sl 3 (l.map XGot.ps)
def XGot.sV (l : List XGot) : VV := .one (XGot.sP l)
def XGot.sTot (l : List XGot) : Nat := l.length + sumF XGot.tot l
end Go.Proofs.Ytoccphgempbdeaa
