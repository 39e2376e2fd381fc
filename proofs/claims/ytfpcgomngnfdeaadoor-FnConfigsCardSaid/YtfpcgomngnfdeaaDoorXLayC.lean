/- The library's contracts at the seat's program: strconv.Itoa, Atoi, strings.Cut, CutPrefix, Split. -/
import Derived.Test.YtfpcgomngnfdeaaDoorXDrawRules
import Derived.Shelf.Strconv.Itoa3
import Derived.Shelf.Strconv.Atoi
import Derived.Lib.AtoiErrMem
import Derived.Shelf.Strings.Cut
import Derived.Shelf.Strings.Split
import Derived.Shelf.Small.Wraps
import Derived.Shelf.Lay
import Derived.Shelf.LaysM
import Derived.Ground.NamesProg
import Derived.Lib.LaidTab
import Derived.Lib.ItoaLen
namespace Go.Proofs.YtfpcgomngnfdeaaDoor
open Go Go.Vi
set_option linter.unusedVariables false
set_option linter.unusedSimpArgs false
set_option maxRecDepth 100000
-- IMPORT Derived.Shelf.Strconv.Itoa3
-- IMPORT Derived.Shelf.Strconv.Atoi
-- IMPORT Derived.Lib.AtoiErrMem
-- IMPORT Derived.Shelf.Strings.Cut
-- IMPORT Derived.Shelf.Strings.Split
-- IMPORT Derived.Shelf.Small.Wraps
-- IMPORT Derived.Shelf.Lay
-- IMPORT Derived.Shelf.LaysM
-- IMPORT Derived.Ground.NamesProg
-- IMPORT Derived.Lib.LaidTab
-- IMPORT Derived.Lib.ItoaLen
end Go.Proofs.YtfpcgomngnfdeaaDoor
namespace Go.Proofs
open Go.Shelf
shelf_lay LaysM.n171 Nm 171 at Tryd as Tryd.laysItoa
shelf_lay LaysM.n172 Nm 172 at Tryd as Tryd.laysAtoi
shelf_lay LaysM.n145 Nm 145 at Tryd as Tryd.laysCut
shelf_lay LaysM.n146 Nm 146 at Tryd as Tryd.laysSplit
shelf_lay LaysM.n103 Nm 103 at Tryd as Tryd.laysCutPrefix
end Go.Proofs
namespace Go.Proofs.YtfpcgomngnfdeaaDoor
open Go Go.Vi Go.RowKit
theorem laidG : Tryd.prog.globalNamed "internal/strconv.uint64pow10" = some 1 := by kernel_rfl
theorem pow10_eq : pow10L = Lib.pow10Tab := by decide
theorem laid_tab {w : World} (h : Laid w) : Lib.TabIs Tryd.prog w "internal/strconv.uint64pow10" .u64 Lib.pow10Tab := by
  obtain ⟨t, fl, h1⟩ := h.2.1
  unfold Lib.TabIs World.var?
  rw [laidG]
  simp only [Option.bind_some, h1, pow10_eq]
theorem laid_max {w : World} (h : Laid w) : ∃ m, w.cell? ⟨0, 0, none⟩ = some (.int .i64 m) := h.2.2
theorem sameBelow {w w' : World} (h1 : w'.os = w.os) (h2 : w'.tape = w.tape) (h3 : w'.output = w.output) (h4 : w'.heap = w.heap) : Below w.heap.size w w' :=
  ⟨h1, h2, h3, by rw [h4]; exact Nat.le_refl _, fun k _ => by rw [h4]⟩
/-- Results without memory. -/
theorem flatRet {w w' : World} {rs : List VV} {us : List Value} (hl : us.length = rs.length) (h : ∀ (i : Nat) r, rs[i]? = some r → ∃ u, us[i]? = some u ∧ OwnVV w' (fun _ _ => False) r u) (hb : Below w.heap.size w w') :
    ∃ v D, Ending.returned (retVal us) = .returned v ∧ RetOk w' D rs v ∧ (∀ x, D x → w.heap.size ≤ x ∧ x < w'.heap.size) ∧ Below w.heap.size w w' :=
  ⟨_, fun _ => False, rfl, ⟨us, rfl, hl, fun _ _ _ => False, fun _ _ _ h => h, fun _ _ _ _ _ h => h.elim, h⟩, fun _ h => h.elim, hb⟩
theorem one_arg {w : World} {S : Nat → Prop} {a : VV} {vals : List Value} (h : RepVs w S [a] vals) : ∃ u, vals = [u] ∧ RepVV w S a u := by
  obtain ⟨u, hu, hr⟩ := h.2 0 _ rfl
  match vals, h.1 with
  | [x], _ => simp at hu; subst hu; exact ⟨_, rfl, hr⟩
theorem two_args {w : World} {S : Nat → Prop} {a b : VV} {vals : List Value} (h : RepVs w S [a, b] vals) : ∃ u v, vals = [u, v] ∧ RepVV w S a u ∧ RepVV w S b v := by
  obtain ⟨u, hu, hr⟩ := h.2 0 _ rfl
  obtain ⟨v, hv, hr2⟩ := h.2 1 _ rfl
  match vals, h.1 with
  | [x, y], _ => simp at hu hv; subst hu hv; exact ⟨_, _, rfl, hr, hr2⟩
def numT (n : Int) : ByteArray := ⟨(Lib.itoa n).toArray⟩
theorem lib_itoa (n : Int) (h0 : -9223372036854775808 ≤ n) (h1 : n ≤ 9223372036854775807) : PureC Tryd.prog 29 [i64v n] [.one (.str (numT n))] := by
  refine ⟨⟨_, Tryd.func29, by kernel_rfl, rfl⟩, fun w vals hq hv => ?_⟩
  obtain ⟨u, rfl, hr⟩ := one_arg hv
  obtain rfl : u = .int .i64 n := by cases hr; rfl
  refine (Any.strconv_Itoa Tryd.laysItoa n h0 h1 w (laid_tab hq)).mono fun e w' ⟨he, k, os, hw⟩ => ?_
  subst he hw
  refine flatRet (us := [_]) ?_ (fun i r hi => ?_) ⟨rfl, rfl, rfl, ?_, fun j hj => ?_⟩
  · rfl
  · cases i with
    | zero => cases hi; exact ⟨_, rfl, Own.str _ _⟩
    | succ i => cases hi
  · show w.heap.size ≤ (w.heap ++ os).size
    rw [Array.size_append]; omega
  · show (w.heap ++ os)[j]? = w.heap[j]?
    rw [Array.getElem?_append_left hj]
theorem lib_atoi (s : List UInt8) (n : Int) (hl : s.length ≤ 18) (h : Lib.atoi s = some n) : PureC Tryd.prog 73 [.one (.str ⟨s.toArray⟩)] [i64v n, .one (.err false)] := by
  refine ⟨⟨_, Tryd.func73, by kernel_rfl, rfl⟩, fun w vals hq hv => ?_⟩
  obtain ⟨u, rfl, hr⟩ := one_arg hv
  obtain rfl : u = .string ⟨s.toArray⟩ := by cases hr; rfl
  refine (Any.strconv_Atoi { Tryd.laysAtoi with } ⟨s.toArray⟩ n hl h w).mono fun e w' ⟨he, t, hw⟩ => ?_
  subst he hw
  refine flatRet (us := [_, _]) ?_ (fun i r hi => ?_) (Lib.bytesWorld_below _ _ _)
  · rfl
  match i, hi with
  | 0, hi => cases hi; exact ⟨_, rfl, Own.int _ _ _⟩
  | 1, hi => cases hi; exact ⟨_, rfl, Own.err0 _⟩
theorem lib_Cut (s t : List UInt8) (hl : s.length < 4294967281) : PureC Tryd.prog 21 [.one (.str ⟨s.toArray⟩), .one (.str ⟨t.toArray⟩)] [.one (.str ⟨(Lib.cut s t).1.toArray⟩), .one (.str ⟨(Lib.cut s t).2.1.toArray⟩), boolv (Lib.cut s t).2.2] := by
  refine ⟨⟨_, Tryd.func21, by kernel_rfl, rfl⟩, fun w vals hq hv => ?_⟩
  obtain ⟨u, v, rfl, hr, hr2⟩ := two_args hv
  obtain rfl : u = .string ⟨s.toArray⟩ := by cases hr; rfl
  obtain rfl : v = .string ⟨t.toArray⟩ := by cases hr2; rfl
  obtain ⟨m, hm⟩ := laid_max hq
  refine (Any.strings_Cut { Tryd.laysCut with } ⟨s.toArray⟩ ⟨t.toArray⟩ m w hl hm).mono fun e w' ⟨he, n, hw⟩ => ?_
  subst he hw
  refine flatRet (us := [_, _, _]) ?_ (fun i r hi => ?_) (sameBelow rfl rfl rfl rfl)
  · rfl
  match i, hi with
  | 0, hi => cases hi; exact ⟨_, rfl, Own.str _ _⟩
  | 1, hi => cases hi; exact ⟨_, rfl, Own.str _ _⟩
  | 2, hi => cases hi; exact ⟨_, rfl, Own.bool _ _⟩
theorem lib_CutPrefix (s t : List UInt8) : PureC Tryd.prog 72 [.one (.str ⟨s.toArray⟩), .one (.str ⟨t.toArray⟩)] [.one (.str ⟨(Lib.trimPrefix s t).toArray⟩), boolv (Lib.hasPrefix s t)] := by
  refine ⟨⟨_, Tryd.func72, by kernel_rfl, rfl⟩, fun w vals hq hv => ?_⟩
  obtain ⟨u, v, rfl, hr, hr2⟩ := two_args hv
  obtain rfl : u = .string ⟨s.toArray⟩ := by cases hr; rfl
  obtain rfl : v = .string ⟨t.toArray⟩ := by cases hr2; rfl
  refine (Any.strings_CutPrefix { Tryd.laysCutPrefix with } ⟨s.toArray⟩ ⟨t.toArray⟩ w).mono fun e w' ⟨he, hw⟩ => ?_
  subst he hw
  refine flatRet (us := [_, _]) ?_ (fun i r hi => ?_) (sameBelow rfl rfl rfl rfl)
  · rfl
  match i, hi with
  | 0, hi => cases hi; exact ⟨_, rfl, Own.str _ _⟩
  | 1, hi => cases hi; exact ⟨_, rfl, Own.bool _ _⟩
def strEl (s : ByteArray) : List PV := [.str s]
def strsV (l : List ByteArray) : VV := .one (.sl 1 (l.map strEl))
theorem lib_Split (s t : List UInt8) (hl : s.length < 4294967281) (ht : 1 ≤ t.length) : PureC Tryd.prog 38 [.one (.str ⟨s.toArray⟩), .one (.str ⟨t.toArray⟩)] [strsV (Lib.splitB ⟨t.toArray⟩ 0 (Lib.countB ⟨s.toArray⟩ ⟨t.toArray⟩) ⟨s.toArray⟩)] := by
  refine ⟨⟨_, Tryd.func38, by kernel_rfl, rfl⟩, fun w vals hq hv => ?_⟩
  obtain ⟨u, v, rfl, hr, hr2⟩ := two_args hv
  obtain rfl : u = .string ⟨s.toArray⟩ := by cases hr; rfl
  obtain rfl : v = .string ⟨t.toArray⟩ := by cases hr2; rfl
  obtain ⟨m, hm⟩ := laid_max hq
  have hlen := Lib.splitB_all ⟨t.toArray⟩ ht 0 _ (⟨s.toArray⟩ : ByteArray) rfl
  have hcl := Lib.countB_le ⟨t.toArray⟩ ht _ (⟨s.toArray⟩ : ByteArray) (Nat.le_refl _)
  have hss : (⟨s.toArray⟩ : ByteArray).size = s.length := by simp [ByteArray.size]
  refine (Any.strings_Split { Tryd.laysSplit with } Tryd.laysSplit.i9 ⟨s.toArray⟩ ⟨t.toArray⟩ m w hl hm ht).mono fun e w' ⟨he, hw⟩ => ?_
  generalize Lib.splitB ⟨t.toArray⟩ 0 (Lib.countB ⟨s.toArray⟩ ⟨t.toArray⟩) ⟨s.toArray⟩ = l at *
  generalize Lib.countB ⟨s.toArray⟩ ⟨t.toArray⟩ = k at *
  subst he hw
  have hb := (Below.refl w.heap.size w).alloc (Nat.le_refl _) (.cells (l.map Value.string).toArray (Tryd.laysSplit_ren.t 9) (0, 0))
  refine ⟨_, fun x => x = w.heap.size, rfl, ⟨[_], rfl, rfl, fun i j x => x = w.heap.size ∧ i = 0 ∧ j = 0, fun i j x h => h.1, fun i j i' j' x h h' => ⟨h.2.1.trans h'.2.1.symm, h.2.2.trans h'.2.2.symm⟩, fun i r hi => ?_⟩, fun x hx => ?_, hb⟩
  · cases i with
    | succ i => cases hi
    | zero =>
      cases hi
      refine ⟨_, rfl, ?_⟩
      have hk : k + 1 = (l.map strEl).length := by rw [List.length_map, hlen]
      show Own _ _ (.sl 1 (l.map strEl)) (.slice (some ⟨w.heap.size, 0, none⟩) (k + 1) (k + 1))
      rw [hk]
      have hat : ∀ i j p, at2 (l.map strEl) i j = some p → j = 0 ∧ ∃ x, l[i]? = some x ∧ p = .str x := by
        intro i j p hp
        unfold at2 at hp
        rw [List.getElem?_map] at hp
        cases hx : l[i]? with
        | none => rw [hx] at hp; cases hp
        | some x =>
          rw [hx] at hp
          match j, hp with
          | 0, hp => exact ⟨rfl, x, rfl, (Option.some.inj hp).symm⟩
      refine .sl _ 1 _ w.heap.size 0 _ _ (l.map Value.string).toArray (fun i _ => .string (l.getD i ByteArray.empty)) (fun _ _ _ => False) ⟨rfl, rfl, rfl⟩ (CellsAt.of (heap_alloc_new w _)) ?_ (Nat.le_refl _) (by rw [List.length_map]; omega) (fun el he => ?_) (fun i j p hp => ?_) (fun _ _ _ h => h.elim) (fun _ _ _ _ _ h => h.elim) (fun i j p hp => ?_)
      · simp
      · obtain ⟨x, _, rfl⟩ := List.mem_map.1 he; rfl
      · obtain ⟨rfl, x, hx, rfl⟩ := hat i j p hp
        rw [List.getElem?_toArray, List.getElem?_map, show 0 + i * 1 + 0 = i by omega, hx]
        simp [hx]
      · obtain ⟨rfl, x, hx, rfl⟩ := hat i j p hp
        have : l.getD i ByteArray.empty = x := by simp [hx]
        rw [this]
        exact .str _ _
  · subst hx
    refine ⟨Nat.le_refl _, ?_⟩
    show w.heap.size < (w.heap.push _).size
    rw [Array.size_push]
    exact Nat.lt_succ_self _

end Go.Proofs.YtfpcgomngnfdeaaDoor
