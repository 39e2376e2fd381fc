/- A frame with a silence within: it is told as that. -/
import Derived.Test.YtkpffcjgjiljeaaXLawsC
namespace Go.Proofs.Ytkpffcjgjiljeaa
open Go Go.Vi
set_option linter.unusedVariables false
set_option linter.unusedSimpArgs false
set_option maxRecDepth 100000
theorem putRtu_b {u : Int} {p : List Int} (hu : 0 ≤ u ∧ u < 256) (hb : isBytes p) : isBytes (putRtu u p) := by
  unfold putRtu
  split
  · have hb2 : isBytes (u :: p) := fun x hx => by
      rcases List.mem_cons.1 hx with rfl | hx
      · exact hu
      · exact hb x hx
    have := crcN_lt (u :: p) 65535 hb2 (by decide)
    refine bytes_app hb2 fun x hx => ?_
    simp at hx
    omega
  · intro x hx; cases hx
/-- The state behind k bytes. -/
def gapR (B : List Int) (k0 g : Int) (k : Nat) : XRtu := ⟨B.take k, if k = 0 then 0 else if (k : Int) ≤ k0 then 7 else 7 + g, decide ((k : Int) > k0), 2, 5⟩
theorem gap_step {B : List Int} {k0 g : Int} (hk0 : 1 ≤ k0) (hg : 2 ≤ g ∧ g ≤ 4) (hB : B.length ≤ 256) {k : Nat} (hk : k < B.length) :
    rtuHear (gapR B k0 g k) (bAt B k) (if (k : Int) < k0 then 7 else 7 + g) = (gapR B k0 g (k + 1), []) := by
  have hlen : (B.take k).length = k := by rw [List.length_take]; omega
  have tk : tickB (if (k : Int) < k0 then 7 else 7 + g) = true := by split <;> (simp [tickB, inB]; try omega)
  have tl : tickB (if k = 0 then 0 else if (k : Int) ≤ k0 then 7 else 7 + g) = true := by (repeat' split) <;> (simp [tickB, inB]; try omega)
  have gp : tickGap (if k = 0 then 0 else if (k : Int) ≤ k0 then 7 else 7 + g) (if (k : Int) < k0 then 7 else 7 + g) = if k = 0 then 7 else if (k : Int) = k0 then g else 0 := by
    unfold tickGap
    rw [tk, tl]
    simp only [Bool.and_self, if_true]
    (repeat' split) <;> omega
  unfold gapR
  rw [hear_one (by simp [rtuOk, inB, tl, hlen]; omega) tk (by rw [gp, hlen]; (repeat' split) <;> omega) (by omega)]
  rw [gp, hlen]
  have e1 : B.take k ++ [bAt B k] = B.take (k + 1) := by
    rw [List.take_succ_eq_append_getElem hk]
    congr 2
    simp [bAt, hk]
  rw [e1]
  have e2 : (if (k : Int) < k0 then (7 : Int) else 7 + g) = if k + 1 = 0 then 0 else if ((k + 1 : Nat) : Int) ≤ k0 then 7 else 7 + g := by
    (repeat' split) <;> omega
  have e3 : (decide ((k : Int) > k0) || (decide ((k : Int) > 0) && decide ((if k = 0 then 7 else if (k : Int) = k0 then g else 0) ≥ 2))) = decide (((k + 1 : Nat) : Int) > k0) := by
    rw [Bool.eq_iff_iff]
    simp only [Bool.or_eq_true, Bool.and_eq_true, decide_eq_true_eq]
    (repeat' split) <;> omega
  rw [e2, e3]
theorem gap_end {B : List Int} {k0 g : Int} (hk0 : 1 ≤ k0) (hg : 2 ≤ g ∧ g ≤ 4) (hB : B.length ≤ 256) (hk : k0 < B.length) : (rtuWait (gapR B k0 g B.length) (7 + g + 5)).2 = [⟨5, 0, []⟩] := by
  have hlen : (B.take B.length).length = B.length := by simp
  have e1 : (if B.length = 0 then (0 : Int) else if (B.length : Int) ≤ k0 then 7 else 7 + g) = 7 + g := by (repeat' split) <;> omega
  have tk : tickB (7 + g) = true := by simp [tickB, inB]; omega
  have tk2 : tickB (7 + g + 5) = true := by simp [tickB, inB]; omega
  unfold gapR
  rw [e1, decide_eq_true (show (B.length : Int) > k0 by omega)]
  rw [wait_go]
  · rfl
  · unfold waitStop
    simp only [hlen, tk2, Bool.or_eq_false_iff, decide_eq_false_iff_not, Bool.not_eq_false', tickGap, tk, Bool.and_self, if_true, Bool.not_true]
    refine ⟨⟨⟨?_, trivial⟩, by omega⟩, by omega⟩
    simp [rtuOk, inB, tk, hlen]; omega
theorem law_FnGaps (code : List Int) (hw : ∀ q0, q0 ∈ code → (Lit.int .u8 q0).wf = true) : PureC Try.prog 4 [bytesV code] [boolv true] := by
  refine pureC_of (Γ := lookT tbl) (il := ilist) tg dr Try.func4 rfl (by kernel_rfl) rfl (Nat.le_of_ble_eq_true rfl) ?_
  have hbc : isBytes code := fun q hq => wf_u8 (hw q hq)
  conv => whnf
  refine call_i (l_big code) ?_
  conv => whnf
  refine br_i (fun h => ?_) (fun h => ?_)
  · conv => whnf
    exact leaf_i rfl rfl rfl
  have hlc : code.length ≤ 1048576 := by simp [bigB] at h; omega
  conv => whnf
  refine inl_nd (Γ := lookT tbl) [22] ?_
  conv => whnf
  refine nd_i (d_Frame code hlc) ?_
  rintro _ ⟨u, p, rfl, hu, hp, hbp⟩
  conv => whnf
  refine call_i (s_PutRtu u p hbp) ?_
  have hBl := putRtu_len hu hp
  have hBb := putRtu_b hu hbp
  generalize putRtu u p = B at *
  conv => whnf
  refine call_i (l_at code hbc hlc 2 (by decide) (by decide)) ?_
  have ha2 := atI_b hbc 2
  generalize atI code 2 = a2 at *
  conv => whnf
  rw [List.length_map, wrap_ok (x := (B.length : Int) - 1) (by omega) (by omega)]
  refine And.intro (by omega) ?_
  conv => whnf
  have hk0 := rem_b (x := a2) (n := (B.length : Int) - 1) ha2.1 (by omega)
  generalize a2.tmod ((B.length : Int) - 1) = q at *
  rw [wrap_ok (x := 1 + q) (by omega) (by omega)]
  have ha3 := atI_b hbc 3
  have hat := l_at code hbc hlc 3 (by decide) (by decide)
  generalize atI code 3 = a3 at *
  have hg0 := rem_b (x := a3) (n := 3) ha3.1 (by decide)
  have hgx : ∃ g, g = 2 + a3.tmod 3 := ⟨_, rfl⟩
  obtain ⟨g, hgx⟩ := hgx
  have hg : 2 ≤ g ∧ g ≤ 4 := by omega
  have hst := fun (k : Nat) (h : k < B.length) => gap_step (B := B) (k0 := 1 + q) (g := g) (by omega) hg (by omega) (k := k) h
  have hen := gap_end (B := B) (k0 := 1 + q) (g := g) (by omega) hg (by omega) (by omega)
  have hR := m_RtuNew 2 5
  rw [show rtuNew 2 5 = gapR B (1 + q) g 0 by simp [rtuNew, rtuOk, gapR, inB, tickB]; omega] at hR
  refine call_i hR ?_
  conv => whnf
  refine loop_i (fun k : Nat => ⟨envL [(0, .c (.pv (bytesP code))), (5, .c (.row 1)), (6, .c (.pv (.int .i64 (1 + q)))), (7, .c (.ptr 0 0)), (8, .c (.pv (.int .i64 (if (k : Int) ≤ 1 + q then 7 else 7 + g)))), (9, .c (.pv (.int .i64 k)))], resL [(0, .box [.row 2, .pv (.int .i64 (gapR B (1 + q) g k).Last), .pv (.bool (gapR B (1 + q) g k).Bad), .pv (.int .i64 2), .pv (.int .i64 5)]), (1, .row true 1 (B.map byteEl)), (2, .row true 1 ((gapR B (1 + q) g k).Buf.map byteEl))], 3, 80⟩) (fun k => k ≤ B.length) (fun k => B.length - k) 0 (Nat.zero_le _)
    (le_mk [(0, _), (1, _), (2, _)] rfl ⟨⟨rfl, rfl⟩, ⟨rfl, rfl⟩, ⟨rfl, rfl⟩, ⟨rfl, rfl⟩, ⟨i64_eq (by rw [if_pos (by omega)]), rfl⟩, ⟨rfl, rfl⟩, trivial⟩ ⟨⟨rfl, rfl⟩, ⟨rfl, rfl⟩, ⟨rfl, rfl⟩, trivial⟩ rfl) ?_
  intro k hk
  conv => whnf
  refine br_i (fun h => ?_) (fun h => ?_)
  · have hlt : k < B.length := by simpa using h
    have hst := hst k hlt
    have hH := m_RtuHear (gapR B (1 + q) g k) (bAt B k) (if (k : Int) < 1 + q then 7 else 7 + g) (fun x hx => hBb x (List.mem_of_mem_take hx)) (by show (B.take k).length ≤ _; rw [List.length_take]; omega)
    rw [hst] at hH
    have hgt : (B.map byteEl)[k]? = some (byteEl (bAt B k)) := by rw [List.getElem?_map, List.getElem?_eq_getElem hlt]; simp [bAt, hlt]
    have fin : ∀ T : Int, T = (if (k : Int) < 1 + q then 7 else 7 + g) → PureC Try.prog 18 [(gapR B (1 + q) g k).v, .one (.int .u8 (bAt B k)), i64v T] [(gapR B (1 + q) g (k + 1)).v, XGot.sV []] := fun T h => by rw [h]; exact hH
    have tk : ∀ T : Int, T = (if (k : Int) < 1 + q then 7 else 7 + g) → T = if ((k + 1 : Nat) : Int) ≤ 1 + q then 7 else 7 + g := fun T h => by rw [h]; (repeat' split) <;> omega
    conv => whnf
    refine br_i (fun h => ?_) (fun h => ?_)
    · have he : (k : Int) = 1 + q := by simpa using h
      have hT : IntKind.i64.wrap (IntKind.i64.wrap ((if (k : Int) ≤ 1 + q then 7 else 7 + g) + 2) + a3.tmod 3) = (if (k : Int) < 1 + q then 7 else 7 + g) := by
        rw [if_pos (by omega), if_neg (by omega), wrap_ok (x := (7 : Int) + 2) (by decide) (by decide), wrap_ok (by omega) (by omega)]
        omega
      conv => whnf
      refine call_i hat ?_
      conv => whnf
      refine And.intro (by decide) ?_
      conv => whnf
      refine ⟨k, ⟨⟨rfl, by rw [List.length_map]; exact hlt⟩, rfl⟩, ?_⟩
      conv => whnf
      refine ⟨_, ⟨rfl, hgt⟩, ?_⟩
      conv => whnf
      refine call_i (fin _ hT) ?_
      conv => whnf
      refine And.intro rfl ?_
      conv => whnf
      exact ⟨k + 1, ⟨hlt, by omega⟩, le_mk [(0, _), (1, _), (2, _)] rfl ⟨⟨rfl, rfl⟩, ⟨rfl, rfl⟩, ⟨rfl, rfl⟩, ⟨rfl, rfl⟩, ⟨i64_eq (tk _ hT), rfl⟩, ⟨ctr (by omega), rfl⟩, trivial⟩ ⟨⟨rfl, rfl⟩, ⟨rfl, rfl⟩, ⟨rfl, rfl⟩, trivial⟩ rfl⟩
    · have he : (k : Int) ≠ 1 + q := by simpa using h
      have hT : (if (k : Int) ≤ 1 + q then 7 else 7 + g) = (if (k : Int) < 1 + q then 7 else 7 + g) := by (repeat' split) <;> omega
      conv => whnf
      refine ⟨k, ⟨⟨rfl, by rw [List.length_map]; exact hlt⟩, rfl⟩, ?_⟩
      conv => whnf
      refine ⟨_, ⟨rfl, hgt⟩, ?_⟩
      conv => whnf
      refine call_i (fin _ hT) ?_
      conv => whnf
      refine And.intro rfl ?_
      conv => whnf
      exact ⟨k + 1, ⟨hlt, by omega⟩, le_mk [(0, _), (1, _), (2, _)] rfl ⟨⟨rfl, rfl⟩, ⟨rfl, rfl⟩, ⟨rfl, rfl⟩, ⟨rfl, rfl⟩, ⟨i64_eq (tk _ hT), rfl⟩, ⟨ctr (by omega), rfl⟩, trivial⟩ ⟨⟨rfl, rfl⟩, ⟨rfl, rfl⟩, ⟨rfl, rfl⟩, trivial⟩ rfl⟩
  · have hk2 : k = B.length := by have := dge h; rw [List.length_map] at this; omega
    subst hk2
    conv => whnf
    rw [if_neg (by omega), wrap_ok (x := 7 + g + 5) (by omega) (by omega)]
    have hW := m_RtuWait (gapR B (1 + q) g B.length) (7 + g + 5) (fun x hx => hBb x (List.mem_of_mem_take hx)) (by show (B.take B.length).length ≤ _; rw [List.length_take]; omega)
    rw [hen] at hW
    refine call_i hW ?_
    conv => whnf
    refine ⟨0, ⟨⟨rfl, Nat.succ_pos _⟩, rfl⟩, ?_⟩
    conv => whnf
    refine ⟨_, ⟨rfl, rfl⟩, ?_⟩
    conv => whnf
    refine ⟨0, ⟨⟨rfl, Nat.succ_pos _⟩, rfl⟩, ?_⟩
    conv => whnf
    refine ⟨_, ⟨rfl, rfl⟩, ?_⟩
    conv => whnf
    exact leaf_i rfl rfl rfl

end Go.Proofs.Ytkpffcjgjiljeaa
