/- A call put at a drawn line: it waits behind the others; asked, it has the number that was next. -/
import Derived.Test.YtciiiandmpjndaaXLawLines
namespace Go.Proofs.Ytciiiandmpjndaa
open Go Go.Vi
set_option linter.unusedVariables false
set_option linter.unusedSimpArgs false
set_option maxRecDepth 100000
/-- What is told of a line that may be wrong. -/
def tinyL (l : XLine) : Prop := l.tot ≤ 2000
theorem tiny_of {l : XLine} {now : Int} (h : DL l now 20) : tinyL l := by
  have := h.tot
  unfold tinyL
  omega
set_option maxHeartbeats 1000000 in
theorem d_LineAny (code : List Int) (hl : code.length ≤ 9223372036854775807) (most : Int) (hm : 0 < most) (hm2 : most ≤ 20) : CurC Try.prog 17 1 (code.map byteEl) [i64v most] (fun rs => ∃ l now, rs = [XLine.v l, i64v now] ∧ tinyL l) := by
  refine curC_of (Γ := lookT tbl) (il := ilist) tg dr Try.func17 rfl (by kernel_rfl) rfl (Nat.le_of_ble_eq_true rfl) ?_
  intro i h hi
  have hI := d_Int code hl
  have hB := d_Below code hl
  have hC := d_Call code hl
  have hD := d_Line code hl most hm hm2
  generalize code.map byteEl = L at *
  conv => whnf
  refine inl_cur (Γ := lookT tbl) [3] ?_
  conv => whnf
  refine cur_i hD hi ?_
  rintro _ i h ⟨l, now, rfl, hd⟩ hi
  have htot := hd.tot
  have hsm := hd.call
  clear hD
  conv => whnf
  refine inl_cur (Γ := lookT tbl) [3] ?_
  conv => whnf
  refine cur_i (hB 12 (by decide)) hi ?_
  rintro _ i h ⟨y, rfl, hy, hy2⟩ hi
  have h5 : y = 0 ∨ y = 1 ∨ y = 2 ∨ y = 3 ∨ y = 4 ∨ (5 ≤ y ∧ y < 12) := by omega
  rcases h5 with rfl | rfl | rfl | rfl | rfl | hy3
  · conv => whnf
    refine cur_leaf rfl rfl rfl hi ?_
    exact ⟨{ l with Busy := !l.Busy }, now, rfl, by show l.tot ≤ 2000; omega⟩
  · conv => whnf
    refine inl_cur (Γ := lookT tbl) [25] ?_
    conv => whnf
    refine cur_i (hI [-1, 6] (Nat.succ_pos _)) hi ?_
    rintro _ i h ⟨z, rfl, _⟩ hi
    conv => whnf
    refine cur_leaf rfl rfl rfl hi ?_
    exact ⟨{ l with Left := z }, now, rfl, by show l.tot ≤ 2000; omega⟩
  · conv => whnf
    refine inl_cur (Γ := lookT tbl) [25] ?_
    conv => whnf
    refine cur_i (hI [0, 101] (Nat.succ_pos _)) hi ?_
    rintro _ i h ⟨z, rfl, _⟩ hi
    conv => whnf
    refine cur_leaf rfl rfl rfl hi ?_
    exact ⟨{ l with Wait := z }, now, rfl, by show l.tot ≤ 2000; omega⟩
  · conv => whnf
    refine loop_i (fun s : Nat × List XCall × Int × Int => ⟨envL [(0, .c (.ptr 0 0)), (4, .c (.ptr 7 0)), (6, .c (.ptr 3 0)), (7, .c (.pv (.int .i64 now)))],
        resL [(0, .box [.row 1, .pv (.int .i64 s.2.2.1), .pv (.int .i64 s.2.2.2)]), (1, .ro 1 L), (2, .env [(0, .c (.ptr 0 0)), (1, .c (.row 1))]),
          (3, .box [.row 4, .pv (.bool l.Busy), .pv (.int .i64 l.Call.Id), .pv (.int .i64 l.Call.Part), .pv (.int .i64 l.Call.Unit), .pv (.int .i64 l.Call.Req.Kind), .pv (.int .i64 l.Call.Req.At), .pv (.int .i64 l.Call.Req.N), .row 5, .row 6, .pv (.int .i64 l.Call.Req.WAt), .pv (.int .i64 l.Number), .pv (.int .i64 l.Due), .pv (.int .i64 l.Left), .pv (.int .i64 l.Next), .pv (.int .i64 l.Wait), .pv (.int .i64 l.Tries)]),
          (4, .row true 9 (s.2.1.map XCall.ps)), (5, .row true 1 (l.Call.Req.Words.map intEl)), (6, .row true 1 (l.Call.Req.Bits.map boolEl)), (7, .box [.nil 9, .pv (.bool false), .pv (.int .i64 0), .pv (.int .i64 0), .pv (.int .i64 0), .pv (.int .i64 0), .pv (.int .i64 0), .pv (.int .i64 0), .nil 1, .nil 1, .pv (.int .i64 0), .pv (.int .i64 0), .pv (.int .i64 0), .pv (.int .i64 0), .pv (.int .i64 0), .pv (.int .i64 0), .pv (.int .i64 0)])], 8, 63⟩)
      (fun s => (s.2.1.length = s.1 ∧ s.1 ≤ 41) ∧ (∀ c ∈ s.2.1, smallQ c.Req) ∧ 0 ≤ s.2.2.1) (fun s => 41 - s.1) (0, [], i, h) ⟨⟨rfl, Nat.zero_le _⟩, fun c hc => (by cases hc), hi⟩
      (le_mk [(3, _), (4, _), (5, _), (6, _), (7, _)] rfl ⟨⟨rfl, rfl⟩, ⟨rfl, rfl⟩, ⟨rfl, rfl⟩, ⟨rfl, rfl⟩, trivial⟩ ⟨⟨rfl, rfl⟩, ⟨rfl, rfl⟩, ⟨⟨rfl, rfl⟩, _, rfl, ⟨rfl, rfl⟩, ⟨rfl, rfl⟩, trivial⟩, ⟨rfl, rfl⟩, ⟨rfl, rfl⟩, ⟨rfl, rfl⟩, ⟨rfl, rfl⟩, ⟨rfl, rfl⟩, trivial⟩ rfl) ?_
    rintro ⟨k, q, i, h⟩ ⟨⟨hk, hk2⟩, hq, hi⟩
    dsimp only at hk hk2 hq hi
    conv => whnf
    refine And.intro rfl ?_
    conv => whnf
    refine cur_i (hB 2 (by decide)) hi ?_
    rintro _ i h ⟨z, rfl, hz, hz2⟩ hi
    have hzw : IntKind.i64.wrap (40 + z) = 40 + z := wrap_ok (by omega) (by omega)
    have hlq : (q.map XCall.ps).length = k := by rw [List.length_map]; exact hk
    conv => whnf
    refine And.intro rfl ?_
    conv => whnf
    refine br_i (fun hc => ?_) (fun hc => ?_)
    · have hc : k ≤ 40 := by
        have := dlt hc
        rw [hzw] at this
        dsimp only at this
        omega
      conv => whnf
      refine And.intro rfl ?_
      conv => whnf
      refine cur_i (hC ((q.map XCall.ps).length : Int)) hi ?_
      rintro _ i h ⟨c, rfl, _, _, _, hg⟩ hi
      conv => whnf
      refine And.intro rfl ?_
      conv => whnf
      refine ⟨(q ++ [c]).map XCall.ps, ⟨by rw [List.length_map]; show (q.length + 1) * 104 ≤ 140737488355328; omega, by rw [List.map_append]; rfl⟩, ?_⟩
      conv => whnf
      refine And.intro rfl ?_
      conv => whnf
      exact ⟨(k + 1, q ++ [c], i, h), ⟨⟨⟨by simp [hk], by show k + 1 ≤ 41; omega⟩, fun x hx => (by
        rcases List.mem_append.1 hx with hx | hx
        · exact hq x hx
        · simp at hx; rw [hx]; exact small_of hg), hi⟩, by show 41 - (k + 1) < 41 - k; omega⟩, le_mk [(3, _), (4, _), (5, _), (6, _)] rfl ⟨⟨rfl, rfl⟩, ⟨rfl, rfl⟩, ⟨rfl, rfl⟩, ⟨rfl, rfl⟩, trivial⟩ ⟨⟨rfl, rfl⟩, ⟨rfl, rfl⟩, ⟨⟨rfl, rfl⟩, _, rfl, ⟨rfl, rfl⟩, ⟨rfl, rfl⟩, trivial⟩, ⟨rfl, rfl⟩, ⟨rfl, rfl⟩, ⟨rfl, rfl⟩, ⟨rfl, rfl⟩, ⟨rfl, rfl⟩, trivial⟩ rfl⟩
    · conv => whnf
      refine cur_leaf rfl rfl rfl hi ?_
      refine ⟨{ l with Queue := q }, now, rfl, ?_⟩
      have h1 := line_tot { l with Queue := q }
      have h2 := sum_small hq
      have h3 := small_tot hsm
      unfold tinyL
      have h4 : XLine.tot { l with Queue := q } = q.length + sumF XCall.tot q + l.Call.tot := rfl
      omega
  · conv => whnf
    refine inl_cur (Γ := lookT tbl) [25] ?_
    conv => whnf
    refine cur_i (hI [-1, 65536] (Nat.succ_pos _)) hi ?_
    rintro _ i h ⟨z, rfl, _⟩ hi
    conv => whnf
    refine cur_leaf rfl rfl rfl hi ?_
    exact ⟨{ l with Next := z }, now, rfl, by show l.tot ≤ 2000; omega⟩
  · have n0 : (y == 0) = false := by simp; omega
    have n1 : (y == 1) = false := by simp; omega
    have n2 : (y == 2) = false := by simp; omega
    have n3 : (y == 3) = false := by simp; omega
    have n4 : (y == 4) = false := by simp; omega
    conv => whnf
    refine br_i (fun h => absurd h (by rw [n0]; decide)) (fun _ => ?_)
    conv => whnf
    refine br_i (fun h => absurd h (by rw [n1]; decide)) (fun _ => ?_)
    conv => whnf
    refine br_i (fun h => absurd h (by rw [n2]; decide)) (fun _ => ?_)
    conv => whnf
    refine br_i (fun h => absurd h (by rw [n3]; decide)) (fun _ => ?_)
    conv => whnf
    refine br_i (fun h => absurd h (by rw [n4]; decide)) (fun _ => ?_)
    conv => whnf
    refine cur_leaf rfl rfl rfl hi ?_
    exact ⟨l, now, rfl, by show l.tot ≤ 2000; omega⟩
theorem d_DrawPut (code : List Int) (hl : code.length ≤ 1048576) : NdC Try.prog 6 [bytesV code] (fun rs => ∃ l c, rs = [XLine.v l, XCall.v c] ∧ tinyL l ∧ c.tot ≤ 100) := by
  refine ndC_of (Γ := lookT tbl) (il := ilist) tg dr Try.func6 rfl (by kernel_rfl) rfl (Nat.le_of_ble_eq_true rfl) ?_
  have hS := s_Size code hl 12
  have hs := size_b (n := code.length) (most := 12) (by decide)
  have hD := d_LineAny code (by omega) (sizeF code.length 12) (by omega) (by omega)
  have hC := d_Call code (by omega) 9
  have hB := d_Below code (by omega)
  have hI := fun l h => d_Int code (by omega) l h
  have newI := fun {k : Nat} (hb : (k : Int) < (code.map byteEl).length) => newI (L := code.map byteEl) (code := code) hb rfl
  have hL : (code.map byteEl).length ≤ 1048576 := by rw [List.length_map]; exact hl
  unfold bytesV bytesP at *
  generalize code.map byteEl = L at *
  conv => whnf
  refine inl_of (Γ := lookT tbl) (il := ilist) tg dr Try.func16 rfl (by kernel_rfl) rfl (ts := [22]) (Nat.le_of_ble_eq_true rfl) ?_
  conv => whnf
  refine loop_i (fun s : Nat × Int => ⟨envL [(0, .c (.pv (.sl 1 L))), (3, .c (.pv (.int .i64 s.2))), (4, .c (.pv (.int .i64 s.1)))], resL [(0, .box [.nil 9, .pv (.bool false), .pv (.int .i64 0), .pv (.int .i64 0), .pv (.int .i64 0), .pv (.int .i64 0), .pv (.int .i64 0), .pv (.int .i64 0), .nil 1, .nil 1, .pv (.int .i64 0), .pv (.int .i64 0), .pv (.int .i64 0), .pv (.int .i64 0), .pv (.int .i64 0), .pv (.int .i64 0), .pv (.int .i64 0)]), (1024, .box [.pv (.int .i64 0), .pv (.int .i64 0), .pv (.int .i64 0), .pv (.int .i64 0), .pv (.int .i64 0), .pv (.int .i64 0), .nil 1, .nil 1, .pv (.int .i64 0)]), (3072, .env [(0, .c (.pv (.sl 1 L))), (2, .c (.ptr 0 0)), (3, .c (.ptr 1024 0))])], 3072 + 1, 32⟩) (fun s => s.1 ≤ L.length) (fun s => L.length - s.1) (0, _) (Nat.zero_le _) (le_mk [] rfl ⟨⟨rfl, rfl⟩, ⟨rfl, rfl⟩, ⟨rfl, rfl⟩, trivial⟩ ⟨⟨rfl, rfl⟩, ⟨rfl, rfl⟩, ⟨⟨rfl, rfl⟩, _, rfl, ⟨rfl, rfl⟩, ⟨rfl, rfl⟩, ⟨rfl, rfl⟩, trivial⟩, trivial⟩ rfl) ?_
  rintro ⟨k, h⟩ hk
  dsimp only at hk
  conv => whnf
  refine br_i (fun hb => ?_) (fun hb => ?_)
  focus
    have hb : (k : Int) < L.length := by simpa using hb
    conv => whnf
    refine br_i (fun hb2 => ?_) (fun hb2 => ?_)
    focus
      conv => whnf
      refine ⟨_, ⟨⟨by omega, newI hb⟩, rfl⟩, ?_⟩
      conv => whnf
      exact ⟨(k + 1, _), ⟨by show k + 1 ≤ L.length; omega, by show L.length - (k + 1) < L.length - k; omega⟩, le_mk [] rfl ⟨⟨rfl, rfl⟩, ⟨rfl, rfl⟩, ⟨ctr (by omega), rfl⟩, trivial⟩ ⟨⟨rfl, rfl⟩, ⟨rfl, rfl⟩, ⟨⟨rfl, rfl⟩, _, rfl, ⟨rfl, rfl⟩, ⟨rfl, rfl⟩, ⟨rfl, rfl⟩, trivial⟩, trivial⟩ rfl⟩
  all_goals
    conv => whnf
    refine call_i hS ?_
    conv => whnf
    refine inl_cur (Γ := lookT tbl) [3] ?_
    conv => whnf
    refine cur_i hD (by decide) ?_
    rintro _ i h ⟨l, now, rfl, hd⟩ hi
    conv => whnf
    refine inl_cur (Γ := lookT tbl) [3] ?_
    conv => whnf
    refine cur_i hC hi ?_
    rintro _ i h ⟨c, rfl, _, _, _, hg⟩ hi
    obtain ⟨_, hW, hT⟩ := small_of hg
    conv => whnf
    refine inl_cur (Γ := lookT tbl) [3] ?_
    conv => whnf
    refine cur_i (hB 8 (by decide)) hi ?_
    rintro _ i h ⟨y, rfl, hy, hy2⟩ hi
    have h3 : y = 0 ∨ y = 1 ∨ 2 ≤ y := by omega
    rcases h3 with rfl | rfl | hy3
    · conv => whnf
      refine inl_of (Γ := lookT tbl) (il := ilist) tg dr Try.func21 rfl (by kernel_rfl) rfl (ts := [55, 28]) (Nat.le_of_ble_eq_true rfl) ?_
      conv => whnf
      refine inl_cur (Γ := lookT tbl) [3] ?_
      conv => whnf
      refine cur_i (hB 7 (by decide)) hi ?_
      rintro _ i h ⟨z, rfl, hz, hz2⟩ hi
      have h7 : z = 0 ∨ z = 1 ∨ z = 2 ∨ z = 3 ∨ z = 4 ∨ z = 5 ∨ z = 6 := by omega
      rcases h7 with rfl | rfl | rfl | rfl | rfl | rfl | rfl
      · conv => whnf
        refine inl_cur (Γ := lookT tbl) [3] ?_
        conv => whnf
        refine cur_i (hB 25 (by decide)) hi ?_
        rintro _ i h ⟨v, rfl, _, _⟩ hi
        conv => whnf
        refine And.intro rfl ?_
        conv => whnf
        refine leaf_i rfl rfl ?_
        exact ⟨l, { c with Req := { c.Req with Kind := v } }, rfl, hd, by show c.Req.Words.length + c.Req.Bits.length ≤ 100; omega⟩
      · conv => whnf
        refine inl_cur (Γ := lookT tbl) [25] ?_
        conv => whnf
        refine cur_i (hI [-1, 65535, 65536, 65530] (Nat.succ_pos _)) hi ?_
        rintro _ i h ⟨v, rfl, _⟩ hi
        conv => whnf
        refine And.intro rfl ?_
        conv => whnf
        refine leaf_i rfl rfl ?_
        exact ⟨l, { c with Req := { c.Req with At := v } }, rfl, hd, by show c.Req.Words.length + c.Req.Bits.length ≤ 100; omega⟩
      · conv => whnf
        refine inl_cur (Γ := lookT tbl) [25] ?_
        conv => whnf
        refine cur_i (hI [0, 1, 125, 126, 2000, 2001, -1] (Nat.succ_pos _)) hi ?_
        rintro _ i h ⟨v, rfl, _⟩ hi
        conv => whnf
        refine And.intro rfl ?_
        conv => whnf
        refine leaf_i rfl rfl ?_
        exact ⟨l, { c with Req := { c.Req with N := v } }, rfl, hd, by show c.Req.Words.length + c.Req.Bits.length ≤ 100; omega⟩
      · conv => whnf
        refine And.intro (fI c.Req.Words) ?_
        conv => whnf
        refine Exists.intro (c.Req.Words.map intEl) (And.intro (aI c.Req.Words (by omega)) ?_)
        conv => whnf
        refine inl_cur (Γ := lookT tbl) [25] ?_
        conv => whnf
        refine cur_i (hI [0, 65536, -1] (Nat.succ_pos _)) hi ?_
        rintro _ i h ⟨v, rfl, _⟩ hi
        conv => whnf
        refine And.intro (fI [v]) ?_
        conv => whnf
        refine ⟨(c.Req.Words ++ [v]).map intEl, ⟨by rw [List.length_map]; show (c.Req.Words.length + 1) * 8 ≤ _; omega, by rw [List.map_append]; rfl⟩, ?_⟩
        conv => whnf
        refine And.intro rfl ?_
        conv => whnf
        refine leaf_i rfl rfl ?_
        exact ⟨l, { c with Req := { c.Req with Words := c.Req.Words ++ [v] } }, rfl, hd, by show (c.Req.Words ++ [v]).length + c.Req.Bits.length ≤ 100; rw [List.length_append]; simp; omega⟩
      · conv => whnf
        refine And.intro (fB c.Req.Bits) ?_
        conv => whnf
        refine Exists.intro (c.Req.Bits.map boolEl) (And.intro (aB c.Req.Bits (by omega)) ?_)
        conv => whnf
        refine And.intro (fB [true]) ?_
        conv => whnf
        refine ⟨(c.Req.Bits ++ [true]).map boolEl, ⟨by rw [List.length_map]; show (c.Req.Bits.length + 1) * 1 ≤ _; omega, by rw [List.map_append]; rfl⟩, ?_⟩
        conv => whnf
        refine And.intro rfl ?_
        conv => whnf
        refine leaf_i rfl rfl ?_
        exact ⟨l, { c with Req := { c.Req with Bits := c.Req.Bits ++ [true] } }, rfl, hd, by show c.Req.Words.length + (c.Req.Bits ++ [true]).length ≤ 100; rw [List.length_append]; simp; omega⟩
      · conv => whnf
        refine inl_cur (Γ := lookT tbl) [25] ?_
        conv => whnf
        refine cur_i (hI [1, 65535, 65536] (Nat.succ_pos _)) hi ?_
        rintro _ i h ⟨v, rfl, _⟩ hi
        conv => whnf
        refine And.intro rfl ?_
        conv => whnf
        refine leaf_i rfl rfl ?_
        exact ⟨l, { c with Req := { c.Req with WAt := v } }, rfl, hd, by show c.Req.Words.length + c.Req.Bits.length ≤ 100; omega⟩
      · conv => whnf
        refine And.intro rfl ?_
        conv => whnf
        refine leaf_i rfl rfl ?_
        exact ⟨l, c, rfl, hd, by show c.Req.Words.length + c.Req.Bits.length ≤ 100; omega⟩
    · conv => whnf
      refine inl_cur (Γ := lookT tbl) [25] ?_
      conv => whnf
      refine cur_i (hI [0, 247, 248] (Nat.succ_pos _)) hi ?_
      rintro _ i h ⟨v, rfl, _⟩ hi
      conv => whnf
      refine And.intro rfl ?_
      conv => whnf
      refine leaf_i rfl rfl ?_
      exact ⟨l, { c with Unit := v }, rfl, hd, by show c.Req.Words.length + c.Req.Bits.length ≤ 100; omega⟩
    · have n0 : (y == 0) = false := by simp; omega
      have n1 : (y == 1) = false := by simp; omega
      conv => whnf
      refine br_i (fun h => absurd h (by rw [n0]; decide)) (fun _ => ?_)
      conv => whnf
      refine br_i (fun h => absurd h (by rw [n1]; decide)) (fun _ => ?_)
      conv => whnf
      refine And.intro rfl ?_
      conv => whnf
      refine leaf_i rfl rfl ?_
      exact ⟨l, c, rfl, hd, by show c.Req.Words.length + c.Req.Bits.length ≤ 100; omega⟩
theorem put_ok {l : XLine} {c : XCall} (h : lineOk l = true) (hc : specCall c = true) (hl : l.Queue.length ≠ 40) : lineOk { l with Queue := l.Queue ++ [c] } = true := by
  obtain ⟨h1, h2, h3, h4, h5, h6, h7⟩ := ok_parts h
  refine ok_mk h1 h2 (by show (l.Queue ++ [c]).length ≤ 40; rw [List.length_append]; simp; omega) h4 (fun x hx => ?_) ?_
  · rcases List.mem_append.1 hx with hx | hx
    · exact h5 x hx
    · simp at hx; rw [hx]; exact hc
  · show (l.Busy = true ∧ _) ∨ (l.Busy = false ∧ _)
    cases hb : l.Busy with
    | true => exact .inl ⟨rfl, h6 hb⟩
    | false => exact .inr ⟨rfl, h7 hb⟩
theorem put_tot (l : XLine) (c : XCall) : XLine.tot { l with Queue := l.Queue ++ [c] } = l.tot + 1 + c.tot := by
  have h1 := line_tot l
  have h2 : XLine.tot { l with Queue := l.Queue ++ [c] } = (l.Queue ++ [c]).length + sumF XCall.tot (l.Queue ++ [c]) + l.Call.tot := rfl
  rw [h2, h1, sumF_append, List.length_append]
  simp [sumF]
  omega
theorem l_sameReq (x y : XReq) : PureC Try.prog 9 [x.v, y.v] [boolv (decide (x = y))] := by
  refine pureC_of (Γ := lookT tbl) (il := ilist) tg dr Try.func9 rfl (by kernel_rfl) rfl (Nat.le_of_ble_eq_true rfl) ?_
  (repeat' ((conv => whnf); first | refine br_i (fun _ => ?_) (fun _ => ?_) | (refine cur_leaf rfl rfl rfl ?_ ?_; · first | assumption | omega | exact hw ‹_›) | refine leaf_i rfl rfl ?_ | refine And.intro rfl ?_ | refine call_i (eqSameI x.Words y.Words) ?_ | (refine Or.inl ?_; (conv => whnf); refine call_i (eqSameI x.Words y.Words) ?_) | refine call_i (eqSameO x.Bits y.Bits) ?_ | (refine Or.inl ?_; (conv => whnf); refine call_i (eqSameO x.Bits y.Bits) ?_) | (refine And.intro ?_ ?_; · decide)))
  all_goals (cases x; cases y; (refine bool_leaf ?_; first | (simp_all []; done) | (simp_all []; omega)))
theorem law_FnPut (code : List Int) (hw : ∀ q0, q0 ∈ code → (Lit.int .u8 q0).wf = true) : PureC Try.prog 3 [bytesV code] [boolv true] := by
  refine pureC_of (Γ := lookT tbl) (il := ilist) tg dr Try.func3 rfl (by kernel_rfl) rfl (Nat.le_of_ble_eq_true rfl) ?_
  conv => whnf
  refine call_i (l_big code) ?_
  conv => whnf
  refine br_i (fun h => ?_) (fun h => ?_)
  · conv => whnf
    exact leaf_i rfl rfl rfl
  have hlc : code.length ≤ 1048576 := by simp [bigB] at h; omega
  conv => whnf
  refine inl_nd (Γ := lookT tbl) [22] ?_
  conv => whnf
  refine nd_i (d_DrawPut code hlc) ?_
  rintro _ ⟨l, c, rfl, hl, hct⟩
  unfold tinyL at hl
  have hm := m_LinePut l c (by omega) (by omega)
  have hs := s_LinePut l c (by omega) (by omega)
  cases hP : (!lineOk l || !specCall c || decide ((l.Queue.length : Int) = 40)) with
  | true =>
    rw [show linePut l c = (l, false) by simp only [linePut, hP]; rfl] at hm hs
    (repeat' ((conv => whnf); first | refine br_i (fun _ => ?_) (fun _ => ?_) | (refine cur_leaf rfl rfl rfl ?_ ?_; · first | assumption | omega | exact hw ‹_›) | refine leaf_i rfl rfl ?_ | refine And.intro rfl ?_ | refine call_i (hm) ?_ | (refine Or.inl ?_; (conv => whnf); refine call_i (hm) ?_) | refine call_i (hs) ?_ | (refine Or.inl ?_; (conv => whnf); refine call_i (hs) ?_) | (refine And.intro ?_ ?_; · decide)))
    rw [show ((((l, false).fst.Queue.map XCall.ps).length : Int) == ((l.Queue.map XCall.ps).length : Int)) = true by simp]
    rfl
  | false =>
    have hP2 := hP
    simp at hP2
    obtain ⟨⟨hok, hcc⟩, h40⟩ := hP2
    rw [show linePut l c = ({ l with Queue := l.Queue ++ [c] }, true) by simp only [linePut, hP]; rfl] at hm hs
    have hk := m_LineOk { l with Queue := l.Queue ++ [c] }
    rw [put_ok hok hcc (by omega)] at hk
    have hq := l_sameReq c.Req c.Req
    rw [decide_eq_true rfl] at hq
    have hT := m_LineTick { l with Queue := l.Queue ++ [c] } 50 (by rw [put_tot]; omega)
    rw [tick_is (put_ok hok hcc (by omega)) (by decide)] at hT
    have i1 : ((IntKind.i64.wrap ((((l.Queue ++ [c]).map XCall.ps).length : Int) - 1) = (l.Queue.length : Nat) ∧ l.Queue.length < ((l.Queue ++ [c]).map XCall.ps).length) ∧ 9 = 9) := by
      have := line_tot l
      refine ⟨⟨?_, by simp⟩, rfl⟩
      rw [List.length_map, List.length_append]
      exact (wrap_ok (by simp only [List.length_cons, List.length_nil]; omega) (by simp only [List.length_cons, List.length_nil]; omega)).trans (by simp)
    have i2 : ((l.Queue ++ [c]).map XCall.ps)[l.Queue.length]? = some (XCall.ps c) := by simp
    (repeat' ((conv => whnf); first | refine br_i (fun _ => ?_) (fun _ => ?_) | (refine cur_leaf rfl rfl rfl ?_ ?_; · first | assumption | omega | exact hw ‹_›) | refine leaf_i rfl rfl ?_ | refine And.intro rfl ?_ | refine call_i (hm) ?_ | (refine Or.inl ?_; (conv => whnf); refine call_i (hm) ?_) | refine call_i (hs) ?_ | (refine Or.inl ?_; (conv => whnf); refine call_i (hs) ?_) | refine call_i (hk) ?_ | (refine Or.inl ?_; (conv => whnf); refine call_i (hk) ?_) | refine call_i (hq) ?_ | (refine Or.inl ?_; (conv => whnf); refine call_i (hq) ?_) | (refine ⟨l.Queue.length, i1, ?_⟩) | (refine ⟨_, ⟨rfl, i2⟩, ?_⟩) | (refine And.intro ?_ ?_; · decide)))
    all_goals (try (exfalso; rename_i hx; simp at hx; done))
    · rename_i hx
      refine absurd (hx.symm.trans ?_) (show ¬ true = false by decide)
      have := line_tot l
      rw [List.length_map, List.length_append, wrap_ok (by rw [List.length_map]; omega) (by rw [List.length_map]; omega)]
      simp
    · rfl
    · rfl
    · rename_i hB hb
      have hq0 := q_nil hb
      rw [tk_ask (l := { l with Queue := l.Queue ++ [c] }) (c := c) (q := []) hB (by show l.Queue ++ [c] = [c]; rw [hq0]; rfl)] at hT
      (repeat' ((conv => whnf); first | refine br_i (fun _ => ?_) (fun _ => ?_) | (refine cur_leaf rfl rfl rfl ?_ ?_; · first | assumption | omega | exact hw ‹_›) | refine leaf_i rfl rfl ?_ | refine And.intro rfl ?_ | refine call_i (hT) ?_ | (refine Or.inl ?_; (conv => whnf); refine call_i (hT) ?_) | refine call_i (hq) ?_ | (refine Or.inl ?_; (conv => whnf); refine call_i (hq) ?_) | (refine ⟨0, ⟨⟨rfl, Nat.succ_pos _⟩, rfl⟩, ?_⟩) | (refine ⟨_, ⟨rfl, rfl⟩, ?_⟩) | (refine And.intro ?_ ?_; · decide)))
      · exact congrArg (fun b => [VV.one (PV.bool b)]) (beq_self_eq_true ((wrap64 (l.Next + 1)).tmod 65536))
      · rename_i hx
        exact absurd (hx.symm.trans (beq_self_eq_true c.Unit)) (by decide)
      · rename_i hx
        exact absurd (hx.symm.trans (beq_self_eq_true l.Next)) (by decide)

end Go.Proofs.Ytciiiandmpjndaa
