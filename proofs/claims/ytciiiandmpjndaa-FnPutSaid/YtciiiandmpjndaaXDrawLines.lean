/- What is drawn: calls, answers, lines. -/
import Derived.Test.YtciiiandmpjndaaXLineNew
namespace Go.Proofs.Ytciiiandmpjndaa
open Go Go.Vi
set_option linter.unusedVariables false
set_option linter.unusedSimpArgs false
set_option maxRecDepth 100000
def smallQ (r : XReq) : Prop := (0 ≤ r.N ∧ r.N ≤ 6) ∧ r.Words.length ≤ 6 ∧ r.Bits.length ≤ 13
theorem small_of {n : Int} {r : XReq} (h : goodR n r) : smallQ r := ⟨h.2.2.1, h.2.2.2.1⟩
theorem d_Call (code : List Int) (hl : code.length ≤ 9223372036854775807) (id : Int) : CurC Try.prog 19 1 (code.map byteEl) [i64v id] (fun rs => ∃ c : XCall, rs = [c.v] ∧ c.Id = id ∧ (0 ≤ c.Part ∧ c.Part < 3) ∧ (1 ≤ c.Unit ∧ c.Unit ≤ 3) ∧ goodR 0 c.Req) := by
  refine curC_of (Γ := lookT tbl) (il := ilist) tg dr Try.func19 rfl (by kernel_rfl) rfl (Nat.le_of_ble_eq_true rfl) ?_
  intro i h hi
  have hB := d_Below code hl
  have hR := d_Req code hl 0 (by decide) (by decide)
  generalize code.map byteEl = L at *
  conv => whnf
  refine inl_cur (Γ := lookT tbl) [3] ?_
  conv => whnf
  refine cur_i (hB 3 (by decide)) hi ?_
  rintro _ i h ⟨x, rfl, hx, hx2⟩ hi
  conv => whnf
  refine inl_cur (Γ := lookT tbl) [3] ?_
  conv => whnf
  refine cur_i (hB 3 (by decide)) hi ?_
  rintro _ i h ⟨y, rfl, hy, hy2⟩ hi
  conv => whnf
  refine inl_cur (Γ := lookT tbl) [3] ?_
  conv => whnf
  refine cur_i hR hi ?_
  rintro _ i h ⟨r, rfl, hr⟩ hi
  conv => whnf
  refine cur_leaf rfl rfl rfl hi ?_
  exact ⟨⟨id, x, 1 + y, r⟩, by rw [show IntKind.i64.wrap (1 + y) = 1 + y from wrap_ok (by omega) (by omega)]; rfl, rfl, ⟨hx, hx2⟩, by show 1 ≤ 1 + y ∧ 1 + y ≤ 3; omega, hr⟩
theorem fB (l : List Bool) : (1 = 1) ∧ Flat (l.map boolEl) := ⟨rfl, flat_bool l⟩
theorem fI (l : List Int) : (1 = 1) ∧ Flat (l.map intEl) := ⟨rfl, flat_int l⟩
theorem aB (l : List Bool) (h : l.length ≤ 1048576) : (0 + (l.map boolEl).length) * 1 ≤ 140737488355328 ∧ l.map boolEl = [] ++ l.map boolEl := ⟨app_b l h, rfl⟩
theorem aI (l : List Int) (h : l.length ≤ 1048576) : (0 + (l.map intEl).length) * 8 ≤ 140737488355328 ∧ l.map intEl = [] ++ l.map intEl := ⟨app_i l h, rfl⟩
theorem tl1 (k : Int) (W : List Int) {n : Int} (h : (W.length : Int) = n) (h2 : n ≤ 6) : ∃ a : XResp, [VV.agg [.int .i64 k, .int .i64 0, .int .i64 0, .int .i64 0, .sl 1 (W.map intEl), .sl 1 []]] = [a.v] ∧ a.tot ≤ 40 := ⟨⟨k, 0, 0, 0, W, []⟩, rfl, by show W.length + 0 ≤ 40; omega⟩
theorem tl2 (k a_ : Int) (B : List Bool) (h : B.length ≤ 13) : ∃ a : XResp, [VV.agg [.int .i64 k, .int .i64 0, .int .i64 a_, .int .i64 0, .sl 1 [], .sl 1 (B.map boolEl)]] = [a.v] ∧ a.tot ≤ 40 := ⟨⟨k, 0, a_, 0, [], B⟩, rfl, by show 0 + B.length ≤ 40; omega⟩
theorem tl3 (k a_ : Int) (W : List Int) (h : W.length ≤ 6) : ∃ a : XResp, [VV.agg [.int .i64 k, .int .i64 0, .int .i64 a_, .int .i64 0, .sl 1 (W.map intEl), .sl 1 []]] = [a.v] ∧ a.tot ≤ 40 := ⟨⟨k, 0, a_, 0, W, []⟩, rfl, by show W.length + 0 ≤ 40; omega⟩
theorem tl4 (k a_ n : Int) : ∃ a : XResp, [VV.agg [.int .i64 k, .int .i64 0, .int .i64 a_, .int .i64 n, .sl 1 [], .sl 1 []]] = [a.v] ∧ a.tot ≤ 40 := ⟨⟨k, 0, a_, n, [], []⟩, rfl, Nat.zero_le _⟩
theorem d_Tell (code : List Int) (hl : code.length ≤ 9223372036854775807) (q : XReq) (hq : smallQ q) : CurC Try.prog 61 1 (code.map byteEl) [q.v] (fun rs => ∃ a : XResp, rs = [a.v] ∧ a.tot ≤ 40) := by
  refine curC_of (Γ := lookT tbl) (il := ilist) tg dr Try.func61 rfl (by kernel_rfl) rfl (Nat.le_of_ble_eq_true rfl) ?_
  intro i h hi
  have hB := d_Below code hl
  have hO := d_Once code hl 6 (by decide)
  have hT := d_Bits code hl q.N (by have := hq.1; omega) (by have := hq.1; omega)
  have hL := d_List code hl q.N (by have := hq.1; omega) (by have := hq.1; omega)
  obtain ⟨⟨hN, hN2⟩, hW, hQ⟩ := hq
  generalize code.map byteEl = L at *
  conv => whnf
  refine inl_cur (Γ := lookT tbl) [3] ?_
  conv => whnf
  refine cur_i hO hi ?_
  rintro _ i h ⟨x, rfl⟩ hi
  conv => whnf
  refine br_i (fun hb => ?_) (fun hb => ?_)
  · conv => whnf
    refine And.intro rfl ?_
    conv => whnf
    refine cur_i (hB 11 (by decide)) hi ?_
    rintro _ i h ⟨y, rfl, _, _⟩ hi
    conv => whnf
    refine And.intro rfl ?_
    conv => whnf
    refine cur_leaf rfl rfl rfl hi ?_
    exact ⟨⟨q.Kind, IntKind.i64.wrap (1 + y), 0, 0, [], []⟩, rfl, Nat.zero_le _⟩
  clear hb
  (repeat' ((conv => whnf); first | refine br_i (fun _ => ?_) (fun _ => ?_) | (refine cur_leaf rfl rfl rfl ?_ ?_; · first | assumption | omega | exact hw ‹_›) | refine leaf_i rfl rfl ?_ | refine And.intro rfl ?_ | ((refine inl_cur (Γ := lookT tbl) [3] ?_; (conv => whnf); refine cur_i hT hi ?_; rintro _ i2 h2 ⟨B, rfl, hBl⟩ hi2)) | ((refine inl_cur (Γ := lookT tbl) [3] ?_; (conv => whnf); refine cur_i hL hi ?_; rintro _ i2 h2 ⟨W, rfl, hWl, _⟩ hi2)) | (refine And.intro (fB q.Bits) ?_) | (refine And.intro (fI q.Words) ?_) | (refine Exists.intro (q.Bits.map boolEl) (And.intro (aB q.Bits (by omega)) ?_)) | (refine Exists.intro (q.Words.map intEl) (And.intro (aI q.Words (by omega)) ?_)) | (refine And.intro ?_ ?_; · decide)))
  all_goals try exact tl1 _ _ hWl hN2
  all_goals try exact tl2 _ _ _ hQ
  all_goals try exact tl3 _ _ _ hW
  all_goals try exact tl4 _ _ _
  all_goals
    conv => whnf
    have hBn : B.length ≤ 6 := by omega
    refine loop_i (fun s : Nat => ⟨envL [(0, .c (.ptr 0 0)), (4, .c (.ptr 4 0)), (5, .c (.ptr 3 0))], resL [(0, .box [.row 1, .pv (.int .i64 i2), .pv (.int .i64 h2)]), (1, .ro 1 L), (2, .env [(0, .c (.ptr 0 0)), (1, .c (.row 1))]), (3, .box [.pv (.int .i64 q.Kind), .pv (.int .i64 0), .pv (.int .i64 0), .pv (.int .i64 0), .nil 1, .row 5]), (4, .box [.pv (.int .i64 0), .pv (.int .i64 0), .pv (.int .i64 0), .pv (.int .i64 0), .nil 1, .nil 1]), (5, .row true 1 ((B ++ List.replicate s false).map boolEl))], 6, 84⟩) (fun s => s ≤ (8 - B.length % 8) % 8) (fun s => 8 - s) 0 (Nat.zero_le _)
      (le_mk [(3, _), (4, _), (5, _)] rfl ⟨⟨rfl, rfl⟩, ⟨rfl, rfl⟩, ⟨rfl, rfl⟩, trivial⟩ ⟨⟨rfl, rfl⟩, ⟨rfl, rfl⟩, ⟨⟨rfl, rfl⟩, _, rfl, ⟨rfl, rfl⟩, ⟨rfl, rfl⟩, trivial⟩, ⟨rfl, rfl⟩, ⟨rfl, rfl⟩, ⟨by rw [List.replicate_zero, List.append_nil]; exact ⟨rfl, rfl⟩, trivial⟩⟩ rfl) ?_
    intro s hs
    have hlen : ((B ++ List.replicate s false).map boolEl).length = B.length + s := by simp
    conv => whnf
    refine ⟨by decide, ?_⟩
    conv => whnf
    rw [hlen]
    refine br_i (fun hc => ?_) (fun hc => ?_)
    · have hc : ((B.length + s : Nat) : Int).tmod 8 ≠ 0 := by simpa using hc
      rw [Int.tmod_eq_emod_of_nonneg (by omega)] at hc
      conv => whnf
      refine And.intro (fB [false]) ?_
      conv => whnf
      refine ⟨(B ++ List.replicate (s + 1) false).map boolEl, ⟨by rw [hlen]; show (B.length + s + 1) * 1 ≤ 140737488355328; omega, by rw [List.replicate_succ', ← List.append_assoc, List.map_append]; rfl⟩, ?_⟩
      conv => whnf
      exact ⟨s + 1, ⟨by omega, by show 8 - (s + 1) < 8 - s; omega⟩, le_mk [(3, _), (4, _), (5, _)] rfl ⟨⟨rfl, rfl⟩, ⟨rfl, rfl⟩, ⟨rfl, rfl⟩, trivial⟩ ⟨⟨rfl, rfl⟩, ⟨rfl, rfl⟩, ⟨⟨rfl, rfl⟩, _, rfl, ⟨rfl, rfl⟩, ⟨rfl, rfl⟩, trivial⟩, ⟨rfl, rfl⟩, ⟨rfl, rfl⟩, ⟨rfl, rfl⟩, trivial⟩ rfl⟩
    · conv => whnf
      refine cur_leaf rfl rfl rfl hi2 ?_
      exact tl2 _ _ (B ++ List.replicate s false) (by rw [List.length_append, List.length_replicate]; omega)
/-- A line that was drawn. -/
structure DL (l : XLine) (now : Int) (k : Nat) : Prop where
  fine : Fine l now
  wait : l.Wait ≤ 4
  tries : l.Tries ≤ 2
  len : l.Queue.length ≤ k
  small : ∀ c ∈ l.Queue, smallQ c.Req
  call : smallQ l.Call.Req
theorem small_zero : smallQ XCall.zero.Req := ⟨⟨by decide, by decide⟩, Nat.zero_le _, Nat.zero_le _⟩
theorem small_tot {c : XCall} (h : smallQ c.Req) : c.tot ≤ 19 := by
  have h1 : c.tot = c.Req.Words.length + c.Req.Bits.length := rfl
  obtain ⟨_, h2, h3⟩ := h
  omega
theorem sum_small {l : List XCall} (h : ∀ c ∈ l, smallQ c.Req) : sumF XCall.tot l ≤ 19 * l.length := by
  induction l with
  | nil => exact Nat.le_refl _
  | cons c l ih =>
    have h1 := ih fun x hx => h x (List.mem_cons_of_mem _ hx)
    have h2 := small_tot (h c (List.mem_cons_self ..))
    show c.tot + sumF XCall.tot l ≤ 19 * (l.length + 1)
    omega
theorem DL.tot {l : XLine} {now : Int} {k : Nat} (h : DL l now k) : l.tot ≤ 20 * k + 19 := by
  have h1 := line_tot l
  have h2 := sum_small h.small
  have h3 := small_tot h.call
  have h4 := h.len
  omega
theorem dl_new {w t nx now : Int} (hw : 1 ≤ w ∧ w ≤ 4) (ht : 0 ≤ t ∧ t ≤ 2) (hx : 0 ≤ nx ∧ nx ≤ 65535) (hn : tickB now = true) : DL { lineNew w t with Next := nx } now 0 := by
  have e : lineNew w t = { XLine.zero with Wait := w, Tries := t } := by
    unfold lineNew
    rw [if_pos]
    simp [inB]
    omega
  rw [e]
  refine ⟨⟨ok_mk (by show 1 ≤ w ∧ w ≤ 100; omega) (by show 0 ≤ t ∧ t ≤ 5; omega) (Nat.zero_le _) hx (fun c hc => by cases hc) (.inr ⟨rfl, rfl, rfl, rfl, rfl⟩), hn, fun h => (by cases h)⟩, hw.2, ht.2, Nat.le_refl _, fun c hc => (by cases hc), small_zero⟩
theorem dl_put {l : XLine} {now : Int} {k : Nat} {c : XCall} (h : DL l now k) (hc : smallQ c.Req) : DL (linePut l c).1 now (k + 1) := by
  unfold linePut
  split
  · exact ⟨h.fine, h.wait, h.tries, Nat.le_succ_of_le h.len, h.small, h.call⟩
  · rename_i hp
    simp at hp
    obtain ⟨⟨hok, hcc⟩, hl⟩ := hp
    obtain ⟨h1, h2, h3, h4, h5, h6, h7⟩ := ok_parts hok
    refine ⟨⟨ok_mk h1 h2 (by show (l.Queue ++ [c]).length ≤ 40; rw [List.length_append]; simp; omega) h4 (fun x hx => ?_) ?_, h.fine.tick, h.fine.gap⟩, h.wait, h.tries, by show (l.Queue ++ [c]).length ≤ k + 1; rw [List.length_append]; have := h.len; simp; omega, fun x hx => ?_, h.call⟩
    · rcases List.mem_append.1 hx with hx | hx
      · exact h5 x hx
      · simp at hx; rw [hx]; exact hcc
    · show (l.Busy = true ∧ _) ∨ (l.Busy = false ∧ _)
      cases hb : l.Busy with
      | true => exact .inl ⟨rfl, h6 hb⟩
      | false => exact .inr ⟨rfl, h7 hb⟩
    · rcases List.mem_append.1 hx with hx | hx
      · exact h.small x hx
      · simp at hx; rw [hx]; exact hc
theorem tick_small {l : XLine} {now : Int} (h1 : ∀ c ∈ l.Queue, smallQ c.Req) (h2 : smallQ l.Call.Req) : (∀ c ∈ (lineTickF l now).1.Queue, smallQ c.Req) ∧ smallQ (lineTickF l now).1.Call.Req ∧ (lineTickF l now).1.Queue.length ≤ l.Queue.length := by
  have asked : ∀ c q, l.Queue = c :: q → (∀ c ∈ (askedL l c q now).Queue, smallQ c.Req) ∧ smallQ (askedL l c q now).Call.Req ∧ (askedL l c q now).Queue.length ≤ l.Queue.length := fun c q hq =>
    ⟨fun x hx => h1 x (by rw [hq]; exact List.mem_cons_of_mem _ hx), h1 c (by rw [hq]; exact List.mem_cons_self ..), by rw [hq]; exact Nat.le_succ _⟩
  cases hB : l.Busy with
  | true => cases hD : tickDue now l.Due with
    | true =>
      by_cases hL : l.Left > 0
      · rw [tk_left hB hD hL]; exact ⟨h1, h2, Nat.le_refl _⟩
      · cases hq : l.Queue with
        | nil => rw [tk_fnone hB hD hL hq]; exact ⟨h1, small_zero, by show l.Queue.length ≤ _; rw [hq]; exact Nat.le_refl _⟩
        | cons c q => rw [tk_fask hB hD hL hq, ← hq]; exact asked c q hq
    | false => rw [tk_wait hB hD]; exact ⟨h1, h2, Nat.le_refl _⟩
  | false => cases hq : l.Queue with
    | nil => rw [tk_none hB hq]; exact ⟨h1, h2, by rw [hq]; exact Nat.le_refl _⟩
    | cons c q => rw [tk_ask hB hq, ← hq]; exact asked c q hq
theorem dl_tick {l : XLine} {now : Int} {k : Nat} (h : DL l now k) : DL (lineTick l (tickOn now 1)).1 (tickOn now 1) k := by
  have e2 := (tickOn_b h.fine.tick (show tickB 1 = true by decide)).2
  rw [tick_is h.fine.ok e2]
  have ht := (tick_told h.fine).1
  have hs := tick_small (now := tickOn now 1) h.small h.call
  exact ⟨ht.fine, by rw [ht.wait]; exact h.wait, by rw [ht.tries]; exact h.tries, Nat.le_trans hs.2.2 h.len, hs.1, hs.2.1⟩
theorem dl_hear {l : XLine} {now : Int} {k : Nat} (h : DL l now k) (n u : Int) (a : XResp) : DL (lineHear l n u a).1 now k := by
  unfold lineHear
  split
  · exact ⟨⟨free_ok h.fine.ok, h.fine.tick, fun h => (by cases h)⟩, h.wait, h.tries, h.len, h.small, small_zero⟩
  · exact h
set_option maxHeartbeats 1000000 in
theorem d_Line (code : List Int) (hl : code.length ≤ 9223372036854775807) (most : Int) (hm : 0 < most) (hm2 : most ≤ 20) : CurC Try.prog 38 1 (code.map byteEl) [i64v most] (fun rs => ∃ l now, rs = [XLine.v l, i64v now] ∧ DL l now 20) := by
  refine curC_of (Γ := lookT tbl) (il := ilist) tg dr Try.func38 rfl (by kernel_rfl) rfl (Nat.le_of_ble_eq_true rfl) ?_
  intro i h hi
  have hI := d_Int code hl
  have hB := d_Below code hl
  have hC := d_Call code hl
  have hT := d_Tell code hl
  generalize code.map byteEl = L at *
  conv => whnf
  refine inl_cur (Γ := lookT tbl) [3] ?_
  conv => whnf
  refine cur_i (hB 4 (by decide)) hi ?_
  rintro _ i h ⟨w, rfl, hw, hw2⟩ hi
  conv => whnf
  refine inl_cur (Γ := lookT tbl) [3] ?_
  conv => whnf
  refine cur_i (hB 3 (by decide)) hi ?_
  rintro _ i h ⟨t, rfl, ht, ht2⟩ hi
  conv => whnf
  rw [wrap_ok (x := 1 + w) (by omega) (by omega)]
  refine call_i (s_LineNew (1 + w) t) ?_
  conv => whnf
  refine inl_cur (Γ := lookT tbl) [25] ?_
  conv => whnf
  refine cur_i (hI [0, 65535, 7] (Nat.succ_pos _)) hi ?_
  rintro _ i h ⟨nx, rfl, hnx⟩ hi
  conv => whnf
  refine inl_cur (Γ := lookT tbl) [25] ?_
  conv => whnf
  refine cur_i (hI [0, 100, 4294967293] (Nat.succ_pos _)) hi ?_
  rintro _ i h ⟨now, rfl, hnow⟩ hi
  conv => whnf
  refine inl_cur (Γ := lookT tbl) [3] ?_
  conv => whnf
  refine cur_i (hB most hm) hi ?_
  rintro _ i h ⟨x, rfl, hx, hx2⟩ hi
  have h0 : DL { lineNew (1 + w) t with Next := nx } now 0 := dl_new (by omega) (by omega) (by simp at hnx; omega) (by simp at hnow; rcases hnow with rfl | rfl | rfl <;> decide)
  generalize lineNew (1 + w) t = l0 at *
  conv => whnf
  refine loop_i (fun s : Nat × XLine × Int × Int × Int => ⟨envL [(0, .c (.ptr 0 0)), (4, .c (.ptr 7 0)), (6, .c (.ptr 3 0)), (7, .c (.pv (.int .i64 s.2.2.1))), (8, .c (.pv (.int .i64 s.1)))],
      resL [(0, .box [.row 1, .pv (.int .i64 s.2.2.2.1), .pv (.int .i64 s.2.2.2.2)]), (1, .ro 1 L), (2, .env [(0, .c (.ptr 0 0)), (1, .c (.row 1))]),
        (3, .box [.row 4, .pv (.bool s.2.1.Busy), .pv (.int .i64 s.2.1.Call.Id), .pv (.int .i64 s.2.1.Call.Part), .pv (.int .i64 s.2.1.Call.Unit), .pv (.int .i64 s.2.1.Call.Req.Kind), .pv (.int .i64 s.2.1.Call.Req.At), .pv (.int .i64 s.2.1.Call.Req.N), .row 5, .row 6, .pv (.int .i64 s.2.1.Call.Req.WAt), .pv (.int .i64 s.2.1.Number), .pv (.int .i64 s.2.1.Due), .pv (.int .i64 s.2.1.Left), .pv (.int .i64 s.2.1.Next), .pv (.int .i64 s.2.1.Wait), .pv (.int .i64 s.2.1.Tries)]),
        (4, .row true 9 (s.2.1.Queue.map XCall.ps)), (5, .row true 1 (s.2.1.Call.Req.Words.map intEl)), (6, .row true 1 (s.2.1.Call.Req.Bits.map boolEl)), (7, .box [.nil 9, .pv (.bool false), .pv (.int .i64 0), .pv (.int .i64 0), .pv (.int .i64 0), .pv (.int .i64 0), .pv (.int .i64 0), .pv (.int .i64 0), .nil 1, .nil 1, .pv (.int .i64 0), .pv (.int .i64 0), .pv (.int .i64 0), .pv (.int .i64 0), .pv (.int .i64 0), .pv (.int .i64 0), .pv (.int .i64 0)])], 8, 71⟩)
    (fun s => (s.1 ≤ x.toNat ∧ DL s.2.1 s.2.2.1 (x.toNat - s.1)) ∧ 0 ≤ s.2.2.2.1) (fun s => s.1) (x.toNat, { l0 with Next := nx }, now, i, h) ⟨⟨Nat.le_refl _, by show DL _ _ (x.toNat - x.toNat); rw [Nat.sub_self]; exact h0⟩, hi⟩
    (le_mk [(3, _), (4, _), (5, _), (6, _), (7, _)] rfl ⟨⟨rfl, rfl⟩, ⟨rfl, rfl⟩, ⟨rfl, rfl⟩, ⟨rfl, rfl⟩, ⟨i64_eq (by show x = (x.toNat : Int); omega), rfl⟩, trivial⟩ ⟨⟨rfl, rfl⟩, ⟨rfl, rfl⟩, ⟨⟨rfl, rfl⟩, _, rfl, ⟨rfl, rfl⟩, ⟨rfl, rfl⟩, trivial⟩, ⟨rfl, rfl⟩, ⟨rfl, rfl⟩, ⟨rfl, rfl⟩, ⟨rfl, rfl⟩, ⟨rfl, rfl⟩, trivial⟩ rfl) ?_
  rintro ⟨k, l, now, i, h⟩ ⟨⟨hk, hd⟩, hi⟩
  dsimp only at hk hd hi
  clear h0
  have htot := hd.tot
  conv => whnf
  refine br_i (fun hb => ?_) (fun hb => ?_)
  · have hk0 : 0 < k := by simpa using hb
    have hle : ((k : Int) - 1) = ((k - 1 : Nat) : Int) := by omega
    clear hb
    conv => whnf
    refine inl_cur (Γ := lookT tbl) [3] ?_
    conv => whnf
    refine cur_i (hB 5 (by decide)) hi ?_
    rintro _ i h ⟨y, rfl, _, _⟩ hi
    have hwr : IntKind.i64.wrap ((k : Int) - 1) = ((k - 1 : Nat) : Int) := by rw [hle]; exact wrap_ok (by omega) (by omega)
    have hy : (y = 0 ∨ y = 1) ∨ (y = 2 ∨ y = 3) ∨ y = 4 := by omega
    rcases hy with hy | hy | rfl
    · rcases hy with rfl | rfl
      all_goals
        conv => whnf
        refine And.intro rfl ?_
        conv => whnf
        refine cur_i (hC k) hi ?_
        rintro _ i h ⟨c, rfl, _, _, _, hg⟩ hi
        conv => whnf
        refine call_i (s_LinePut l c (by omega) (by have := small_tot (small_of hg); omega)) ?_
        have hd2 := dl_put hd (small_of hg)
        generalize linePut l c = R at *
        obtain ⟨l2, b2⟩ := R
        conv => whnf
        refine And.intro rfl ?_
        conv => whnf
        exact ⟨(k - 1, l2, now, i, h), ⟨⟨⟨by show k - 1 ≤ x.toNat; omega, by show DL l2 now (x.toNat - (k - 1)); rw [show x.toNat - (k - 1) = x.toNat - k + 1 by omega]; exact hd2⟩, hi⟩, by show k - 1 < k; omega⟩, le_mk [(3, _), (4, _), (5, _), (6, _)] rfl ⟨⟨rfl, rfl⟩, ⟨rfl, rfl⟩, ⟨rfl, rfl⟩, ⟨rfl, rfl⟩, ⟨i64_eq hwr, rfl⟩, trivial⟩ ⟨⟨rfl, rfl⟩, ⟨rfl, rfl⟩, ⟨⟨rfl, rfl⟩, _, rfl, ⟨rfl, rfl⟩, ⟨rfl, rfl⟩, trivial⟩, ⟨rfl, rfl⟩, ⟨rfl, rfl⟩, ⟨rfl, rfl⟩, ⟨rfl, rfl⟩, ⟨rfl, rfl⟩, trivial⟩ rfl⟩
    · have hd2 := dl_tick hd
      rcases hy with rfl | rfl
      all_goals
        conv => whnf
        refine call_i (s_TickOn now 1) ?_
        conv => whnf
        refine call_i (s_LineTick l (tickOn now 1) (by omega)) ?_
        generalize lineTick l (tickOn now 1) = R at *
        obtain ⟨l2, o2, d2⟩ := R
        conv => whnf
        exact ⟨(k - 1, l2, tickOn now 1, i, h), ⟨⟨⟨by show k - 1 ≤ x.toNat; omega, hd2.fine, hd2.wait, hd2.tries, by show l2.Queue.length ≤ x.toNat - (k - 1); have := hd2.len; dsimp only at this; omega, hd2.small, hd2.call⟩, hi⟩, by show k - 1 < k; omega⟩, le_mk [(3, _), (4, _), (5, _), (6, _)] rfl ⟨⟨rfl, rfl⟩, ⟨rfl, rfl⟩, ⟨rfl, rfl⟩, ⟨rfl, rfl⟩, ⟨i64_eq hwr, rfl⟩, trivial⟩ ⟨⟨rfl, rfl⟩, ⟨rfl, rfl⟩, ⟨⟨rfl, rfl⟩, _, rfl, ⟨rfl, rfl⟩, ⟨rfl, rfl⟩, trivial⟩, ⟨rfl, rfl⟩, ⟨rfl, rfl⟩, ⟨rfl, rfl⟩, ⟨rfl, rfl⟩, ⟨rfl, rfl⟩, trivial⟩ rfl⟩
    · conv => whnf
      refine And.intro rfl ?_
      conv => whnf
      refine cur_i (hT l.Call.Req hd.call) hi ?_
      rintro _ i h ⟨a, rfl, ha⟩ hi
      conv => whnf
      refine call_i (s_LineHear l l.Number l.Call.Unit a (by omega) (by omega)) ?_
      have hd2 := dl_hear hd l.Number l.Call.Unit a
      generalize lineHear l l.Number l.Call.Unit a = R at *
      obtain ⟨l2, d2⟩ := R
      conv => whnf
      refine And.intro rfl ?_
      conv => whnf
      exact ⟨(k - 1, l2, now, i, h), ⟨⟨⟨by show k - 1 ≤ x.toNat; omega, hd2.fine, hd2.wait, hd2.tries, by show l2.Queue.length ≤ x.toNat - (k - 1); have := hd2.len; dsimp only at this; omega, hd2.small, hd2.call⟩, hi⟩, by show k - 1 < k; omega⟩, le_mk [(3, _), (4, _), (5, _), (6, _)] rfl ⟨⟨rfl, rfl⟩, ⟨rfl, rfl⟩, ⟨rfl, rfl⟩, ⟨rfl, rfl⟩, ⟨i64_eq hwr, rfl⟩, trivial⟩ ⟨⟨rfl, rfl⟩, ⟨rfl, rfl⟩, ⟨⟨rfl, rfl⟩, _, rfl, ⟨rfl, rfl⟩, ⟨rfl, rfl⟩, trivial⟩, ⟨rfl, rfl⟩, ⟨rfl, rfl⟩, ⟨rfl, rfl⟩, ⟨rfl, rfl⟩, ⟨rfl, rfl⟩, trivial⟩ rfl⟩
  · conv => whnf
    refine cur_leaf rfl rfl rfl hi ?_
    refine ⟨l, now, rfl, hd.fine, hd.wait, hd.tries, ?_, hd.small, hd.call⟩
    have := hd.len
    omega

end Go.Proofs.Ytciiiandmpjndaa
