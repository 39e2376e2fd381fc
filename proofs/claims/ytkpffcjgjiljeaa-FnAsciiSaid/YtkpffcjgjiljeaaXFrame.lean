/- What is drawn: frames' bytes. -/
import Derived.Test.YtkpffcjgjiljeaaXDraw
namespace Go.Proofs.Ytkpffcjgjiljeaa
open Go Go.Vi
set_option linter.unusedVariables false
set_option linter.unusedSimpArgs false
set_option maxRecDepth 100000
theorem word_b {n : Int} (h : 0 ≤ n ∧ n < 65536) : isBytes (wordL n) := by
  intro x hx
  simp [wordL] at hx
  omega
theorem bytes_app {l m : List Int} (h : isBytes l) (h2 : isBytes m) : isBytes (l ++ m) := by
  intro x hx
  rcases List.mem_append.1 hx with hx | hx
  · exact h x hx
  · exact h2 x hx
def putW (b : List Int) (l : List Int) : List Int := b ++ l.flatMap wordL
theorem putW_take (b l : List Int) (k : Nat) (h : k < l.length) : putW b (l.take k) ++ wordL l[k] = putW b (l.take (k + 1)) := by
  unfold putW
  rw [List.take_succ_eq_append_getElem h, List.flatMap_append, List.append_assoc]
  simp
theorem putW_len (b l : List Int) : (putW b l).length = b.length + 2 * l.length := by
  unfold putW
  induction l with
  | nil => simp
  | cons a l ih => simp [wordL] at ih ⊢; omega
theorem putW_b {b l : List Int} (h : isBytes b) (hl : words l) : isBytes (putW b l) := by
  refine bytes_app h fun x hx => ?_
  obtain ⟨n, hn, hx⟩ := List.mem_flatMap.1 hx
  exact word_b (hl n hn) x hx
theorem s_PutWords (b l : List Int) (h0 : 0 < l.length) (hb : b.length ≤ 10000) (hl : l.length ≤ 10000) (hw : words l) : PureC Try.prog 76 [bytesV b, intsV l] [bytesV (putW b l)] := by
  refine pureC_of (Γ := lookT tbl) (il := ilist) tg dr Try.func76 rfl (by kernel_rfl) rfl (Nat.le_of_ble_eq_true rfl) ?_
  conv => whnf
  refine loop_i (fun k : Nat => ⟨envL [(0, match k with | 0 => .c (.pv (bytesP b)) | _ + 1 => .c (.row 0)), (1, .c (.pv (intsP l))), (5, .c (.pv (.int .i64 k)))], match k with | 0 => resL [] | k + 1 => resL [(0, .row true 1 ((putW b (l.take (k + 1))).map byteEl))], 1, 19⟩) (fun k => k ≤ l.length) (fun k => l.length - k) 0 (Nat.zero_le _) (le_mk [] rfl ⟨⟨rfl, rfl⟩, ⟨rfl, rfl⟩, ⟨rfl, rfl⟩, trivial⟩ trivial rfl) ?_
  intro k hk
  have hlen := putW_len b (l.take k)
  rw [List.length_take] at hlen
  have hP := fun (h : k < l.length) => s_PutWord (putW b (l.take k)) l[k] (hw _ (List.getElem_mem h)) (by omega)
  have hT := fun (h : k < l.length) => putW_take b l k h
  cases k with
  | zero =>
    conv => whnf
    refine br_i (fun h => ?_) (fun h => ?_)
    · have hlt : 0 < l.length := by simpa using h
      conv => whnf
      refine ⟨_, idx_map l intEl 0 hlt 1, ?_⟩
      conv => whnf
      have hP := hP hlt
      rw [show putW b (l.take 0) = b by simp [putW]] at hP
      refine call_i hP ?_
      conv => whnf
      have hT := hT hlt
      rw [show putW b (l.take 0) = b by simp [putW]] at hT
      exact ⟨1, ⟨hlt, by omega⟩, le_mk [(0, _)] rfl ⟨⟨rfl, rfl⟩, ⟨rfl, rfl⟩, ⟨ctr (by omega), rfl⟩, trivial⟩ ⟨⟨by rw [← hT]; rfl, rfl⟩, trivial⟩ rfl⟩
    · have h9 := dge h
      rw [List.length_map] at h9
      omega
  | succ k =>
    conv => whnf
    refine br_i (fun h => ?_) (fun h => ?_)
    · have hlt : k + 1 < l.length := by simp at h; omega
      conv => whnf
      refine ⟨_, idx_map l intEl (k + 1) hlt 1, ?_⟩
      conv => whnf
      refine call_i (hP hlt) ?_
      conv => whnf
      have hT := hT hlt
      exact ⟨k + 2, ⟨hlt, by omega⟩, le_mk [(0, _)] rfl ⟨⟨rfl, rfl⟩, ⟨rfl, rfl⟩, ⟨ctr (by omega), rfl⟩, trivial⟩ ⟨⟨by rw [← hT]; rfl, rfl⟩, trivial⟩ rfl⟩
    · conv => whnf
      refine leaf_i rfl rfl ?_
      have : l.take (k + 1) = l := List.take_of_length_le (by simp at h; omega)
      rw [this]
      rfl
theorem d_PackBits (l : List Bool) (hl : l.length ≤ 1000) : NdC Try.prog 77 [boolsV l] (fun rs => ∃ b : List Int, rs = [bytesV b] ∧ b.length = (l.length + 7) / 8 ∧ isBytes b) := by
  refine ndC_of (Γ := lookT tbl) (il := ilist) tg dr Try.func77 rfl (by kernel_rfl) rfl (Nat.le_of_ble_eq_true rfl) ?_
  conv => whnf
  refine And.intro (by decide) ?_
  conv => whnf
  have hq : IntKind.i64.wrap ((IntKind.i64.wrap (((l.map boolEl).length : Int) + 7)).tdiv 8) = (((l.length + 7) / 8 : Nat) : Int) := by
    rw [List.length_map, wrap_ok (x := (l.length : Int) + 7) (by omega) (by omega), Int.tdiv_eq_ediv_of_nonneg (by omega), wrap_ok (by omega) (by omega)]
    omega
  rw [hq]
  refine ⟨(l.length + 7) / 8, (List.replicate ((l.length + 7) / 8) (0 : Int)).map byteEl, ⟨⟨⟨rfl, rfl⟩, by show 1 * ((l.length + 7) / 8) ≤ _; omega, by decide⟩, by rw [List.map_replicate]; rfl⟩, ?_⟩
  conv => whnf
  refine loop_i (fun s : Nat × List Int => ⟨envL [(0, .c (.pv (boolsP l))), (3, .c (.row 0)), (4, .c (.pv (.int .i64 s.1)))], resL [(0, .row true 1 (s.2.map byteEl))], 1, 32⟩) (fun s => s.1 ≤ l.length ∧ s.2.length = (l.length + 7) / 8 ∧ isBytes s.2) (fun s => l.length - s.1) (0, List.replicate ((l.length + 7) / 8) 0) ⟨Nat.zero_le _, by simp, fun x hx => by have := List.eq_of_mem_replicate hx; omega⟩ (le_mk [(0, _)] rfl ⟨⟨rfl, rfl⟩, ⟨rfl, rfl⟩, ⟨rfl, rfl⟩, trivial⟩ ⟨⟨rfl, rfl⟩, trivial⟩ rfl) ?_
  rintro ⟨k, b⟩ ⟨hk, hbl, hbb⟩
  dsimp only at hk hbl hbb
  conv => whnf
  refine br_i (fun h => ?_) (fun h => ?_)
  · have hlt : k < l.length := by simpa using h
    conv => whnf
    refine ⟨_, idx_map l boolEl k hlt 1, ?_⟩
    conv => whnf
    have hlt2 : k / 8 < b.length := by omega
    have q1 : IntKind.i64.wrap ((k : Int).tdiv 8) = ((k / 8 : Nat) : Int) := by
      rw [Int.tdiv_eq_ediv_of_nonneg (by omega), wrap_ok (by omega) (by omega)]; omega
    have q2 : (k : Int).tmod 8 = ((k % 8 : Nat) : Int) := by
      rw [Int.tmod_eq_emod_of_nonneg (by omega)]; omega
    refine br_i (fun h => ?_) (fun h => ?_)
    · conv => whnf
      refine And.intro (by decide) ?_
      conv => whnf
      refine ⟨k / 8, ⟨⟨q1, by rw [List.length_map]; exact hlt2⟩, rfl⟩, ?_⟩
      conv => whnf
      refine ⟨_, ⟨rfl, by rw [List.getElem?_map, List.getElem?_eq_getElem hlt2]; rfl⟩, ?_⟩
      conv => whnf
      refine And.intro (by decide) ?_
      conv => whnf
      refine And.intro (Int.emod_nonneg _ (by decide)) ?_
      conv => whnf
      refine ⟨k / 8, ⟨⟨q1, by rw [List.length_map]; exact hlt2⟩, rfl⟩, ?_⟩
      conv => whnf
      refine ⟨(b.set (k / 8) _).map byteEl, ⟨rfl, by rw [List.length_map]; exact hlt2, by decide, set_map (PV.int .u8) b (k / 8) _⟩, ?_⟩
      conv => whnf
      refine ⟨(k + 1, b.set (k / 8) _), ⟨⟨hlt, by rw [List.length_set]; exact hbl, fun x hx => ?_⟩, by show l.length - (k + 1) < l.length - k; omega⟩, le_mk [] rfl ⟨⟨rfl, rfl⟩, ⟨rfl, rfl⟩, ⟨ctr (by omega), rfl⟩, trivial⟩ ⟨⟨rfl, rfl⟩, trivial⟩ rfl⟩
      rcases List.mem_or_eq_of_mem_set hx with hx | rfl
      · exact hbb x hx
      · exact ⟨Int.emod_nonneg _ (by decide), Int.emod_lt_of_pos _ (by decide)⟩
    · conv => whnf
      exact ⟨(k + 1, b), ⟨⟨hlt, hbl, hbb⟩, by show l.length - (k + 1) < l.length - k; omega⟩, le_mk [] rfl ⟨⟨rfl, rfl⟩, ⟨rfl, rfl⟩, ⟨ctr (by omega), rfl⟩, trivial⟩ ⟨⟨rfl, rfl⟩, trivial⟩ rfl⟩
  · conv => whnf
    refine leaf_i rfl rfl ?_
    exact ⟨b, rfl, hbl, hbb⟩
theorem good_kind {near : Int} {r : XReq} (h : goodR near r) (hn : 0 ≤ near) (hn2 : near ≤ 1000) : (0 ≤ r.At ∧ r.At < 65536) ∧ (0 ≤ r.N ∧ r.N < 65536) ∧ (0 ≤ r.WAt ∧ r.WAt < 65536) ∧
    ((r.Kind = 1 ∨ r.Kind = 2 ∨ r.Kind = 3 ∨ r.Kind = 4) ∨ (r.Kind = 5 ∧ r.Bits.length = 1) ∨ (r.Kind = 6 ∧ 0 < r.Words.length) ∨ r.Kind = 15 ∨ (r.Kind = 16 ∧ 0 < r.Words.length) ∨ (r.Kind = 22 ∧ 0 < r.Words.length) ∨ (r.Kind = 23 ∧ 0 < r.Words.length)) := by
  obtain ⟨h1, h2, h3, h4, h5, h6⟩ := h
  refine ⟨by omega, by omega, by omega, ?_⟩
  unfold specReq at h1
  split at h1
  · cases h1
  split at h1
  · rename_i h; omega
  split at h1
  · rename_i h; omega
  split at h1
  · rename_i h; simp at h1; omega
  split at h1
  · rename_i h; simp at h1; omega
  split at h1
  · rename_i h; omega
  split at h1
  · rename_i h; simp [inB] at h1; omega
  split at h1
  · rename_i h; simp at h1; omega
  split at h1
  · rename_i h; simp [inB] at h1; omega
  · cases h1
theorem app1 (H : List Int) (x y : Int) (h : H.length ≤ 1000) (hy : y = x) : ((H.map byteEl).length + 1) * 1 ≤ 140737488355328 ∧ (H ++ [x]).map byteEl = H.map byteEl ++ [[PV.int .u8 y]] := by
  subst hy
  exact ⟨by rw [List.length_map]; omega, by rw [List.map_append]; rfl⟩
theorem app2 (H b : List Int) (h : H.length ≤ 1000) (h2 : b.length ≤ 1000) : ((H.map byteEl).length + (b.map byteEl).length) * 1 ≤ 140737488355328 ∧ (H ++ b).map byteEl = H.map byteEl ++ b.map byteEl := by
  exact ⟨by rw [List.length_map, List.length_map]; omega, List.map_append⟩
set_option maxHeartbeats 2000000 in
theorem d_PutReq (r : XReq) (hg : goodR 0 r) : NdC Try.prog 67 [r.v] (fun rs => ∃ b : List Int, rs = [bytesV b] ∧ (1 ≤ b.length ∧ b.length ≤ 253) ∧ isBytes b) := by
  refine ndC_of (Γ := lookT tbl) (il := ilist) tg dr Try.func67 rfl (by kernel_rfl) rfl (Nat.le_of_ble_eq_true rfl) ?_
  obtain ⟨hA, hN, hW, hk⟩ := good_kind hg (by decide) (by decide)
  have hk8 : 0 ≤ r.Kind ∧ r.Kind < 256 := by omega
  have hR := s_ReqOk r
  rw [hg.1] at hR
  have hlen := hg.2.2.2.1
  have hword := hg.2.2.2.2.2
  have p1 := s_PutWord [r.Kind] r.At hA (by simp)
  have b1 : isBytes ([r.Kind] ++ wordL r.At) := bytes_app (fun x hx => by simp at hx; omega) (word_b hA)
  have l1 : ([r.Kind] ++ wordL r.At).length = 3 := rfl
  generalize [r.Kind] ++ wordL r.At = H at *
  obtain ⟨K, A, N, W, B, WA⟩ := r
  dsimp only at *
  conv => whnf
  refine call_i hR ?_
  conv => whnf
  rw [u8wd hk8.1 hk8.2]
  refine call_i p1 ?_
  have pN := s_PutWord H N hN (by omega)
  have pW := s_PutWord (H ++ wordL N) WA hW (by rw [List.length_append, l1]; simp [wordL])
  have pL := fun (m : Nat) (h : m ≤ 100) => s_PutWord H m (by omega) (by omega)
  have w2 : ∀ n, (wordL n).length = 2 := fun _ => rfl
  have e2 : IntKind.i64.wrap (2 * ((W.map intEl).length : Int)) = 2 * W.length := by rw [List.length_map, wrap_ok (by omega) (by omega)]
  have e3 : ∀ m : Int, 0 ≤ m → m < 256 → isBytes [m] := fun m h h2 x hx => by simp at hx; omega
  conv => whnf
  refine br_i (fun h => ?_) (fun h => ?_)
  · have h : K = 5 := by simpa using h
    conv => whnf
    have hB : 0 < B.length := by omega
    refine ⟨_, idx_map B boolEl 0 hB 1, ?_⟩
    conv => whnf
    refine inl_of (Γ := lookT tbl) (il := ilist) tg dr Try.func75 rfl (by kernel_rfl) rfl (ts := [22, 4]) (Nat.le_of_ble_eq_true rfl) ?_
    conv => whnf
    refine br_i (fun h => ?_) (fun h => ?_)
    · conv => whnf
      refine ⟨⟨rfl, flat_byte [255, 0]⟩, ?_⟩
      conv => whnf
      refine ⟨(H ++ [255, 0]).map byteEl, ⟨by rw [List.length_map, l1]; decide, by rw [List.map_append]; rfl⟩, ?_⟩
      conv => whnf
      refine leaf_i rfl rfl ?_
      exact ⟨_, rfl, by rw [List.length_append, l1]; simp, bytes_app b1 (fun x hx => by simp at hx; omega)⟩
    · conv => whnf
      refine ⟨⟨rfl, flat_byte [0, 0]⟩, ?_⟩
      conv => whnf
      refine ⟨(H ++ [0, 0]).map byteEl, ⟨by rw [List.length_map, l1]; decide, by rw [List.map_append]; rfl⟩, ?_⟩
      conv => whnf
      refine leaf_i rfl rfl ?_
      exact ⟨_, rfl, by rw [List.length_append, l1]; simp, bytes_app b1 (fun x hx => by simp at hx; omega)⟩
  have h5 : K ≠ 5 := by simpa using h
  clear h
  have fw : K = 6 ∨ K = 22 → PureC Try.prog 76 [bytesV H, intsV W] [bytesV (putW H W)] ∧ (1 ≤ (putW H W).length ∧ (putW H W).length ≤ 253) := fun h => ⟨s_PutWords H W (by omega) (by omega) (by omega) hword, by rw [putW_len]; omega⟩
  conv => whnf
  refine br_i (fun h => ?_) (fun h => ?_)
  · have h6 := h
    have h : K = 6 := by simpa using h
    conv => whnf
    refine br_i (fun _ => ?_) (fun h7 => absurd (h6.symm.trans h7) (by simp))
    conv => whnf
    refine call_i (fw (.inl h)).1 ?_
    conv => whnf
    refine leaf_i rfl rfl ?_
    exact ⟨_, rfl, (fw (.inl h)).2, putW_b b1 hword⟩
  have h6 : K ≠ 6 := by simpa using h
  clear h
  conv => whnf
  refine br_i (fun h => ?_) (fun h => ?_)
  · have h : K = 22 := by simpa using h
    conv => whnf
    refine call_i (fw (.inr h)).1 ?_
    conv => whnf
    refine leaf_i rfl rfl ?_
    exact ⟨_, rfl, (fw (.inr h)).2, putW_b b1 hword⟩
  have h22 : K ≠ 22 := by simpa using h
  clear h
  conv => whnf
  refine br_i (fun h => ?_) (fun h => ?_)
  · conv => whnf
    refine inl_nd (Γ := lookT tbl) [91] ?_
    conv => whnf
    refine nd_i (d_PackBits B (by omega)) ?_
    rintro _ ⟨b, rfl, hb1, hb2⟩
    conv => whnf
    rw [List.length_map]
    refine call_i (pL B.length (by omega)) ?_
    conv => whnf
    refine ⟨⟨rfl, flat_byte [IntKind.u8.wrap ((b.map byteEl).length : Int)]⟩, ?_⟩
    conv => whnf
    refine ⟨((H ++ wordL B.length) ++ [(b.length : Int)]).map byteEl, app1 _ _ _ (by rw [List.length_append, l1, w2]; decide) (by rw [List.length_map]; exact u8wd (by omega) (by omega)), ?_⟩
    conv => whnf
    refine ⟨⟨rfl, flat_byte b⟩, ?_⟩
    conv => whnf
    refine ⟨(((H ++ wordL B.length) ++ [(b.length : Int)]) ++ b).map byteEl, app2 _ _ (by rw [List.length_append, List.length_append, l1, w2]; show 3 + 2 + 1 ≤ 1000; decide) (by omega), ?_⟩
    conv => whnf
    refine leaf_i rfl rfl ?_
    exact ⟨_, rfl, by simp only [List.length_append, l1, w2, List.length_singleton]; omega, bytes_app (bytes_app (bytes_app b1 (word_b (by omega))) (e3 _ (by omega) (by omega))) hb2⟩
  have h15 : K ≠ 15 := by simpa using h
  clear h
  conv => whnf
  refine br_i (fun h => ?_) (fun h => ?_)
  · have h : K = 16 := by simpa using h
    have hW0 : 0 < W.length := by omega
    conv => whnf
    rw [List.length_map]
    refine call_i (pL W.length (by omega)) ?_
    conv => whnf
    refine ⟨⟨rfl, flat_byte [IntKind.u8.wrap (IntKind.i64.wrap (2 * ((W.map intEl).length : Int)))]⟩, ?_⟩
    conv => whnf
    refine ⟨((H ++ wordL W.length) ++ [2 * (W.length : Int)]).map byteEl, app1 _ _ _ (by rw [List.length_append, l1, w2]; decide) (by rw [e2]; exact u8wd (by omega) (by omega)), ?_⟩
    conv => whnf
    have ln : ((H ++ wordL W.length) ++ [2 * (W.length : Int)]).length = 6 := by rw [List.length_append, List.length_append, l1, w2]; rfl
    have pX := s_PutWords _ W hW0 (by rw [ln]; decide) (by omega) hword
    refine call_i pX ?_
    conv => whnf
    refine And.intro rfl ?_
    conv => whnf
    refine leaf_i rfl rfl ?_
    exact ⟨_, rfl, by rw [putW_len, ln]; omega, putW_b (bytes_app (bytes_app b1 (word_b (by omega))) (e3 _ (by omega) (by omega))) hword⟩
  have h16 : K ≠ 16 := by simpa using h
  clear h
  conv => whnf
  refine br_i (fun h => ?_) (fun h => ?_)
  · have h : K = 23 := by simpa using h
    have hW0 : 0 < W.length := by omega
    conv => whnf
    refine call_i pN ?_
    conv => whnf
    refine call_i pW ?_
    conv => whnf
    have l7 : ((H ++ wordL N) ++ wordL WA).length = 7 := by rw [List.length_append, List.length_append, l1, w2, w2]
    have b7 : isBytes ((H ++ wordL N) ++ wordL WA) := bytes_app (bytes_app b1 (word_b hN)) (word_b hW)
    generalize (H ++ wordL N) ++ wordL WA = H2 at *
    rw [List.length_map]
    refine call_i (s_PutWord H2 W.length (by omega) (by omega)) ?_
    conv => whnf
    refine And.intro rfl ?_
    conv => whnf
    refine ⟨⟨rfl, flat_byte [IntKind.u8.wrap (IntKind.i64.wrap (2 * ((W.map intEl).length : Int)))]⟩, ?_⟩
    conv => whnf
    refine ⟨((H2 ++ wordL W.length) ++ [2 * (W.length : Int)]).map byteEl, app1 _ _ _ (by rw [List.length_append, l7, w2]; decide) (by rw [e2]; exact u8wd (by omega) (by omega)), ?_⟩
    conv => whnf
    have ln : ((H2 ++ wordL W.length) ++ [2 * (W.length : Int)]).length = 10 := by rw [List.length_append, List.length_append, l7, w2]; rfl
    have pX := s_PutWords _ W hW0 (by rw [ln]; decide) (by omega) hword
    refine call_i pX ?_
    conv => whnf
    refine And.intro rfl ?_
    conv => whnf
    refine leaf_i rfl rfl ?_
    exact ⟨_, rfl, by rw [putW_len, ln]; omega, putW_b (bytes_app (bytes_app b7 (word_b (by omega))) (e3 _ (by omega) (by omega))) hword⟩
  conv => whnf
  refine call_i pN ?_
  conv => whnf
  refine leaf_i rfl rfl ?_
  exact ⟨_, rfl, by rw [List.length_append, l1, w2]; omega, bytes_app b1 (word_b hN)⟩
theorem d_Some (code : List Int) (hl : code.length ≤ 9223372036854775807) : CurC Try.prog 48 1 (code.map byteEl) [] (fun rs => ∃ b : List Int, rs = [bytesV b] ∧ (1 ≤ b.length ∧ b.length ≤ 253) ∧ isBytes b) := by
  refine curC_of (Γ := lookT tbl) (il := ilist) tg dr Try.func48 rfl (by kernel_rfl) rfl (Nat.le_of_ble_eq_true rfl) ?_
  intro i h hi
  have hO := d_Once code hl 2 (by decide)
  have hB := d_Below code hl 9 (by decide)
  have hR := d_Req code hl 0 (by decide) (by decide)
  have hY := d_Bytes code hl
  generalize code.map byteEl = L at *
  conv => whnf
  refine inl_cur (Γ := lookT tbl) [3] ?_
  conv => whnf
  refine cur_i hO hi ?_
  rintro _ i h ⟨x, rfl⟩ hi
  conv => whnf
  refine br_i (fun hb => ?_) (fun hb => ?_)
  · conv => whnf
    refine inl_cur (Γ := lookT tbl) [3] ?_
    conv => whnf
    refine cur_i hR hi ?_
    rintro _ i h ⟨r, rfl, hr⟩ hi
    conv => whnf
    refine inl_nd (Γ := lookT tbl) [93] ?_
    conv => whnf
    refine nd_i (d_PutReq r hr) ?_
    rintro _ ⟨b, rfl, hb1, hb2⟩
    conv => whnf
    refine cur_leaf rfl rfl rfl hi ?_
    exact ⟨b, rfl, hb1, hb2⟩
  · conv => whnf
    refine inl_cur (Γ := lookT tbl) [3] ?_
    conv => whnf
    refine cur_i hB hi ?_
    rintro _ i h ⟨x, rfl, hx, hx2⟩ hi
    conv => whnf
    rw [wrap_ok (x := 1 + x) (by omega) (by omega)]
    refine inl_cur (Γ := lookT tbl) [3] ?_
    conv => whnf
    refine cur_i (hY (1 + x) (by omega) (by omega)) hi ?_
    rintro _ i h ⟨b, rfl, hb1, hb2⟩ hi
    conv => whnf
    refine cur_leaf rfl rfl rfl hi ?_
    exact ⟨b, rfl, by omega, hb2⟩
theorem d_Frame (code : List Int) (hl : code.length ≤ 1048576) : NdC Try.prog 15 [bytesV code] (fun rs => ∃ (u : Int) (b : List Int), rs = [i64v u, bytesV b] ∧ (0 ≤ u ∧ u < 256) ∧ (1 ≤ b.length ∧ b.length ≤ 253) ∧ isBytes b) := by
  refine ndC_of (Γ := lookT tbl) (il := ilist) tg dr Try.func15 rfl (by kernel_rfl) rfl (Nat.le_of_ble_eq_true rfl) ?_
  have hB := d_Below code (by omega) 256 (by decide)
  have hS := d_Some code (by omega)
  have newI := fun {k : Nat} (hb : (k : Int) < (code.map byteEl).length) => newI (L := code.map byteEl) (code := code) hb rfl
  have hL : (code.map byteEl).length ≤ 1048576 := by rw [List.length_map]; exact hl
  unfold bytesV bytesP
  generalize code.map byteEl = L at *
  conv => whnf
  refine inl_of (Γ := lookT tbl) (il := ilist) tg dr Try.func34 rfl (by kernel_rfl) rfl (ts := [22]) (Nat.le_of_ble_eq_true rfl) ?_
  conv => whnf
  refine loop_i (fun s : Nat × Int => ⟨envL [(0, .c (.pv (.sl 1 L))), (3, .c (.pv (.int .i64 s.2))), (4, .c (.pv (.int .i64 s.1)))], resL [(3072, .env [(0, .c (.pv (.sl 1 L)))])], 3072 + 1, 32⟩) (fun s => s.1 ≤ L.length) (fun s => L.length - s.1) (0, _) (Nat.zero_le _) (le_mk [] rfl ⟨⟨rfl, rfl⟩, ⟨rfl, rfl⟩, ⟨rfl, rfl⟩, trivial⟩ ⟨⟨⟨rfl, rfl⟩, _, rfl, ⟨rfl, rfl⟩, trivial⟩, trivial⟩ rfl) ?_
  rintro ⟨k, h⟩ hk
  dsimp only at hk
  conv => whnf
  refine br_i (fun hb => ?_) (fun hb => ?_)
  focus
    have hb : (k : Int) < L.length := by simpa using hb
    conv => whnf
    refine br_i (fun hb2 => ?_) (fun hb2 => ?_)
    focus
      conv => whnf
      refine ⟨_, ⟨⟨by omega, newI hb⟩, rfl⟩, ?_⟩
      conv => whnf
      exact ⟨(k + 1, _), ⟨by show k + 1 ≤ L.length; omega, by show L.length - (k + 1) < L.length - k; omega⟩, le_mk [] rfl ⟨⟨rfl, rfl⟩, ⟨rfl, rfl⟩, ⟨ctr (by omega), rfl⟩, trivial⟩ ⟨⟨⟨rfl, rfl⟩, _, rfl, ⟨rfl, rfl⟩, trivial⟩, trivial⟩ rfl⟩
  all_goals
    conv => whnf
    refine inl_cur (Γ := lookT tbl) [3] ?_
    conv => whnf
    refine cur_i hB (by decide) ?_
    rintro _ i h ⟨x, rfl, hx, hx2⟩ hi
    conv => whnf
    refine inl_cur (Γ := lookT tbl) [] ?_
    conv => whnf
    refine cur_i hS hi ?_
    rintro _ i h ⟨b, rfl, hb1, hb2⟩ hi
    conv => whnf
    refine leaf_i rfl rfl ?_
    exact ⟨x, b, rfl, ⟨hx, hx2⟩, hb1, hb2⟩
theorem mk_bytes (n : Nat) (h : n ≤ 1000) : ((((n : Int) = (n : Int) ∧ (n : Int) = (n : Int)) ∧ 1 * n ≤ 140737488355328 ∧ 1 ≤ 1) ∧ (List.replicate n (0 : Int)).map byteEl = List.replicate n [PV.int .u8 0]) :=
  ⟨⟨⟨rfl, rfl⟩, by omega, by decide⟩, List.map_replicate⟩
theorem zeros_b (n : Nat) : isBytes (List.replicate n (0 : Int)) := fun x hx => by have := List.eq_of_mem_replicate hx; omega
theorem d_PutRtu (code : List Int) (hl : code.length ≤ 1048576) : NdC Try.prog 36 [bytesV code] (fun rs => ∃ (u : Int) (b : List Int), rs = [i64v u, bytesV b] ∧ (-1 ≤ u ∧ u ≤ 256) ∧ b.length ≤ 255 ∧ isBytes b) := by
  refine ndC_of (Γ := lookT tbl) (il := ilist) tg dr Try.func36 rfl (by kernel_rfl) rfl (Nat.le_of_ble_eq_true rfl) ?_
  have hB := d_Below code (by omega) 4 (by decide)
  have hO := d_Once code (by omega) 20 (by decide)
  have hS := d_Some code (by omega)
  have hI := d_Int code (by omega) [0, 1, 17, 255, 256, -1, 1, 2] (by decide)
  have newI := fun {k : Nat} (hb : (k : Int) < (code.map byteEl).length) => newI (L := code.map byteEl) (code := code) hb rfl
  have hL : (code.map byteEl).length ≤ 1048576 := by rw [List.length_map]; exact hl
  unfold bytesV bytesP
  generalize code.map byteEl = L at *
  conv => whnf
  refine inl_of (Γ := lookT tbl) (il := ilist) tg dr Try.func34 rfl (by kernel_rfl) rfl (ts := [22]) (Nat.le_of_ble_eq_true rfl) ?_
  conv => whnf
  refine loop_i (fun s : Nat × Int => ⟨envL [(0, .c (.pv (.sl 1 L))), (3, .c (.pv (.int .i64 s.2))), (4, .c (.pv (.int .i64 s.1)))], resL [(3072, .env [(0, .c (.pv (.sl 1 L)))])], 3072 + 1, 32⟩) (fun s => s.1 ≤ L.length) (fun s => L.length - s.1) (0, _) (Nat.zero_le _) (le_mk [] rfl ⟨⟨rfl, rfl⟩, ⟨rfl, rfl⟩, ⟨rfl, rfl⟩, trivial⟩ ⟨⟨⟨rfl, rfl⟩, _, rfl, ⟨rfl, rfl⟩, trivial⟩, trivial⟩ rfl) ?_
  rintro ⟨k, h⟩ hk
  dsimp only at hk
  conv => whnf
  refine br_i (fun hb => ?_) (fun hb => ?_)
  focus
    have hb : (k : Int) < L.length := by simpa using hb
    conv => whnf
    refine br_i (fun hb2 => ?_) (fun hb2 => ?_)
    focus
      conv => whnf
      refine ⟨_, ⟨⟨by omega, newI hb⟩, rfl⟩, ?_⟩
      conv => whnf
      exact ⟨(k + 1, _), ⟨by show k + 1 ≤ L.length; omega, by show L.length - (k + 1) < L.length - k; omega⟩, le_mk [] rfl ⟨⟨rfl, rfl⟩, ⟨rfl, rfl⟩, ⟨ctr (by omega), rfl⟩, trivial⟩ ⟨⟨⟨rfl, rfl⟩, _, rfl, ⟨rfl, rfl⟩, trivial⟩, trivial⟩ rfl⟩
  all_goals
    conv => whnf
    refine inl_cur (Γ := lookT tbl) [] ?_
    conv => whnf
    refine cur_i hS (by decide) ?_
    rintro _ i h ⟨b, rfl, hb1, hb2⟩ hi
    conv => whnf
    refine inl_cur (Γ := lookT tbl) [3] ?_
    conv => whnf
    refine cur_i hO hi ?_
    rintro _ i h ⟨o1, rfl⟩ hi
    conv => whnf
    refine br_i (fun _ => ?_) (fun _ => ?_)
    focus
      conv => whnf
      refine inl_cur (Γ := lookT tbl) [3] ?_
      conv => whnf
      refine cur_i hB hi ?_
      rintro _ i h ⟨x, rfl, hx, hx2⟩ hi
      conv => whnf
      rw [wrap_ok (x := 252 + x) (by omega) (by omega), show 252 + x = ((252 + x.toNat : Nat) : Int) by omega]
      refine ⟨_, _, mk_bytes (252 + x.toNat) (by omega), ?_⟩
      conv => whnf
      have hz : (List.replicate (252 + x.toNat) (0 : Int)).length ≤ 255 := by simp; omega
      have hzb := zeros_b (252 + x.toNat)
      generalize List.replicate (252 + x.toNat) (0 : Int) = zs at *
    all_goals
      refine inl_cur (Γ := lookT tbl) [3] ?_
      conv => whnf
      refine cur_i hO hi ?_
      rintro _ i h ⟨o2, rfl⟩ hi
      conv => whnf
      refine br_i (fun _ => ?_) (fun _ => ?_)
      all_goals
        conv => whnf
        refine inl_cur (Γ := lookT tbl) [65] ?_
        conv => whnf
        refine cur_i hI hi ?_
        rintro _ i h ⟨u, rfl, hu⟩ hi
        conv => whnf
        refine leaf_i rfl rfl ?_
        simp at hu
        first | exact ⟨u, [], rfl, by omega, by decide, fun x hx => by cases hx⟩ | exact ⟨u, zs, rfl, by omega, hz, hzb⟩ | exact ⟨u, b, rfl, by omega, by omega, hb2⟩

end Go.Proofs.Ytkpffcjgjiljeaa
