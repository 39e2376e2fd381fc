/- Frames that are written: of digits, by silences, on streams. -/
import Derived.Test.YtoccphgempbdeaaXAsciiHear
namespace Go.Proofs.Ytoccphgempbdeaa
open Go Go.Vi
set_option linter.unusedVariables false
set_option linter.unusedSimpArgs false
set_option maxRecDepth 100000
def hexD (n : Int) : Int := if n < 10 then 48 + n else 55 + n
def hexL (l : List Int) : List Int := l.flatMap fun b => [hexD (b / 16), hexD (b % 16)]
theorem hexL_take (l : List Int) (k : Nat) (h : k < l.length) : hexL (l.take (k + 1)) = hexL (l.take k) ++ [hexD (l[k] / 16), hexD (l[k] % 16)] := by
  unfold hexL
  rw [List.take_succ_eq_append_getElem h, List.flatMap_append]
  rfl
theorem hexL_len (l : List Int) : (hexL l).length = 2 * l.length := by
  induction l with
  | nil => rfl
  | cons a l ih => simp [hexL] at ih ⊢; omega
theorem hexD_b {n : Int} (h : 0 ≤ n ∧ n < 16) : 0 ≤ hexD n ∧ hexD n < 256 := by unfold hexD; split <;> omega
theorem isBytes_hexL {l : List Int} (hb : isBytes l) : isBytes (hexL l) := by
  intro x hx
  simp only [hexL, List.mem_flatMap] at hx
  obtain ⟨b, hb2, hx⟩ := hx
  have h1 := hb b hb2
  simp at hx
  rcases hx with rfl | rfl
  · exact hexD_b (by omega)
  · exact hexD_b (by omega)
theorem dig_at (n : Int) (h : 0 ≤ n ∧ n < 16) : (0 ≤ n ∧ n < ((⟨#[48, 49, 50, 51, 52, 53, 54, 55, 56, 57, 65, 66, 67, 68, 69, 70]⟩ : ByteArray).size : Int)) ∧ (⟨#[48, 49, 50, 51, 52, 53, 54, 55, 56, 57, 65, 66, 67, 68, 69, 70]⟩ : ByteArray).data.toList[n.toNat]?.map (fun b => (b.toNat : Int)) = some (hexD n) := by
  have key : ∀ x : Fin 16, (⟨#[48, 49, 50, 51, 52, 53, 54, 55, 56, 57, 65, 66, 67, 68, 69, 70]⟩ : ByteArray).data.toList[x.val]?.map (fun b => (b.toNat : Int)) = some (hexD (x.val : Int)) := by decide
  have h2 := key ⟨n.toNat, by omega⟩
  simp only at h2
  rw [show ((n.toNat : Nat) : Int) = n by omega] at h2
  exact ⟨⟨h.1, h.2⟩, h2⟩
theorem shr4 (b : Int) (h : 0 ≤ b ∧ b < 256) : Int.fdiv b (2 ^ min (Int.toNat 4) IntKind.u8.bits) = b / 16 := by
  show Int.fdiv b 16 = _
  rw [Int.fdiv_eq_ediv_of_nonneg _ (by decide)]
theorem and15 (b : Int) (h : 0 ≤ b ∧ b < 256) : IntKind.u8.wrap ((BitVec.ofInt IntKind.u8.bits b &&& BitVec.ofInt IntKind.u8.bits 15).toNat : Nat) = b % 16 := by
  have key : ∀ x : Fin 256, IntKind.u8.wrap ((BitVec.ofInt IntKind.u8.bits (x.val : Int) &&& BitVec.ofInt IntKind.u8.bits 15).toNat : Nat) = (x.val : Int) % 16 := by decide
  have h2 := key ⟨b.toNat, by omega⟩
  simp only at h2
  rw [show ((b.toNat : Nat) : Int) = b by omega] at h2
  exact h2
theorem app_dig (l : List Int) (k : Nat) (h : k < l.length) (hl : l.length ≤ 1048577) : (((hexL (l.take k)).map byteEl).length + 2) * 1 ≤ 140737488355328 ∧ (hexL (l.take (k + 1))).map byteEl = (hexL (l.take k)).map byteEl ++ [[PV.int .u8 (hexD (l[k] / 16))], [PV.int .u8 (hexD (l[k] % 16))]] := by
  refine ⟨?_, by rw [hexL_take l k h, List.map_append]; rfl⟩
  rw [List.length_map, hexL_len, List.length_take]
  omega
theorem s_Hex (l : List Int) (hb : isBytes l) (hl : l.length ≤ 1048577) : PureC Try.prog 71 [bytesV l] [.one (.str (strOfNums (hexL l)))] := by
  refine pureC_of (Γ := lookT tbl) (il := ilist) tg dr Try.func71 rfl (by kernel_rfl) rfl (Nat.le_of_ble_eq_true rfl) ?_
  conv => whnf
  refine loop_i (fun k : Nat => ⟨envL [(0, .c (.pv (.sl 1 (l.map byteEl)))), (3, .c (.pv (.str ⟨#[48, 49, 50, 51, 52, 53, 54, 55, 56, 57, 65, 66, 67, 68, 69, 70]⟩))), (4, .c (.row 0)), (5, .c (.pv (.int .i64 k)))], resL [(0, .row true 1 ((hexL (l.take k)).map byteEl))], 1, 32⟩) (fun k => k ≤ l.length) (fun k => l.length - k) 0 (Nat.zero_le _) (le_mk [(0, _)] rfl ⟨⟨rfl, rfl⟩, ⟨rfl, rfl⟩, ⟨rfl, rfl⟩, ⟨rfl, rfl⟩, trivial⟩ ⟨⟨rfl, rfl⟩, trivial⟩ rfl) ?_
  intro k hk
  conv => whnf
  refine br_i (fun h => ?_) (fun h => ?_)
  · have hlt : k < l.length := by simpa using h
    have hb1 := hb l[k] (List.getElem_mem _)
    have ix := idx_map l byteEl k hlt 1
    have ia := app_dig l k hlt hl
    have s4 := shr4 l[k] hb1
    have a15 := and15 l[k] hb1
    have d1 := dig_at (l[k] / 16) (by omega)
    have d2 := dig_at (l[k] % 16) (by omega)
    rw [← s4] at d1
    rw [← a15] at d2
    rw [← s4, ← a15] at ia
    conv => whnf
    refine ⟨_, ix, ?_⟩
    conv => whnf
    refine And.intro (by decide) ?_
    conv => whnf
    refine ⟨_, d1, ?_⟩
    conv => whnf
    refine ⟨_, ix, ?_⟩
    conv => whnf
    refine ⟨_, d2, ?_⟩
    conv => whnf
    refine ⟨⟨rfl, flat_byte [_, _]⟩, ?_⟩
    conv => whnf
    refine ⟨_, ia, ?_⟩
    conv => whnf
    refine And.intro rfl ?_
    conv => whnf
    exact ⟨k + 1, ⟨hlt, by omega⟩, le_mk [(0, _)] rfl ⟨⟨rfl, rfl⟩, ⟨rfl, rfl⟩, ⟨rfl, rfl⟩, ⟨ctr (by omega), rfl⟩, trivial⟩ ⟨⟨rfl, rfl⟩, trivial⟩ rfl⟩
  · have hk2 : k = l.length := by have : ¬ k < l.length := by simpa using h
                                  omega
    subst hk2
    rw [List.take_length]
    conv => whnf
    refine ⟨hexL l, rfl, ?_⟩
    conv => whnf
    exact leaf_i rfl rfl rfl
theorem m_Hex (l : List Int) (hb : isBytes l) (hl : l.length ≤ 1048577) : PureC Try.prog 83 [bytesV l] [.one (.str (strOfNums (hexL l)))] := by
  refine pureC_of (Γ := lookT tbl) (il := ilist) tg dr Try.func83 rfl (by kernel_rfl) rfl (Nat.le_of_ble_eq_true rfl) ?_
  conv => whnf
  refine loop_i (fun k : Nat => ⟨envL [(3, .c (.row 0)), (7, .c (.pv (.sl 1 (l.map byteEl)))), (8, .c (.pv (.int .i64 l.length))), (9, .c (.pv (.int .i64 k)))], resL [(0, .row true 1 ((hexL (l.take k)).map byteEl))], 1, 25⟩) (fun k => k ≤ l.length) (fun k => l.length - k) 0 (Nat.zero_le _) (le_mk [(0, _)] rfl ⟨⟨rfl, rfl⟩, ⟨rfl, rfl⟩, ⟨i64_eq (by simp), rfl⟩, ⟨rfl, rfl⟩, trivial⟩ ⟨⟨rfl, rfl⟩, trivial⟩ rfl) ?_
  intro k hk
  conv => whnf
  refine br_i (fun h => ?_) (fun h => ?_)
  · have hlt : k < l.length := by simpa using h
    have hb1 := hb l[k] (List.getElem_mem _)
    have ix := idx_map l byteEl k hlt 1
    have ia := app_dig l k hlt hl
    have s4 := shr4 l[k] hb1
    have a15 := and15 l[k] hb1
    have d1 := dig_at (l[k] / 16) (by omega)
    have d2 := dig_at (l[k] % 16) (by omega)
    rw [← s4] at d1
    rw [← a15] at d2
    rw [← s4, ← a15] at ia
    conv => whnf
    refine ⟨_, ix, ?_⟩
    conv => whnf
    refine And.intro (by decide) ?_
    conv => whnf
    refine ⟨_, d1, ?_⟩
    conv => whnf
    refine ⟨_, d2, ?_⟩
    conv => whnf
    refine ⟨⟨rfl, flat_byte [_, _]⟩, ?_⟩
    conv => whnf
    refine ⟨_, ia, ?_⟩
    conv => whnf
    refine And.intro rfl ?_
    conv => whnf
    exact ⟨k + 1, ⟨hlt, by omega⟩, le_mk [(0, _)] rfl ⟨⟨rfl, rfl⟩, ⟨rfl, rfl⟩, ⟨rfl, rfl⟩, ⟨ctr (by omega), rfl⟩, trivial⟩ ⟨⟨rfl, rfl⟩, trivial⟩ rfl⟩
  · have hk2 : k = l.length := by have : ¬ k < l.length := by simpa using h
                                  omega
    subst hk2
    rw [List.take_length]
    conv => whnf
    refine ⟨hexL l, rfl, ?_⟩
    conv => whnf
    exact leaf_i rfl rfl rfl
def pduB (u : Int) (p : List Int) : Bool := inB u 0 255 && inB p.length 1 253
theorem s_pdu (u : Int) (p : List Int) : PureC Try.prog 68 [i64v u, bytesV p] [boolv (pduB u p)] := by
  refine pureC_of (Γ := lookT tbl) (il := ilist) tg dr Try.func68 rfl (by kernel_rfl) rfl (Nat.le_of_ble_eq_true rfl) ?_
  (repeat' ((conv => whnf); first | refine br_i (fun _ => ?_) (fun _ => ?_) | (refine cur_leaf rfl rfl rfl ?_ ?_; · first | assumption | omega | exact hw ‹_›) | refine leaf_i rfl rfl ?_ | refine And.intro rfl ?_ | refine call_i (s_in _ _ _) ?_ | (refine Or.inl ?_; (conv => whnf); refine call_i (s_in _ _ _) ?_) | (refine And.intro ?_ ?_; · decide)))
  all_goals (refine bool_leaf ?_; first | (simp_all [pduB]; done) | (simp_all [pduB]; omega))
theorem m_pdu (u : Int) (p : List Int) : PureC Try.prog 80 [i64v u, bytesV p] [boolv (pduB u p)] := by
  refine pureC_of (Γ := lookT tbl) (il := ilist) tg dr Try.func80 rfl (by kernel_rfl) rfl (Nat.le_of_ble_eq_true rfl) ?_
  (repeat' ((conv => whnf); first | refine br_i (fun _ => ?_) (fun _ => ?_) | (refine cur_leaf rfl rfl rfl ?_ ?_; · first | assumption | omega | exact hw ‹_›) | refine leaf_i rfl rfl ?_ | refine And.intro rfl ?_ | refine call_i (m_in _ _ _) ?_ | (refine Or.inl ?_; (conv => whnf); refine call_i (m_in _ _ _) ?_) | (refine And.intro ?_ ?_; · decide)))
  all_goals (refine bool_leaf ?_; first | (simp_all [pduB]; done) | (simp_all [pduB]; omega))
def bodyA (u : Int) (p : List Int) : List Int := (u :: p) ++ [lrc (u :: p)]
def putAscii (u : Int) (p : List Int) : List Int := if pduB u p then 58 :: hexL (bodyA u p) ++ [13, 10] else []
theorem str_els {l : List Int} (hb : isBytes l) : (strOfNums l).data.toList.map (fun b => [PV.int .u8 b.toNat]) = l.map byteEl := by
  rw [strOfNums_data, List.map_map]
  apply List.map_congr_left
  intro n hn
  have := hb n hn
  show [PV.int .u8 ((UInt8.ofNat n.toNat).toNat : Int)] = [PV.int .u8 n]
  rw [UInt8.toNat_ofNat', show ((n.toNat % 2 ^ 8 : Nat) : Int) = n by omega]
theorem pdu_b {u : Int} {p : List Int} (h : pduB u p = true) : (0 ≤ u ∧ u < 256) ∧ 1 ≤ p.length ∧ p.length ≤ 253 := by
  simp [pduB, inB] at h
  omega
theorem s_PutAscii (u : Int) (p : List Int) (hb : isBytes p) : PureC Try.prog 31 [i64v u, bytesV p] [bytesV (putAscii u p)] := by
  refine pureC_of (Γ := lookT tbl) (il := ilist) tg dr Try.func31 rfl (by kernel_rfl) rfl (Nat.le_of_ble_eq_true rfl) ?_
  have hp := s_pdu u p
  cases hP : pduB u p with
  | false =>
    rw [hP] at hp
    (repeat' ((conv => whnf); first | refine br_i (fun _ => ?_) (fun _ => ?_) | (refine cur_leaf rfl rfl rfl ?_ ?_; · first | assumption | omega | exact hw ‹_›) | refine leaf_i rfl rfl ?_ | refine And.intro rfl ?_ | refine call_i (hp) ?_ | (refine Or.inl ?_; (conv => whnf); refine call_i (hp) ?_) | (refine And.intro ?_ ?_; · decide)))
    all_goals (rw [show putAscii u p = [] by simp [putAscii, hP]]; rfl)
  | true =>
    rw [hP] at hp
    obtain ⟨hu, hp1, hp2⟩ := pdu_b hP
    have hw := u8_ok hu.1 hu.2
    have hb1 : isBytes (u :: p) := by intro x hx; rcases List.mem_cons.1 hx with rfl | hx; exact hu; exact hb x hx
    have hl1 : (u :: p).length = p.length + 1 := rfl
    have hlr := lrc_b (u :: p)
    have hw2 := u8_ok hlr.1 hlr.2
    have hL := s_Lrc (u :: p) hb1 (by omega)
    have hb2 : isBytes (bodyA u p) := isBytes_snoc hb1 hlr
    have hl2 : (bodyA u p).length = p.length + 2 := by simp [bodyA]
    have hH := s_Hex (bodyA u p) hb2 (by omega)
    have hse := str_els (isBytes_hexL hb2)
    have hhl := hexL_len (bodyA u p)
    rw [show putAscii u p = 58 :: hexL (bodyA u p) ++ [13, 10] by simp [putAscii, hP]]
    conv => whnf
    refine call_i hp ?_
    conv => whnf
    refine ⟨⟨rfl, flat_byte p⟩, ?_⟩
    conv => whnf
    refine ⟨(u :: p).map byteEl, ⟨by show (1 + (p.map byteEl).length) * 1 ≤ 140737488355328; rw [List.length_map]; omega, by rw [hw]; rfl⟩, ?_⟩
    conv => whnf
    refine call_i hL ?_
    conv => whnf
    refine ⟨⟨rfl, flat_byte [_]⟩, ?_⟩
    conv => whnf
    refine ⟨(bodyA u p).map byteEl, ⟨by show (((u :: p).map byteEl).length + 1) * 1 ≤ 140737488355328; rw [List.length_map]; omega, by rw [hw2]; unfold bodyA; rw [List.map_append]; rfl⟩, ?_⟩
    conv => whnf
    refine call_i hH ?_
    conv => whnf
    refine ⟨rfl, ?_⟩
    conv => whnf
    refine ⟨(58 :: hexL (bodyA u p)).map byteEl, ⟨by rw [hse, List.length_map]; show (1 + (hexL (bodyA u p)).length) * 1 ≤ 140737488355328; omega, by rw [hse]; rfl⟩, ?_⟩
    conv => whnf
    refine ⟨⟨rfl, flat_byte [13, 10]⟩, ?_⟩
    conv => whnf
    refine ⟨(58 :: hexL (bodyA u p) ++ [13, 10]).map byteEl, ⟨by show (((58 :: hexL (bodyA u p)).map byteEl).length + 2) * 1 ≤ 140737488355328; rw [List.length_map]; simp; omega, by rw [List.map_append]; rfl⟩, ?_⟩
    conv => whnf
    exact leaf_i rfl rfl rfl
theorem bs_data (a b : ByteArray) : (a ++ b).data.toList = a.data.toList ++ b.data.toList := by
  first | (simp [ByteArray.data_append]; done) | (simp; done)
theorem m_PutAscii (u : Int) (p : List Int) (hb : isBytes p) : PureC Try.prog 38 [i64v u, bytesV p] [bytesV (putAscii u p)] := by
  refine pureC_of (Γ := lookT tbl) (il := ilist) tg dr Try.func38 rfl (by kernel_rfl) rfl (Nat.le_of_ble_eq_true rfl) ?_
  have hp := m_pdu u p
  cases hP : pduB u p with
  | false =>
    rw [hP] at hp
    (repeat' ((conv => whnf); first | refine br_i (fun _ => ?_) (fun _ => ?_) | (refine cur_leaf rfl rfl rfl ?_ ?_; · first | assumption | omega | exact hw ‹_›) | refine leaf_i rfl rfl ?_ | refine And.intro rfl ?_ | refine call_i (hp) ?_ | (refine Or.inl ?_; (conv => whnf); refine call_i (hp) ?_) | (refine And.intro ?_ ?_; · decide)))
    all_goals (rw [show putAscii u p = [] by simp [putAscii, hP]]; rfl)
  | true =>
    rw [hP] at hp
    obtain ⟨hu, hp1, hp2⟩ := pdu_b hP
    have hw := u8_ok hu.1 hu.2
    have hb1 : isBytes (u :: p) := by intro x hx; rcases List.mem_cons.1 hx with rfl | hx; exact hu; exact hb x hx
    have hl1 : (u :: p).length = p.length + 1 := rfl
    have hlr := lrc_b (u :: p)
    have hw2 := u8_ok hlr.1 hlr.2
    have hC := m_Concat [[u], p] (by simp; omega) (by simp)
    rw [show [[u], p].flatten = u :: p by simp] at hC
    have hL := m_Lrc (u :: p) hb1 (by omega)
    have hb2 : isBytes (bodyA u p) := isBytes_snoc hb1 hlr
    have hl2 : (bodyA u p).length = p.length + 2 := by simp [bodyA]
    have hH := m_Hex (bodyA u p) hb2 (by omega)
    have hse := str_els (isBytes_hexL hb2)
    have hhl := hexL_len (bodyA u p)
    have hC2 : PureC Try.prog 81 [.one (.sl 1 ([[IntKind.u8.wrap u], p].map bytesElC))] [bytesV (u :: p)] := by rw [hw]; exact hC
    rw [show putAscii u p = 58 :: hexL (bodyA u p) ++ [13, 10] by simp [putAscii, hP]]
    conv => whnf
    refine call_i hp ?_
    conv => whnf
    refine call_i hC2 ?_
    conv => whnf
    refine call_i hL ?_
    conv => whnf
    refine ⟨⟨rfl, flat_byte [_]⟩, ?_⟩
    conv => whnf
    refine ⟨(bodyA u p).map byteEl, ⟨by show (((u :: p).map byteEl).length + 1) * 1 ≤ 140737488355328; rw [List.length_map]; omega, by rw [hw2]; unfold bodyA; rw [List.map_append]; rfl⟩, ?_⟩
    conv => whnf
    refine call_i hH ?_
    conv => whnf
    refine ⟨by rw [strOfNums_size]; show 1 + _ ≤ _; omega, ?_⟩
    conv => whnf
    have hd1 := bs_data ⟨#[58]⟩ (strOfNums (hexL (bodyA u p)))
    have hd2 := bs_data (⟨#[58]⟩ ++ strOfNums (hexL (bodyA u p))) ⟨#[13, 10]⟩
    have hz : ((⟨#[58]⟩ : ByteArray) ++ strOfNums (hexL (bodyA u p))).size = 1 + (hexL (bodyA u p)).length := by
      have := congrArg List.length hd1
      rw [List.length_append, Array.length_toList, strOfNums_data, List.length_map] at this
      exact this
    have hz2 : ((⟨#[58]⟩ : ByteArray) ++ strOfNums (hexL (bodyA u p)) ++ ⟨#[13, 10]⟩).size = 1 + (hexL (bodyA u p)).length + 2 := by
      have := congrArg List.length hd2
      rw [List.length_append, Array.length_toList, Array.length_toList] at this
      exact this.trans (by rw [← hz]; rfl)
    refine ⟨by rw [hz]; show _ + 2 ≤ _; omega, ?_⟩
    conv => whnf
    refine ⟨(58 :: hexL (bodyA u p) ++ [13, 10]).map byteEl, ⟨by rw [hz2]; omega, by rw [hd2, hd1]; simp only [List.map_append, hse]; rfl⟩, ?_⟩
    conv => whnf
    exact leaf_i rfl rfl rfl
def putRtu (u : Int) (p : List Int) : List Int := if pduB u p then (u :: p) ++ [((crcN 65535 (u :: p) % 256 : Nat) : Int), ((crcN 65535 (u :: p) / 256 : Nat) : Int)] else []
theorem s_PutRtu (u : Int) (p : List Int) (hb : isBytes p) : PureC Try.prog 30 [i64v u, bytesV p] [bytesV (putRtu u p)] := by
  refine pureC_of (Γ := lookT tbl) (il := ilist) tg dr Try.func30 rfl (by kernel_rfl) rfl (Nat.le_of_ble_eq_true rfl) ?_
  have hp := s_pdu u p
  cases hP : pduB u p with
  | false =>
    rw [hP] at hp
    (repeat' ((conv => whnf); first | refine br_i (fun _ => ?_) (fun _ => ?_) | (refine cur_leaf rfl rfl rfl ?_ ?_; · first | assumption | omega | exact hw ‹_›) | refine leaf_i rfl rfl ?_ | refine And.intro rfl ?_ | refine call_i (hp) ?_ | (refine Or.inl ?_; (conv => whnf); refine call_i (hp) ?_) | (refine And.intro ?_ ?_; · decide)))
    all_goals (rw [show putRtu u p = [] by simp [putRtu, hP]]; rfl)
  | true =>
    rw [hP] at hp
    obtain ⟨hu, hp1, hp2⟩ := pdu_b hP
    have hw := u8_ok hu.1 hu.2
    have hb1 : isBytes (u :: p) := by intro x hx; rcases List.mem_cons.1 hx with rfl | hx; exact hu; exact hb x hx
    have hl1 : (u :: p).length = p.length + 1 := rfl
    have hc := s_Crc (u :: p) hb1 (by omega)
    have hs := crcN_lt (u :: p) 65535 hb1 (by decide)
    rw [show putRtu u p = (u :: p) ++ [((crcN 65535 (u :: p) % 256 : Nat) : Int), ((crcN 65535 (u :: p) / 256 : Nat) : Int)] by simp [putRtu, hP]]
    generalize crcN 65535 (u :: p) = c at *
    have u1 := u8w c hs
    have u2 := u8w (c / 256) (by omega)
    rw [Nat.mod_eq_of_lt (show c / 256 < 256 by omega)] at u2
    have sh := shr8B c
    conv => whnf
    refine call_i hp ?_
    conv => whnf
    refine ⟨⟨rfl, flat_byte p⟩, ?_⟩
    conv => whnf
    refine ⟨(u :: p).map byteEl, ⟨by show (1 + (p.map byteEl).length) * 1 ≤ 140737488355328; rw [List.length_map]; omega, by rw [hw]; rfl⟩, ?_⟩
    conv => whnf
    refine call_i hc ?_
    conv => whnf
    refine And.intro (by decide) ?_
    conv => whnf
    refine ⟨⟨rfl, flat_byte [_, _]⟩, ?_⟩
    conv => whnf
    refine ⟨((u :: p) ++ [((c % 256 : Nat) : Int), ((c / 256 : Nat) : Int)]).map byteEl, ⟨by show (((u :: p).map byteEl).length + 2) * 1 ≤ 140737488355328; rw [List.length_map]; omega, by rw [sh, u1, u2, List.map_append]; rfl⟩, ?_⟩
    conv => whnf
    exact leaf_i rfl rfl rfl
theorem m_PutRtu (u : Int) (p : List Int) (hb : isBytes p) : PureC Try.prog 37 [i64v u, bytesV p] [bytesV (putRtu u p)] := by
  refine pureC_of (Γ := lookT tbl) (il := ilist) tg dr Try.func37 rfl (by kernel_rfl) rfl (Nat.le_of_ble_eq_true rfl) ?_
  have hp := m_pdu u p
  cases hP : pduB u p with
  | false =>
    rw [hP] at hp
    (repeat' ((conv => whnf); first | refine br_i (fun _ => ?_) (fun _ => ?_) | (refine cur_leaf rfl rfl rfl ?_ ?_; · first | assumption | omega | exact hw ‹_›) | refine leaf_i rfl rfl ?_ | refine And.intro rfl ?_ | refine call_i (hp) ?_ | (refine Or.inl ?_; (conv => whnf); refine call_i (hp) ?_) | (refine And.intro ?_ ?_; · decide)))
    all_goals (rw [show putRtu u p = [] by simp [putRtu, hP]]; rfl)
  | true =>
    rw [hP] at hp
    obtain ⟨hu, hp1, hp2⟩ := pdu_b hP
    have hw := u8_ok hu.1 hu.2
    have hb1 : isBytes (u :: p) := by intro x hx; rcases List.mem_cons.1 hx with rfl | hx; exact hu; exact hb x hx
    have hl1 : (u :: p).length = p.length + 1 := rfl
    have hC := m_Concat [[u], p] (by simp; omega) (by simp)
    rw [show [[u], p].flatten = u :: p by simp] at hC
    have hC2 : PureC Try.prog 81 [.one (.sl 1 ([[IntKind.u8.wrap u], p].map bytesElC))] [bytesV (u :: p)] := by rw [hw]; exact hC
    have hc := m_Crc (u :: p) hb1 (by omega)
    have hs := crcN_lt (u :: p) 65535 hb1 (by decide)
    rw [show putRtu u p = (u :: p) ++ [((crcN 65535 (u :: p) % 256 : Nat) : Int), ((crcN 65535 (u :: p) / 256 : Nat) : Int)] by simp [putRtu, hP]]
    generalize crcN 65535 (u :: p) = c at *
    have u1 := u8w c hs
    have u2 := u8w (c / 256) (by omega)
    rw [Nat.mod_eq_of_lt (show c / 256 < 256 by omega)] at u2
    have sh := shr8B c
    conv => whnf
    refine call_i hp ?_
    conv => whnf
    refine call_i hC2 ?_
    conv => whnf
    refine call_i hc ?_
    conv => whnf
    refine And.intro (by decide) ?_
    conv => whnf
    refine ⟨⟨rfl, flat_byte [_, _]⟩, ?_⟩
    conv => whnf
    refine ⟨((u :: p) ++ [((c % 256 : Nat) : Int), ((c / 256 : Nat) : Int)]).map byteEl, ⟨by show (((u :: p).map byteEl).length + 2) * 1 ≤ 140737488355328; rw [List.length_map]; omega, by rw [sh, u1, u2, List.map_append]; rfl⟩, ?_⟩
    conv => whnf
    exact leaf_i rfl rfl rfl
def wordL (n : Int) : List Int := [n / 256, n % 256]
theorem hi8 (n : Int) (h : 0 ≤ n ∧ n < 65536) : IntKind.u8.wrap (Int.fdiv n (2 ^ min (Int.toNat 8) IntKind.i64.bits)) = n / 256 := by
  rw [show Int.fdiv n (2 ^ min (Int.toNat 8) IntKind.i64.bits) = n / 256 by show Int.fdiv n 256 = _; rw [Int.fdiv_eq_ediv_of_nonneg _ (by decide)]]
  exact u8_ok (by omega) (by omega)
theorem lo8 (n : Int) (h : 0 ≤ n ∧ n < 65536) : IntKind.u8.wrap n = n % 256 := by
  simp only [IntKind.wrap, IntKind.signed, IntKind.bits]
  simp
theorem mask16 (n : Int) (h : 0 ≤ n ∧ n < 65536) : IntKind.i64.wrap ((BitVec.ofInt IntKind.i64.bits n &&& BitVec.ofInt IntKind.i64.bits 65535).toNat : Nat) = n := by
  have h1 : ((65535 : Int) % 2 ^ 64).toNat = 2 ^ 16 - 1 := by decide
  have h2 : (BitVec.ofInt IntKind.i64.bits n &&& BitVec.ofInt IntKind.i64.bits 65535).toNat = n.toNat := by
    rw [BitVec.toNat_and, BitVec.toNat_ofInt, BitVec.toNat_ofInt]
    show ((n % 2 ^ 64).toNat &&& ((65535 : Int) % 2 ^ 64).toNat) = _
    rw [h1, Nat.and_two_pow_sub_one_eq_mod]
    omega
  rw [h2]
  exact (wrap_ok (by omega) (by omega)).trans (by omega)
theorem s_PutWord (l : List Int) (n : Int) (h : 0 ≤ n ∧ n < 65536) (hl : l.length ≤ 1048576) : PureC Try.prog 72 [bytesV l, i64v n] [bytesV (l ++ wordL n)] := by
  refine pureC_of (Γ := lookT tbl) (il := ilist) tg dr Try.func72 rfl (by kernel_rfl) rfl (Nat.le_of_ble_eq_true rfl) ?_
  have m := mask16 n h
  have h1 := hi8 n h
  have h2 := lo8 n h
  conv => whnf
  refine ⟨⟨rfl, flat_byte l⟩, ?_⟩
  conv => whnf
  refine ⟨l.map byteEl, ⟨by show (0 + (l.map byteEl).length) * 1 ≤ 140737488355328; rw [List.length_map]; omega, rfl⟩, ?_⟩
  conv => whnf
  refine And.intro (by decide) ?_
  conv => whnf
  refine ⟨⟨rfl, flat_byte [_, _]⟩, ?_⟩
  conv => whnf
  refine ⟨(l ++ wordL n).map byteEl, ⟨by show ((l.map byteEl).length + 2) * 1 ≤ 140737488355328; rw [List.length_map]; omega, by rw [m, h1, h2, List.map_append]; rfl⟩, ?_⟩
  conv => whnf
  exact leaf_i rfl rfl rfl
theorem m_PutWord (l : List Int) (n : Int) (h : 0 ≤ n ∧ n < 65536) (hl : l.length ≤ 1048576) : PureC Try.prog 100 [bytesV l, i64v n] [bytesV (l ++ wordL n)] := by
  refine pureC_of (Γ := lookT tbl) (il := ilist) tg dr Try.func100 rfl (by kernel_rfl) rfl (Nat.le_of_ble_eq_true rfl) ?_
  have h1 := hi8 n h
  have h2 := lo8 n h
  conv => whnf
  refine ⟨⟨rfl, flat_byte l⟩, ?_⟩
  conv => whnf
  refine ⟨l.map byteEl, ⟨by show (0 + (l.map byteEl).length) * 1 ≤ 140737488355328; rw [List.length_map]; omega, rfl⟩, ?_⟩
  conv => whnf
  refine And.intro (by decide) ?_
  conv => whnf
  refine ⟨⟨rfl, flat_byte [_, _]⟩, ?_⟩
  conv => whnf
  refine ⟨(l ++ wordL n).map byteEl, ⟨by show ((l.map byteEl).length + 2) * 1 ≤ 140737488355328; rw [List.length_map]; omega, by rw [h1, h2, List.map_append]; rfl⟩, ?_⟩
  conv => whnf
  exact leaf_i rfl rfl rfl
def putMbap (t u : Int) (p : List Int) : List Int := if inB t 0 65535 && pduB u p then (wordL t ++ wordL 0 ++ wordL (p.length + 1) ++ [u]) ++ p else []
theorem s_PutMbap (t u : Int) (p : List Int) (hb : isBytes p) : PureC Try.prog 32 [i64v t, i64v u, bytesV p] [bytesV (putMbap t u p)] := by
  refine pureC_of (Γ := lookT tbl) (il := ilist) tg dr Try.func32 rfl (by kernel_rfl) rfl (Nat.le_of_ble_eq_true rfl) ?_
  have hp := s_pdu u p
  have hi := s_in t 0 65535
  cases hT : inB t 0 65535 with
  | false =>
    rw [hT] at hi
    (repeat' ((conv => whnf); first | refine br_i (fun _ => ?_) (fun _ => ?_) | (refine cur_leaf rfl rfl rfl ?_ ?_; · first | assumption | omega | exact hw ‹_›) | refine leaf_i rfl rfl ?_ | refine And.intro rfl ?_ | refine call_i (hi) ?_ | (refine Or.inl ?_; (conv => whnf); refine call_i (hi) ?_) | refine call_i (hp) ?_ | (refine Or.inl ?_; (conv => whnf); refine call_i (hp) ?_) | (refine And.intro ?_ ?_; · decide)))
    all_goals (rw [show putMbap t u p = [] by simp [putMbap, hT]]; rfl)
  | true =>
  rw [hT] at hi
  cases hP : pduB u p with
  | false =>
    rw [hP] at hp
    (repeat' ((conv => whnf); first | refine br_i (fun _ => ?_) (fun _ => ?_) | (refine cur_leaf rfl rfl rfl ?_ ?_; · first | assumption | omega | exact hw ‹_›) | refine leaf_i rfl rfl ?_ | refine And.intro rfl ?_ | refine call_i (hi) ?_ | (refine Or.inl ?_; (conv => whnf); refine call_i (hi) ?_) | refine call_i (hp) ?_ | (refine Or.inl ?_; (conv => whnf); refine call_i (hp) ?_) | (refine And.intro ?_ ?_; · decide)))
    all_goals (rw [show putMbap t u p = [] by simp [putMbap, hP]]; rfl)
  | true =>
    rw [hP] at hp
    obtain ⟨hu, hp1, hp2⟩ := pdu_b hP
    have ht : 0 ≤ t ∧ t < 65536 := by simp [inB] at hT; omega
    have hw := u8_ok hu.1 hu.2
    have hwl : IntKind.i64.wrap (((p.map byteEl).length : Int) + 1) = (p.length : Int) + 1 := by rw [List.length_map]; exact wrap_ok (by omega) (by omega)
    have w1 := s_PutWord [] t ht (by simp)
    have w2 := s_PutWord ([] ++ wordL t) 0 (by omega) (by simp [wordL])
    have w3 := s_PutWord ([] ++ wordL t ++ wordL 0) ((p.length : Int) + 1) (by omega) (by simp [wordL])
    rw [← hwl] at w3
    rw [show putMbap t u p = (wordL t ++ wordL 0 ++ wordL (p.length + 1) ++ [u]) ++ p by simp [putMbap, hT, hP]]
    conv => whnf
    refine call_i hi ?_
    conv => whnf
    refine call_i hp ?_
    conv => whnf
    refine call_i w1 ?_
    conv => whnf
    refine call_i w2 ?_
    conv => whnf
    refine call_i w3 ?_
    conv => whnf
    refine ⟨⟨rfl, flat_byte [_]⟩, ?_⟩
    conv => whnf
    refine ⟨(wordL t ++ wordL 0 ++ wordL (p.length + 1) ++ [u]).map byteEl, ⟨Nat.le_of_ble_eq_true rfl, by rw [hw, hwl]; rfl⟩, ?_⟩
    conv => whnf
    refine ⟨⟨rfl, flat_byte p⟩, ?_⟩
    conv => whnf
    refine ⟨((wordL t ++ wordL 0 ++ wordL (p.length + 1) ++ [u]) ++ p).map byteEl, ⟨by show (7 + (p.map byteEl).length) * 1 ≤ 140737488355328; rw [List.length_map]; omega, by rw [List.map_append]⟩, ?_⟩
    conv => whnf
    exact leaf_i rfl rfl rfl
def wordsL (ns : List Int) : List Int := ns.flatMap wordL
theorem wordsL_take (ns : List Int) (k : Nat) (h : k < ns.length) : wordsL (ns.take (k + 1)) = wordsL (ns.take k) ++ wordL ns[k] := by
  unfold wordsL
  rw [List.take_succ_eq_append_getElem h, List.flatMap_append]
  simp
theorem wordsL_len (ns : List Int) : (wordsL ns).length = 2 * ns.length := by
  induction ns with
  | nil => rfl
  | cons a l ih => simp [wordsL, wordL] at ih ⊢; omega
theorem m_putWords (l ns : List Int) (h : ∀ n ∈ ns, 0 ≤ n ∧ n < 65536) (h0 : 0 < ns.length) (hl : l.length ≤ 1000) (hn : ns.length ≤ 1000) : PureC Try.prog 86 [bytesV l, intsV ns] [bytesV (l ++ wordsL ns)] := by
  refine pureC_of (Γ := lookT tbl) (il := ilist) tg dr Try.func86 rfl (by kernel_rfl) rfl (Nat.le_of_ble_eq_true rfl) ?_
  conv => whnf
  refine loop_i (fun k : Nat => match k with
    | 0 => ⟨envL [(0, .c (.pv (.sl 1 (l.map byteEl)))), (7, .c (.pv (intsP ns))), (8, .c (.pv (.int .i64 ns.length))), (9, .c (.pv (.int .i64 0)))], resL [], 1, 18⟩
    | k + 1 => ⟨envL [(0, .c (.row 0)), (7, .c (.pv (intsP ns))), (8, .c (.pv (.int .i64 ns.length))), (9, .c (.pv (.int .i64 ((k + 1 : Nat) : Int))))], resL [(0, .row true 1 ((l ++ wordsL (ns.take (k + 1))).map byteEl))], 1, 18⟩) (fun k => k ≤ ns.length) (fun k => ns.length - k) 0 (Nat.zero_le _) (le_mk [] rfl ⟨⟨rfl, rfl⟩, ⟨rfl, rfl⟩, ⟨i64_eq (by simp), rfl⟩, ⟨rfl, rfl⟩, trivial⟩ trivial rfl) ?_
  intro k hk
  cases k with
  | zero =>
    conv => whnf
    refine br_i (fun h1 => ?_) (fun h1 => ?_)
    · have ix := idx_map ns intEl 0 h0 1
      have hw := m_PutWord l ns[0] (h _ (List.getElem_mem _)) (by omega)
      have e := wordsL_take ns 0 h0
      conv => whnf
      refine ⟨_, ix, ?_⟩
      conv => whnf
      refine call_i hw ?_
      conv => whnf
      refine ⟨1, ⟨h0, by omega⟩, le_mk [(0, _)] rfl ⟨⟨rfl, rfl⟩, ⟨rfl, rfl⟩, ⟨rfl, rfl⟩, ⟨i64_eq (by decide), rfl⟩, trivial⟩ ⟨⟨?_, rfl⟩, trivial⟩ rfl⟩
      rw [e]
      rfl
    · exfalso
      have := dge h1
      omega
  | succ k =>
    conv => whnf
    refine br_i (fun h1 => ?_) (fun h1 => ?_)
    · have hlt : k + 1 < ns.length := by have := dlt h1; omega
      have ix := idx_map ns intEl (k + 1) hlt 1
      have hln := wordsL_len (ns.take (k + 1))
      rw [List.length_take] at hln
      have hw := m_PutWord (l ++ wordsL (ns.take (k + 1))) ns[k + 1] (h _ (List.getElem_mem _)) (by rw [List.length_append]; omega)
      have e := wordsL_take ns (k + 1) hlt
      conv => whnf
      refine ⟨_, ix, ?_⟩
      conv => whnf
      refine call_i hw ?_
      conv => whnf
      refine ⟨k + 2, ⟨hlt, by omega⟩, le_mk [(0, _)] rfl ⟨⟨rfl, rfl⟩, ⟨rfl, rfl⟩, ⟨rfl, rfl⟩, ⟨ctr (by omega), rfl⟩, trivial⟩ ⟨⟨?_, rfl⟩, trivial⟩ rfl⟩
      rw [e, ← List.append_assoc]
      rfl
    · have hk2 : k + 1 = ns.length := by have := dge h1; omega
      rw [hk2, List.take_length]
      (repeat' ((conv => whnf); first | refine br_i (fun _ => ?_) (fun _ => ?_) | (refine cur_leaf rfl rfl rfl ?_ ?_; · first | assumption | omega | exact hw ‹_›) | refine leaf_i rfl rfl ?_ | refine And.intro rfl ?_ | (refine And.intro ?_ ?_; · decide)))
      all_goals rfl
theorem m_PutMbap (t u : Int) (p : List Int) (hb : isBytes p) : PureC Try.prog 39 [i64v t, i64v u, bytesV p] [bytesV (putMbap t u p)] := by
  refine pureC_of (Γ := lookT tbl) (il := ilist) tg dr Try.func39 rfl (by kernel_rfl) rfl (Nat.le_of_ble_eq_true rfl) ?_
  have hp := m_pdu u p
  have hi := m_word t
  rw [show word t = inB t 0 65535 from rfl] at hi
  cases hT : inB t 0 65535 with
  | false =>
    rw [hT] at hi
    (repeat' ((conv => whnf); first | refine br_i (fun _ => ?_) (fun _ => ?_) | (refine cur_leaf rfl rfl rfl ?_ ?_; · first | assumption | omega | exact hw ‹_›) | refine leaf_i rfl rfl ?_ | refine And.intro rfl ?_ | refine call_i (hi) ?_ | (refine Or.inl ?_; (conv => whnf); refine call_i (hi) ?_) | refine call_i (hp) ?_ | (refine Or.inl ?_; (conv => whnf); refine call_i (hp) ?_) | (refine And.intro ?_ ?_; · decide)))
    all_goals (rw [show putMbap t u p = [] by simp [putMbap, hT]]; rfl)
  | true =>
  rw [hT] at hi
  cases hP : pduB u p with
  | false =>
    rw [hP] at hp
    (repeat' ((conv => whnf); first | refine br_i (fun _ => ?_) (fun _ => ?_) | (refine cur_leaf rfl rfl rfl ?_ ?_; · first | assumption | omega | exact hw ‹_›) | refine leaf_i rfl rfl ?_ | refine And.intro rfl ?_ | refine call_i (hi) ?_ | (refine Or.inl ?_; (conv => whnf); refine call_i (hi) ?_) | refine call_i (hp) ?_ | (refine Or.inl ?_; (conv => whnf); refine call_i (hp) ?_) | (refine And.intro ?_ ?_; · decide)))
    all_goals (rw [show putMbap t u p = [] by simp [putMbap, hP]]; rfl)
  | true =>
    rw [hP] at hp
    obtain ⟨hu, hp1, hp2⟩ := pdu_b hP
    have ht : 0 ≤ t ∧ t < 65536 := by simp [inB] at hT; omega
    have hw := u8_ok hu.1 hu.2
    have hwl : IntKind.i64.wrap (((p.map byteEl).length : Int) + 1) = (p.length : Int) + 1 := by rw [List.length_map]; exact wrap_ok (by omega) (by omega)
    have w1 := m_putWords [] [t, 0, (p.length : Int) + 1] (by intro n hn; simp at hn; omega) (by simp) (by simp) (by simp)
    rw [← hwl] at w1
    have hH : [] ++ wordsL [t, 0, IntKind.i64.wrap (((p.map byteEl).length : Int) + 1)] = wordL t ++ wordL 0 ++ wordL (p.length + 1) := by rw [hwl]; rfl
    rw [hH] at w1
    have hC := m_Concat [wordL t ++ wordL 0 ++ wordL (p.length + 1), [IntKind.u8.wrap u], p] (by simp [wordL]; omega) (by simp)
    rw [show [wordL t ++ wordL 0 ++ wordL (p.length + 1), [IntKind.u8.wrap u], p].flatten = (wordL t ++ wordL 0 ++ wordL (p.length + 1) ++ [u]) ++ p by rw [hw]; simp] at hC
    rw [show putMbap t u p = (wordL t ++ wordL 0 ++ wordL (p.length + 1) ++ [u]) ++ p by simp [putMbap, hT, hP]]
    conv => whnf
    refine call_i hi ?_
    conv => whnf
    refine call_i hp ?_
    conv => whnf
    refine call_i w1 ?_
    conv => whnf
    refine call_i hC ?_
    conv => whnf
    exact leaf_i rfl rfl rfl

end Go.Proofs.Ytoccphgempbdeaa
