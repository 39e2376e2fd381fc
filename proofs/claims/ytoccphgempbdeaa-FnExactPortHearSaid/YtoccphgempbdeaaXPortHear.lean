/- PortHear: both packages' functions, and the law. -/
import Derived.Test.YtoccphgempbdeaaXPort
namespace Go.Proofs.Ytoccphgempbdeaa
open Go Go.Vi
set_option linter.unusedVariables false
set_option linter.unusedSimpArgs false
set_option maxRecDepth 100000
def bump (e : Int) : Int := if e < 1000000 then e + 1 else 1000000
def takesG (l : List XGot) (e : Int) : List XBox × Int :=
  match l with
  | [] => ([], e)
  | g :: _ => if g.Code = 0 then ([⟨0, g.Unit, g.Pdu⟩], e) else ([], bump e)
def gm (g : XGot) : Nat := 2 + g.Pdu.length
def hear1 (p : XPort) (t b : Int) : XPort × List XBox :=
  if p.Kind = 1 then ({ p with R := (rtuHear p.R b t).1, Errors := (takesG (rtuHear p.R b t).2 p.Errors).2 }, (takesG (rtuHear p.R b t).2 p.Errors).1)
  else ({ p with A := (asciiHear p.A b t).1, Errors := (takesG (asciiHear p.A b t).2 p.Errors).2 }, (takesG (asciiHear p.A b t).2 p.Errors).1)
def hearAll (p : XPort) (t : Int) : List Int → XPort × List XBox
  | [] => (p, [])
  | b :: l => ((hearAll (hear1 p t b).1 t l).1, (hear1 p t b).2 ++ (hearAll (hear1 p t b).1 t l).2)
theorem hear_snoc (t : Int) : ∀ (l : List Int) (p : XPort) (b : Int), hearAll p t (l ++ [b]) = ((hear1 (hearAll p t l).1 t b).1, (hearAll p t l).2 ++ (hear1 (hearAll p t l).1 t b).2)
  | [], p, b => by simp [hearAll]
  | a :: l, p, b => by simp [hearAll, hear_snoc t l]
def portHear (p : XPort) (l : List Int) (t : Int) : XPort × List XBox :=
  if !portOk p || !tickB t then (p, []) else
  if p.Kind = 3 then ({ p with S := (streamHear p.S l).1, Errors := if (streamHear p.S l).1.Shut && !p.S.Shut then bump p.Errors else p.Errors }, (streamHear p.S l).2) else hearAll p t l
theorem wait_got (r : XRtu) (t : Int) : (rtuWait r t).2.length ≤ 1 ∧ ∀ g ∈ (rtuWait r t).2, g.Pdu.length ≤ r.Buf.length := by
  have hg : (gotOf r).Pdu.length ≤ r.Buf.length := by
    unfold gotOf
    split
    · simp
    · simp only [getRtu]
      split
      · simp
      split
      · simp
      split
      · have := cutL_len r.Buf 1 ((r.Buf.length : Int) - 2) (by omega)
        simp only
        omega
      · simp
  unfold rtuWait
  split
  · simp
  · simp; exact hg
theorem wait_buf (r : XRtu) (t : Int) : (rtuWait r t).1.Buf = r.Buf ∨ (rtuWait r t).1.Buf = [] := by
  unfold rtuWait
  split <;> simp
theorem rtu_step {r : XRtu} {b t : Int} (hb : isBytes r.Buf) (h0 : 0 ≤ b ∧ b < 256) (hl : r.Buf.length ≤ 2000) : isBytes (rtuHear r b t).1.Buf ∧ (rtuHear r b t).1.Buf.length ≤ 2000 ∧ (rtuHear r b t).2.length ≤ 1 ∧ ∀ g ∈ (rtuHear r b t).2, g.Pdu.length ≤ 2000 := by
  obtain ⟨w1, w2⟩ := wait_got r t
  have w3 := wait_buf r t
  have hB : isBytes (rtuWait r t).1.Buf ∧ (rtuWait r t).1.Buf.length ≤ 2000 := by
    rcases w3 with w3 | w3
    · rw [w3]; exact ⟨hb, hl⟩
    · rw [w3]; exact ⟨fun x hx => (by cases hx), Nat.zero_le _⟩
  unfold rtuHear
  split
  · exact ⟨hb, hl, Nat.zero_le _, fun g hg => by cases hg⟩
  · refine ⟨?_, ?_, w1, fun g hg => Nat.le_trans (w2 g hg) hl⟩
    · show isBytes (if _ then _ else _)
      split
      · exact isBytes_snoc hB.1 h0
      · exact hB.1
    · show (if _ then _ else _ : List Int).length ≤ 2000
      split
      · rename_i h; rw [List.length_append]; simp; omega
      · exact hB.2
theorem gotA_len (l : List Int) : (gotA l).Pdu.length ≤ l.length := by
  unfold gotA
  simp only [getAscii]
  have h1 := hex_len (cutL l 1 ((l.length : Int) - 2))
  have h2 : (cutL l 1 ((l.length : Int) - 2)).length ≤ l.length := by
    unfold cutL
    rw [List.length_drop, List.length_take]
    omega
  generalize (hexOut (cutL l 1 ((l.length : Int) - 2))).1 = p at *
  have h3 : (cutL p 1 ((p.length : Int) - 1)).length ≤ p.length := by
    unfold cutL
    rw [List.length_drop, List.length_take]
    omega
  split
  · simp
  split
  · simp
  split
  · simp
  split
  · simp
  · simp only; omega
theorem ascii_step {a : XAscii} {b t : Int} (hb : isBytes a.Buf) (h0 : 0 ≤ b ∧ b < 256) (hl : a.Buf.length ≤ 2000) : isBytes (asciiHear a b t).1.Buf ∧ (asciiHear a b t).1.Buf.length ≤ 2000 ∧ (asciiHear a b t).2.length ≤ 1 ∧ ∀ g ∈ (asciiHear a b t).2, g.Pdu.length ≤ 2001 := by
  have hg := gotA_len (a.Buf ++ [b])
  rw [List.length_append] at hg
  simp only [List.length_singleton] at hg
  have n0 : isBytes ([] : List Int) := fun x hx => by cases hx
  have n1 : isBytes [b] := fun x hx => by simp at hx; omega
  have n2 := isBytes_snoc hb h0
  have hok : asciiOk a = true → a.Buf.length ≤ 600 := by
    intro h
    have := ok_len (B := a.Buf) (O := a.Open) (L := a.Last) (W := a.Wait) h
    omega
  have hA : ∀ (P : XAscii × List XGot), P = asciiHear a b t → isBytes P.1.Buf ∧ P.1.Buf.length ≤ 2000 ∧ P.2.length ≤ 1 ∧ ∀ g ∈ P.2, g.Pdu.length ≤ 2001 := by
    intro P hP
    unfold asciiHear at hP
    cases hk : asciiOk a with
    | false =>
      rw [hk] at hP
      simp at hP
      subst hP
      exact ⟨hb, hl, Nat.zero_le _, fun g hg => by cases hg⟩
    | true =>
      have h6 := hok hk
      rw [hk] at hP
      (repeat' split at hP) <;> subst hP <;> (refine ⟨?_, ?_, ?_, ?_⟩) <;> first | exact n0 | exact n1 | exact n2 | exact hb | (simp; done) | (simp; omega) | (intro g hg2; simp at hg2; subst hg2; first | (simp; done) | omega) | (split <;> simp)
  exact hA _ rfl
theorem fBy (l : List Int) : (1 = 1) ∧ Flat (l.map byteEl) := ⟨rfl, flat_byte l⟩
theorem aBy (l : List Int) (h : l.length ≤ 1048576) : (0 + (l.map byteEl).length) * 1 ≤ 140737488355328 ∧ l.map byteEl = [] ++ l.map byteEl := ⟨by rw [List.length_map]; omega, rfl⟩
theorem m_clonePort (p : XPort) (h1 : p.R.Buf.length ≤ 1048576) (h2 : p.A.Buf.length ≤ 1048576) (h3 : p.S.Buf.length ≤ 1048576) : PureC Try.prog 52 [p.v] [p.v] := by
  refine pureC_of (Γ := lookT tbl) (il := ilist) tg dr Try.func52 rfl (by kernel_rfl) rfl (Nat.le_of_ble_eq_true rfl) ?_
  (repeat' ((conv => whnf); first | refine br_i (fun _ => ?_) (fun _ => ?_) | (refine cur_leaf rfl rfl rfl ?_ ?_; · first | assumption | omega | exact hw ‹_›) | refine leaf_i rfl rfl ?_ | refine And.intro rfl ?_ | refine call_i (m_Clone p.R.Buf (by omega)) ?_ | (refine Or.inl ?_; (conv => whnf); refine call_i (m_Clone p.R.Buf (by omega)) ?_) | refine call_i (m_Clone p.A.Buf (by omega)) ?_ | (refine Or.inl ?_; (conv => whnf); refine call_i (m_Clone p.A.Buf (by omega)) ?_) | refine call_i (m_Clone p.S.Buf (by omega)) ?_ | (refine Or.inl ?_; (conv => whnf); refine call_i (m_Clone p.S.Buf (by omega)) ?_) | (refine And.intro ?_ ?_; · decide)))
  all_goals rfl
theorem s_l9Copy (p : XPort) (h1 : p.R.Buf.length ≤ 1048576) (h2 : p.A.Buf.length ≤ 1048576) (h3 : p.S.Buf.length ≤ 1048576) : PureC Try.prog 46 [p.v] [p.v] := by
  refine pureC_of (Γ := lookT tbl) (il := ilist) tg dr Try.func46 rfl (by kernel_rfl) rfl (Nat.le_of_ble_eq_true rfl) ?_
  (repeat' ((conv => whnf); first | refine br_i (fun _ => ?_) (fun _ => ?_) | (refine cur_leaf rfl rfl rfl ?_ ?_; · first | assumption | omega | exact hw ‹_›) | refine leaf_i rfl rfl ?_ | refine And.intro rfl ?_ | (refine And.intro (fBy p.R.Buf) ?_) | (refine And.intro (fBy p.A.Buf) ?_) | (refine And.intro (fBy p.S.Buf) ?_) | (refine Exists.intro (p.R.Buf.map byteEl) (And.intro (aBy p.R.Buf h1) ?_)) | (refine Exists.intro (p.A.Buf.map byteEl) (And.intro (aBy p.A.Buf h2) ?_)) | (refine Exists.intro (p.S.Buf.map byteEl) (And.intro (aBy p.S.Buf h3) ?_)) | (refine And.intro ?_ ?_; · decide)))
  all_goals rfl
/-- What holds of a port that hears byte by byte. -/
structure PI (p q : XPort) : Prop where
  kind : q.Kind = p.Kind
  br : isBytes q.R.Buf
  ba : isBytes q.A.Buf
  lr : q.R.Buf.length ≤ 2000
  la : q.A.Buf.length ≤ 2000
  err : 0 ≤ q.Errors ∧ q.Errors ≤ 1000000
theorem takes_err {l : List XGot} {e : Int} (h : 0 ≤ e ∧ e ≤ 1000000) : 0 ≤ (takesG l e).2 ∧ (takesG l e).2 ≤ 1000000 := by
  unfold takesG
  split
  · exact h
  · split
    · exact h
    · show 0 ≤ bump e ∧ bump e ≤ 1000000
      unfold bump
      split <;> omega
theorem takes_len (l : List XGot) (e : Int) : (takesG l e).1.length ≤ 1 := by
  unfold takesG
  split
  · exact Nat.zero_le _
  · split
    · exact Nat.le_refl _
    · exact Nat.zero_le _
theorem pi_step {p q : XPort} {t b : Int} (h : PI p q) (hb : 0 ≤ b ∧ b < 256) : PI p (hear1 q t b).1 := by
  unfold hear1
  split
  · have hs := rtu_step (b := b) (t := t) h.br hb h.lr
    exact ⟨h.kind, hs.1, h.ba, hs.2.1, h.la, takes_err h.err⟩
  · have hs := ascii_step (b := b) (t := t) h.ba hb h.la
    exact ⟨h.kind, h.br, hs.1, h.lr, hs.2.1, takes_err h.err⟩
theorem hear1_len {p q : XPort} {t b : Int} (h : PI p q) (hb : 0 ≤ b ∧ b < 256) : (hear1 q t b).2.length ≤ 1 := by
  unfold hear1
  split <;> exact takes_len _ _
theorem port_pi {p : XPort} (h : portOk p = true) (hR : isBytes p.R.Buf) (hA : isBytes p.A.Buf) : PI p p := by
  unfold portOk at h
  simp only [Bool.and_eq_true] at h
  obtain ⟨he, h⟩ := h
  have hr : p.R.Buf.length ≤ 2000 ∧ p.A.Buf.length ≤ 2000 := by
    have h1 : rtuOk p.R = true → p.R.Buf.length ≤ 2000 := fun h => by simp [rtuOk] at h; omega
    have h2 : asciiOk p.A = true → p.A.Buf.length ≤ 2000 := fun h => by simp [asciiOk] at h; omega
    have h3 : noA p.A = true → p.A.Buf.length ≤ 2000 := fun h => by simp [noA] at h; rw [h.1.1.1]; exact Nat.zero_le _
    have h4 : noR p.R = true → p.R.Buf.length ≤ 2000 := fun h => by simp [noR] at h; rw [h.1.1.1.1]; exact Nat.zero_le _
    split at h
    · simp only [Bool.and_eq_true] at h; exact ⟨h1 h.1.1, h3 h.1.2⟩
    split at h
    · simp only [Bool.and_eq_true] at h; exact ⟨h4 h.1.1, h2 h.1.2⟩
    split at h
    · simp only [Bool.and_eq_true] at h; exact ⟨h4 h.1.1, h3 h.1.2⟩
    · cases h
  exact ⟨rfl, hR, hA, hr.1, hr.2, by simpa [inB] using he⟩
theorem bump_min {e : Int} (h : 0 ≤ e ∧ e ≤ 1000000) : (if IntKind.i64.wrap (e + 1) < 1000000 then IntKind.i64.wrap (e + 1) else 1000000) = bump e := by
  rw [wrap_ok (by omega) (by omega)]
  unfold bump
  (repeat' split) <;> omega
theorem app_0 (X Y : List XBox) (h : X.length ≤ 1048577) (h2 : Y.length ≤ 1) : ((X.map XBox.ps).length + (Y.map XBox.ps).length) * 40 ≤ 140737488355328 ∧ (X ++ Y).map XBox.ps = X.map XBox.ps ++ Y.map XBox.ps := by
  rw [List.length_map, List.length_map]
  exact ⟨by omega, List.map_append⟩
theorem one_appB (x : List PV) : (([] : List (List PV)).length + [x].length) * 40 ≤ 140737488355328 ∧ ([x] : List (List PV)) = [] ++ [x] := ⟨by simp, rfl⟩
theorem m_PortHear (p : XPort) (l : List Int) (t : Int) (hR : isBytes p.R.Buf) (hA : isBytes p.A.Buf) (hl : isBytes l) (h1 : p.R.Buf.length ≤ 1048576) (h2 : p.A.Buf.length ≤ 1048576) (h3 : p.S.Buf.length ≤ 1048576) (h4 : l.length ≤ 1048576) :
    PureC Try.prog 20 [p.v, bytesV l, i64v t] [(portHear p l t).1.v, XBox.sV (portHear p l t).2] := by
  refine pureC_ofB (Γ := lookT tbl) (il := ilist) tg dr Try.func20 rfl (by kernel_rfl) rfl (Nat.le_of_ble_eq_true rfl) ?_
  have hc := m_clonePort p h1 h2 h3
  have hk := m_PortOk p
  have ht := m_tick t
  have hS := m_StreamHear p.S l h3 h4
  (repeat' ((conv => whnf); first | refine br_i (fun _ => ?_) (fun _ => ?_) | (refine cur_leaf rfl rfl rfl ?_ ?_; · first | assumption | omega | exact hw ‹_›) | refine leaf_i rfl rfl ?_ | refine And.intro rfl ?_ | refine call_i (hc) ?_ | (refine Or.inl ?_; (conv => whnf); refine call_i (hc) ?_) | refine call_i (hk) ?_ | (refine Or.inl ?_; (conv => whnf); refine call_i (hk) ?_) | refine call_i (ht) ?_ | (refine Or.inl ?_; (conv => whnf); refine call_i (ht) ?_) | refine call_i (hS) ?_ | (refine Or.inl ?_; (conv => whnf); refine call_i (hS) ?_) | (refine And.intro ?_ ?_; · decide)))
  · rename_i h
    rw [show portHear p l t = (p, []) by unfold portHear; rw [if_pos (by simp at h; simp [h])]]
    rfl
  · rename_i h0 h
    rw [show portHear p l t = (p, []) by unfold portHear; rw [if_pos (by simp at h; simp [tickB, h])]]
    rfl
  · rename_i h0 h hK ha hb
    have hI := port_pi (by simpa using h0) hR hA
    rw [bump_min hI.err, show portHear p l t = ({ p with S := (streamHear p.S l).1, Errors := if (streamHear p.S l).1.Shut && !p.S.Shut then bump p.Errors else p.Errors }, (streamHear p.S l).2) by unfold portHear; rw [if_neg (by simp at h0 h; simp [tickB, h0, h]), if_pos (by simpa using hK)], if_pos (by rw [ha, hb]; rfl)]
    rfl
  · rename_i h0 h hK ha hb
    rw [show portHear p l t = ({ p with S := (streamHear p.S l).1, Errors := if (streamHear p.S l).1.Shut && !p.S.Shut then bump p.Errors else p.Errors }, (streamHear p.S l).2) by unfold portHear; rw [if_neg (by simp at h0 h; simp [tickB, h0, h]), if_pos (by simpa using hK)], if_neg (by rw [ha, hb]; decide)]
    rfl
  · rename_i h0 h hK ha
    rw [show portHear p l t = ({ p with S := (streamHear p.S l).1, Errors := if (streamHear p.S l).1.Shut && !p.S.Shut then bump p.Errors else p.Errors }, (streamHear p.S l).2) by unfold portHear; rw [if_neg (by simp at h0 h; simp [tickB, h0, h]), if_pos (by simpa using hK)], if_neg (by rw [ha]; simp)]
    rfl
  · rename_i h0 h hK
    have hPI := port_pi (by simpa using h0) hR hA
    have hph : portHear p l t = hearAll p t l := by unfold portHear; rw [if_neg (by simp at h0 h; simp [tickB, h0, h]), if_neg (by simpa using hK)]
    conv => whnf
    refine loop_i (fun s : Nat × XPort × List XBox => ⟨envL [(1, .c (.pv (bytesP l))), (2, .c (.pv (.int .i64 t))), (3, .c (.ptr 0 0)), (6, .c (.ptr 1 0)), (8, .c (.ptr 2 0)), (11, .c (.row 3)), (54, .c (.pv (bytesP l))), (55, .c (.pv (.int .i64 l.length))), (56, .c (.pv (.int .i64 s.1))), (999999, .c .void)], resL [(0, .box (p.ps.map .pv)), (1, .box [.pv (.int .i64 0), .nil 1, .pv (.int .i64 0), .pv (.bool false), .pv (.int .i64 0), .pv (.int .i64 0), .nil 1, .pv (.bool false), .pv (.int .i64 0), .pv (.int .i64 0), .nil 1, .pv (.bool false), .pv (.int .i64 0)]), (2, .box [.pv (.int .i64 s.2.1.Kind), .row 4, .pv (.int .i64 s.2.1.R.Last), .pv (.bool s.2.1.R.Bad), .pv (.int .i64 s.2.1.R.Half), .pv (.int .i64 s.2.1.R.Whole), .row 5, .pv (.bool s.2.1.A.Open), .pv (.int .i64 s.2.1.A.Last), .pv (.int .i64 s.2.1.A.Wait), .row 6, .pv (.bool s.2.1.S.Shut), .pv (.int .i64 (s.2.1.Errors))]), (3, .row true 3 (s.2.2.map XBox.ps)), (4, .row true 1 (s.2.1.R.Buf.map byteEl)), (5, .row true 1 (s.2.1.A.Buf.map byteEl)), (6, .row true 1 (s.2.1.S.Buf.map byteEl))], 7, 88⟩) (fun s => (s.1 ≤ l.length ∧ s.2 = hearAll p t (l.take s.1)) ∧ PI p s.2.1 ∧ s.2.2.length ≤ s.1) (fun s => l.length - s.1) (0, p, []) ⟨⟨Nat.zero_le _, rfl⟩, hPI, Nat.le_refl _⟩
      (le_mk [(0, _), (1, _), (2, _), (3, _), (4, _), (5, _), (6, _)] rfl ⟨⟨rfl, rfl⟩, ⟨rfl, rfl⟩, ⟨rfl, rfl⟩, ⟨rfl, rfl⟩, ⟨rfl, rfl⟩, ⟨rfl, rfl⟩, ⟨rfl, rfl⟩, ⟨i64_eq (by rw [List.length_map]), rfl⟩, ⟨rfl, rfl⟩, ⟨rfl, rfl⟩, trivial⟩ ⟨⟨rfl, rfl⟩, ⟨rfl, rfl⟩, ⟨rfl, rfl⟩, ⟨rfl, rfl⟩, ⟨rfl, rfl⟩, ⟨rfl, rfl⟩, ⟨rfl, rfl⟩, trivial⟩ rfl) ?_
    rintro ⟨k, q, XS⟩ ⟨⟨hk, hq⟩, hI, hXl⟩
    dsimp only at hk hq hI hXl
    conv => whnf
    refine br_i (fun h => ?_) (fun h => ?_)
    · have hlt : k < l.length := by simpa using h
      have hb : 0 ≤ l[k] ∧ l[k] < 256 := hl _ (List.getElem_mem hlt)
      have hnx : hearAll p t (l.take (k + 1)) = ((hear1 q t l[k]).1, XS ++ (hear1 q t l[k]).2) := by
        rw [List.take_succ_eq_append_getElem hlt, hear_snoc, ← hq]
      have hI2 := pi_step (t := t) hI hb
      have h1l := hear1_len (q := q) (t := t) (b := l[k]) hI hb
      conv => whnf
      refine ⟨_, idx_map l byteEl k hlt 1, ?_⟩
      conv => whnf
      refine br_i (fun hK1 => ?_) (fun hK1 => ?_)
      · have hqk : q.Kind = 1 := by have := hI.kind; simp at hK1; omega
        have hh : hear1 q t l[k] = hear1 q t l[k] := rfl
        conv at hh => rhs; unfold hear1
        rw [if_pos hqk] at hh
        have hst := rtu_step (r := q.R) (b := l[k]) (t := t) hI.br hb hI.lr
        have hcall := m_RtuHear q.R l[k] t hI.br (by have := hI.lr; omega)
        generalize rtuHear q.R l[k] t = H at *
        obtain ⟨r2, got⟩ := H
        dsimp only at hh hst hcall
        conv => whnf
        refine call_i hcall ?_
        conv => whnf
        refine inl_of (Γ := lookT tbl) (il := ilist) tg dr Try.func57 rfl (by kernel_rfl) rfl (ts := [83, 77]) (Nat.le_of_ble_eq_true rfl) ?_
        conv => whnf
        match got, hst.2.2.1 with
        | [], _ =>
          refine loop_i (fun _ : Unit => ⟨envL [(0, .c (.ptr 2 0)), (5, .c (.row 9)), (9, .c (.row 8)), (10, .c (.pv (.int .i64 0))), (11, .c (.pv (.int .i64 0))), (999999, .c .void)], resL [(0, .box (p.ps.map .pv)), (1, .box [.pv (.int .i64 0), .nil 1, .pv (.int .i64 0), .pv (.bool false), .pv (.int .i64 0), .pv (.int .i64 0), .nil 1, .pv (.bool false), .pv (.int .i64 0), .pv (.int .i64 0), .nil 1, .pv (.bool false), .pv (.int .i64 0)]), (2, .box [.pv (.int .i64 (⟨q.Kind, r2, q.A, q.S, q.Errors⟩ : XPort).Kind), .row 4, .pv (.int .i64 (⟨q.Kind, r2, q.A, q.S, q.Errors⟩ : XPort).R.Last), .pv (.bool (⟨q.Kind, r2, q.A, q.S, q.Errors⟩ : XPort).R.Bad), .pv (.int .i64 (⟨q.Kind, r2, q.A, q.S, q.Errors⟩ : XPort).R.Half), .pv (.int .i64 (⟨q.Kind, r2, q.A, q.S, q.Errors⟩ : XPort).R.Whole), .row 5, .pv (.bool (⟨q.Kind, r2, q.A, q.S, q.Errors⟩ : XPort).A.Open), .pv (.int .i64 (⟨q.Kind, r2, q.A, q.S, q.Errors⟩ : XPort).A.Last), .pv (.int .i64 (⟨q.Kind, r2, q.A, q.S, q.Errors⟩ : XPort).A.Wait), .row 6, .pv (.bool (⟨q.Kind, r2, q.A, q.S, q.Errors⟩ : XPort).S.Shut), .pv (.int .i64 (q.Errors))]), (3, .row true 3 (XS.map XBox.ps)), (4, .row true 1 ((⟨q.Kind, r2, q.A, q.S, q.Errors⟩ : XPort).R.Buf.map byteEl)), (5, .row true 1 ((⟨q.Kind, r2, q.A, q.S, q.Errors⟩ : XPort).A.Buf.map byteEl)), (6, .row true 1 ((⟨q.Kind, r2, q.A, q.S, q.Errors⟩ : XPort).S.Buf.map byteEl)), (21511, .env [(1, .c (.pv (bytesP l))), (2, .c (.pv (.int .i64 t))), (3, .c (.ptr 0 0)), (6, .c (.ptr 1 0)), (8, .c (.ptr 2 0)), (11, .c (.row 3)), (54, .c (.pv (bytesP l))), (55, .c (.pv (.int .i64 l.length))), (56, .c (.pv (.int .i64 k))), (81, .c (.row 3)), (999999, .c .void)]), (8, .row true 3 []), (9, .row true 3 [])], 21511 + 1, 37⟩) (fun _ => True) (fun _ => 0) () trivial (le_mk [(0, 0), (1, 1), (2, 2), (3, 3), (4, _), (5, _), (6, _), (21511, 21511), (8, _), (9, _)] rfl ⟨⟨rfl, rfl⟩, ⟨rfl, rfl⟩, ⟨rfl, rfl⟩, ⟨rfl, rfl⟩, ⟨rfl, rfl⟩, ⟨rfl, rfl⟩, trivial⟩ ⟨⟨rfl, rfl⟩, ⟨rfl, rfl⟩, ⟨rfl, rfl⟩, ⟨rfl, rfl⟩, ⟨rfl, rfl⟩, ⟨rfl, rfl⟩, ⟨rfl, rfl⟩, ⟨⟨rfl, rfl⟩, _, rfl, ⟨rfl, rfl⟩, ⟨rfl, rfl⟩, ⟨rfl, rfl⟩, ⟨rfl, rfl⟩, ⟨rfl, rfl⟩, ⟨rfl, rfl⟩, ⟨rfl, rfl⟩, ⟨rfl, rfl⟩, ⟨rfl, rfl⟩, ⟨rfl, rfl⟩, ⟨rfl, rfl⟩, trivial⟩, ⟨rfl, rfl⟩, ⟨rfl, rfl⟩, trivial⟩ rfl) ?_
          intro _ _
          conv => whnf
          refine And.intro rfl ?_
          conv => whnf
          refine ⟨_, app_0 XS [] (by omega) (by simp), ?_⟩
          conv => whnf
          exact ⟨(k + 1, ⟨q.Kind, r2, q.A, q.S, q.Errors⟩, XS ++ []), ⟨⟨⟨hlt, by rw [hnx, hh]; simp [takesG]⟩, by rw [hh] at hI2; exact hI2, by rw [List.length_append]; simp; omega⟩, by show l.length - (k + 1) < l.length - k; omega⟩, le_mk [(0, _), (1, _), (2, _), (3, _), (4, _), (5, _), (6, _)] rfl ⟨⟨rfl, rfl⟩, ⟨rfl, rfl⟩, ⟨rfl, rfl⟩, ⟨rfl, rfl⟩, ⟨rfl, rfl⟩, ⟨rfl, rfl⟩, ⟨rfl, rfl⟩, ⟨rfl, rfl⟩, ⟨ctr (by omega), rfl⟩, ⟨rfl, rfl⟩, trivial⟩ ⟨⟨rfl, rfl⟩, ⟨rfl, rfl⟩, ⟨rfl, rfl⟩, ⟨rfl, rfl⟩, ⟨rfl, rfl⟩, ⟨rfl, rfl⟩, ⟨rfl, rfl⟩, trivial⟩ rfl⟩

        | [g], _ =>
          by_cases hc : g.Code = 0
          · have hcb : (g.Code == 0) = true := by simp [hc]
            have htk : takesG [g] q.Errors = ([⟨0, g.Unit, g.Pdu⟩], q.Errors) := by simp [takesG, hc]
            refine loop_i (fun k2 : Nat => match k2 with
              | 0 => ⟨envL [(0, .c (.ptr 2 0)), (5, .c (.row 9)), (9, .c (.row 8)), (10, .c (.pv (.int .i64 1))), (11, .c (.pv (.int .i64 0))), (999999, .c .void)], resL [(0, .box (p.ps.map .pv)), (1, .box [.pv (.int .i64 0), .nil 1, .pv (.int .i64 0), .pv (.bool false), .pv (.int .i64 0), .pv (.int .i64 0), .nil 1, .pv (.bool false), .pv (.int .i64 0), .pv (.int .i64 0), .nil 1, .pv (.bool false), .pv (.int .i64 0)]), (2, .box [.pv (.int .i64 (⟨q.Kind, r2, q.A, q.S, q.Errors⟩ : XPort).Kind), .row 4, .pv (.int .i64 (⟨q.Kind, r2, q.A, q.S, q.Errors⟩ : XPort).R.Last), .pv (.bool (⟨q.Kind, r2, q.A, q.S, q.Errors⟩ : XPort).R.Bad), .pv (.int .i64 (⟨q.Kind, r2, q.A, q.S, q.Errors⟩ : XPort).R.Half), .pv (.int .i64 (⟨q.Kind, r2, q.A, q.S, q.Errors⟩ : XPort).R.Whole), .row 5, .pv (.bool (⟨q.Kind, r2, q.A, q.S, q.Errors⟩ : XPort).A.Open), .pv (.int .i64 (⟨q.Kind, r2, q.A, q.S, q.Errors⟩ : XPort).A.Last), .pv (.int .i64 (⟨q.Kind, r2, q.A, q.S, q.Errors⟩ : XPort).A.Wait), .row 6, .pv (.bool (⟨q.Kind, r2, q.A, q.S, q.Errors⟩ : XPort).S.Shut), .pv (.int .i64 (q.Errors))]), (3, .row true 3 (XS.map XBox.ps)), (4, .row true 1 ((⟨q.Kind, r2, q.A, q.S, q.Errors⟩ : XPort).R.Buf.map byteEl)), (5, .row true 1 ((⟨q.Kind, r2, q.A, q.S, q.Errors⟩ : XPort).A.Buf.map byteEl)), (6, .row true 1 ((⟨q.Kind, r2, q.A, q.S, q.Errors⟩ : XPort).S.Buf.map byteEl)), (21511, .env [(1, .c (.pv (bytesP l))), (2, .c (.pv (.int .i64 t))), (3, .c (.ptr 0 0)), (6, .c (.ptr 1 0)), (8, .c (.ptr 2 0)), (11, .c (.row 3)), (54, .c (.pv (bytesP l))), (55, .c (.pv (.int .i64 l.length))), (56, .c (.pv (.int .i64 k))), (81, .c (.row 3)), (999999, .c .void)]), (8, .row true 3 ([g].map XGot.ps)), (9, .row true 3 [])], 21511 + 1, 37⟩
              | _ + 1 => ⟨envL [(0, .c (.ptr 2 0)), (5, .c (.row 9)), (9, .c (.row 8)), (10, .c (.pv (.int .i64 1))), (11, .c (.pv (.int .i64 1))), (999999, .c .void)], resL [(0, .box (p.ps.map .pv)), (1, .box [.pv (.int .i64 0), .nil 1, .pv (.int .i64 0), .pv (.bool false), .pv (.int .i64 0), .pv (.int .i64 0), .nil 1, .pv (.bool false), .pv (.int .i64 0), .pv (.int .i64 0), .nil 1, .pv (.bool false), .pv (.int .i64 0)]), (2, .box [.pv (.int .i64 (⟨q.Kind, r2, q.A, q.S, q.Errors⟩ : XPort).Kind), .row 4, .pv (.int .i64 (⟨q.Kind, r2, q.A, q.S, q.Errors⟩ : XPort).R.Last), .pv (.bool (⟨q.Kind, r2, q.A, q.S, q.Errors⟩ : XPort).R.Bad), .pv (.int .i64 (⟨q.Kind, r2, q.A, q.S, q.Errors⟩ : XPort).R.Half), .pv (.int .i64 (⟨q.Kind, r2, q.A, q.S, q.Errors⟩ : XPort).R.Whole), .row 5, .pv (.bool (⟨q.Kind, r2, q.A, q.S, q.Errors⟩ : XPort).A.Open), .pv (.int .i64 (⟨q.Kind, r2, q.A, q.S, q.Errors⟩ : XPort).A.Last), .pv (.int .i64 (⟨q.Kind, r2, q.A, q.S, q.Errors⟩ : XPort).A.Wait), .row 6, .pv (.bool (⟨q.Kind, r2, q.A, q.S, q.Errors⟩ : XPort).S.Shut), .pv (.int .i64 (q.Errors))]), (3, .row true 3 (XS.map XBox.ps)), (4, .row true 1 ((⟨q.Kind, r2, q.A, q.S, q.Errors⟩ : XPort).R.Buf.map byteEl)), (5, .row true 1 ((⟨q.Kind, r2, q.A, q.S, q.Errors⟩ : XPort).A.Buf.map byteEl)), (6, .row true 1 ((⟨q.Kind, r2, q.A, q.S, q.Errors⟩ : XPort).S.Buf.map byteEl)), (21511, .env [(1, .c (.pv (bytesP l))), (2, .c (.pv (.int .i64 t))), (3, .c (.ptr 0 0)), (6, .c (.ptr 1 0)), (8, .c (.ptr 2 0)), (11, .c (.row 3)), (54, .c (.pv (bytesP l))), (55, .c (.pv (.int .i64 l.length))), (56, .c (.pv (.int .i64 k))), (81, .c (.row 3)), (999999, .c .void)]), (8, .row false 3 ([g].map XGot.ps)), (9, .row true 3 (([⟨0, g.Unit, g.Pdu⟩] : List XBox).map XBox.ps))], 21511 + 1, 37⟩) (fun k2 => k2 ≤ 1) (fun k2 => 1 - k2) 0 (Nat.zero_le _) (le_mk [(0, 0), (1, 1), (2, 2), (3, 3), (4, _), (5, _), (6, _), (21511, 21511), (8, _), (9, _)] rfl ⟨⟨rfl, rfl⟩, ⟨rfl, rfl⟩, ⟨rfl, rfl⟩, ⟨rfl, rfl⟩, ⟨rfl, rfl⟩, ⟨rfl, rfl⟩, trivial⟩ ⟨⟨rfl, rfl⟩, ⟨rfl, rfl⟩, ⟨rfl, rfl⟩, ⟨rfl, rfl⟩, ⟨rfl, rfl⟩, ⟨rfl, rfl⟩, ⟨rfl, rfl⟩, ⟨⟨rfl, rfl⟩, _, rfl, ⟨rfl, rfl⟩, ⟨rfl, rfl⟩, ⟨rfl, rfl⟩, ⟨rfl, rfl⟩, ⟨rfl, rfl⟩, ⟨rfl, rfl⟩, ⟨rfl, rfl⟩, ⟨rfl, rfl⟩, ⟨rfl, rfl⟩, ⟨rfl, rfl⟩, ⟨rfl, rfl⟩, trivial⟩, ⟨rfl, rfl⟩, ⟨rfl, rfl⟩, trivial⟩ rfl) ?_
            intro k2 hk2
            obtain rfl | rfl : k2 = 0 ∨ k2 = 1 := by omega
            · conv => whnf
              refine ⟨0, ⟨⟨rfl, Nat.succ_pos _⟩, rfl⟩, ?_⟩
              conv => whnf
              refine Or.inr ⟨XGot.ps g, ⟨⟨⟨rfl, rfl⟩, rfl⟩, rfl, rfl⟩, ?_⟩
              conv => whnf
              refine br_i (fun h => ?_) (fun h => absurd h (by rw [hcb]; decide))
              conv => whnf
              refine And.intro rfl ?_
              conv => whnf
              refine ⟨_, one_appB _, ?_⟩
              conv => whnf
              exact ⟨1, ⟨Nat.le_refl _, by decide⟩, le_mk [(0, 0), (1, 1), (2, 2), (3, 3), (4, 4), (5, 5), (6, 6), (21511, 21511), (8, _), (9, _)] rfl ⟨⟨rfl, rfl⟩, ⟨rfl, rfl⟩, ⟨rfl, rfl⟩, ⟨rfl, rfl⟩, ⟨rfl, rfl⟩, ⟨rfl, rfl⟩, trivial⟩ ⟨⟨rfl, rfl⟩, ⟨rfl, rfl⟩, ⟨rfl, rfl⟩, ⟨rfl, rfl⟩, ⟨rfl, rfl⟩, ⟨rfl, rfl⟩, ⟨rfl, rfl⟩, ⟨⟨rfl, rfl⟩, _, rfl, ⟨rfl, rfl⟩, ⟨rfl, rfl⟩, ⟨rfl, rfl⟩, ⟨rfl, rfl⟩, ⟨rfl, rfl⟩, ⟨rfl, rfl⟩, ⟨rfl, rfl⟩, ⟨rfl, rfl⟩, ⟨rfl, rfl⟩, ⟨rfl, rfl⟩, ⟨rfl, rfl⟩, trivial⟩, ⟨rfl, rfl⟩, ⟨rfl, rfl⟩, trivial⟩ rfl⟩
            · conv => whnf
              refine And.intro rfl ?_
              conv => whnf
              refine ⟨_, app_0 XS [⟨0, g.Unit, g.Pdu⟩] (by omega) (by simp), ?_⟩
              conv => whnf
              exact ⟨(k + 1, ⟨q.Kind, r2, q.A, q.S, q.Errors⟩, XS ++ [⟨0, g.Unit, g.Pdu⟩]), ⟨⟨⟨hlt, by rw [hnx, hh]; rw [htk]⟩, by rw [hh, htk] at hI2; exact hI2, by rw [List.length_append]; simp; omega⟩, by show l.length - (k + 1) < l.length - k; omega⟩, le_mk [(0, _), (1, _), (2, _), (3, _), (4, _), (5, _), (6, _)] rfl ⟨⟨rfl, rfl⟩, ⟨rfl, rfl⟩, ⟨rfl, rfl⟩, ⟨rfl, rfl⟩, ⟨rfl, rfl⟩, ⟨rfl, rfl⟩, ⟨rfl, rfl⟩, ⟨rfl, rfl⟩, ⟨ctr (by omega), rfl⟩, ⟨rfl, rfl⟩, trivial⟩ ⟨⟨rfl, rfl⟩, ⟨rfl, rfl⟩, ⟨rfl, rfl⟩, ⟨rfl, rfl⟩, ⟨rfl, rfl⟩, ⟨rfl, rfl⟩, ⟨rfl, rfl⟩, trivial⟩ rfl⟩
          · have hcb : (g.Code == 0) = false := by simp [hc]
            have htk : takesG [g] q.Errors = ([], bump q.Errors) := by simp [takesG, hc]
            refine loop_i (fun k2 : Nat => match k2 with
              | 0 => ⟨envL [(0, .c (.ptr 2 0)), (5, .c (.row 9)), (9, .c (.row 8)), (10, .c (.pv (.int .i64 1))), (11, .c (.pv (.int .i64 0))), (999999, .c .void)], resL [(0, .box (p.ps.map .pv)), (1, .box [.pv (.int .i64 0), .nil 1, .pv (.int .i64 0), .pv (.bool false), .pv (.int .i64 0), .pv (.int .i64 0), .nil 1, .pv (.bool false), .pv (.int .i64 0), .pv (.int .i64 0), .nil 1, .pv (.bool false), .pv (.int .i64 0)]), (2, .box [.pv (.int .i64 (⟨q.Kind, r2, q.A, q.S, q.Errors⟩ : XPort).Kind), .row 4, .pv (.int .i64 (⟨q.Kind, r2, q.A, q.S, q.Errors⟩ : XPort).R.Last), .pv (.bool (⟨q.Kind, r2, q.A, q.S, q.Errors⟩ : XPort).R.Bad), .pv (.int .i64 (⟨q.Kind, r2, q.A, q.S, q.Errors⟩ : XPort).R.Half), .pv (.int .i64 (⟨q.Kind, r2, q.A, q.S, q.Errors⟩ : XPort).R.Whole), .row 5, .pv (.bool (⟨q.Kind, r2, q.A, q.S, q.Errors⟩ : XPort).A.Open), .pv (.int .i64 (⟨q.Kind, r2, q.A, q.S, q.Errors⟩ : XPort).A.Last), .pv (.int .i64 (⟨q.Kind, r2, q.A, q.S, q.Errors⟩ : XPort).A.Wait), .row 6, .pv (.bool (⟨q.Kind, r2, q.A, q.S, q.Errors⟩ : XPort).S.Shut), .pv (.int .i64 (q.Errors))]), (3, .row true 3 (XS.map XBox.ps)), (4, .row true 1 ((⟨q.Kind, r2, q.A, q.S, q.Errors⟩ : XPort).R.Buf.map byteEl)), (5, .row true 1 ((⟨q.Kind, r2, q.A, q.S, q.Errors⟩ : XPort).A.Buf.map byteEl)), (6, .row true 1 ((⟨q.Kind, r2, q.A, q.S, q.Errors⟩ : XPort).S.Buf.map byteEl)), (21511, .env [(1, .c (.pv (bytesP l))), (2, .c (.pv (.int .i64 t))), (3, .c (.ptr 0 0)), (6, .c (.ptr 1 0)), (8, .c (.ptr 2 0)), (11, .c (.row 3)), (54, .c (.pv (bytesP l))), (55, .c (.pv (.int .i64 l.length))), (56, .c (.pv (.int .i64 k))), (81, .c (.row 3)), (999999, .c .void)]), (8, .row true 3 ([g].map XGot.ps)), (9, .row true 3 [])], 21511 + 1, 37⟩
              | _ + 1 => ⟨envL [(0, .c (.ptr 2 0)), (5, .c (.row 9)), (9, .c (.row 8)), (10, .c (.pv (.int .i64 1))), (11, .c (.pv (.int .i64 1))), (999999, .c .void)], resL [(0, .box (p.ps.map .pv)), (1, .box [.pv (.int .i64 0), .nil 1, .pv (.int .i64 0), .pv (.bool false), .pv (.int .i64 0), .pv (.int .i64 0), .nil 1, .pv (.bool false), .pv (.int .i64 0), .pv (.int .i64 0), .nil 1, .pv (.bool false), .pv (.int .i64 0)]), (2, .box [.pv (.int .i64 (⟨q.Kind, r2, q.A, q.S, q.Errors⟩ : XPort).Kind), .row 4, .pv (.int .i64 (⟨q.Kind, r2, q.A, q.S, q.Errors⟩ : XPort).R.Last), .pv (.bool (⟨q.Kind, r2, q.A, q.S, q.Errors⟩ : XPort).R.Bad), .pv (.int .i64 (⟨q.Kind, r2, q.A, q.S, q.Errors⟩ : XPort).R.Half), .pv (.int .i64 (⟨q.Kind, r2, q.A, q.S, q.Errors⟩ : XPort).R.Whole), .row 5, .pv (.bool (⟨q.Kind, r2, q.A, q.S, q.Errors⟩ : XPort).A.Open), .pv (.int .i64 (⟨q.Kind, r2, q.A, q.S, q.Errors⟩ : XPort).A.Last), .pv (.int .i64 (⟨q.Kind, r2, q.A, q.S, q.Errors⟩ : XPort).A.Wait), .row 6, .pv (.bool (⟨q.Kind, r2, q.A, q.S, q.Errors⟩ : XPort).S.Shut), .pv (.int .i64 (bump q.Errors))]), (3, .row true 3 (XS.map XBox.ps)), (4, .row true 1 ((⟨q.Kind, r2, q.A, q.S, q.Errors⟩ : XPort).R.Buf.map byteEl)), (5, .row true 1 ((⟨q.Kind, r2, q.A, q.S, q.Errors⟩ : XPort).A.Buf.map byteEl)), (6, .row true 1 ((⟨q.Kind, r2, q.A, q.S, q.Errors⟩ : XPort).S.Buf.map byteEl)), (21511, .env [(1, .c (.pv (bytesP l))), (2, .c (.pv (.int .i64 t))), (3, .c (.ptr 0 0)), (6, .c (.ptr 1 0)), (8, .c (.ptr 2 0)), (11, .c (.row 3)), (54, .c (.pv (bytesP l))), (55, .c (.pv (.int .i64 l.length))), (56, .c (.pv (.int .i64 k))), (81, .c (.row 3)), (999999, .c .void)]), (8, .row false 3 ([g].map XGot.ps)), (9, .row true 3 (([] : List XBox).map XBox.ps))], 21511 + 1, 37⟩) (fun k2 => k2 ≤ 1) (fun k2 => 1 - k2) 0 (Nat.zero_le _) (le_mk [(0, 0), (1, 1), (2, 2), (3, 3), (4, _), (5, _), (6, _), (21511, 21511), (8, _), (9, _)] rfl ⟨⟨rfl, rfl⟩, ⟨rfl, rfl⟩, ⟨rfl, rfl⟩, ⟨rfl, rfl⟩, ⟨rfl, rfl⟩, ⟨rfl, rfl⟩, trivial⟩ ⟨⟨rfl, rfl⟩, ⟨rfl, rfl⟩, ⟨rfl, rfl⟩, ⟨rfl, rfl⟩, ⟨rfl, rfl⟩, ⟨rfl, rfl⟩, ⟨rfl, rfl⟩, ⟨⟨rfl, rfl⟩, _, rfl, ⟨rfl, rfl⟩, ⟨rfl, rfl⟩, ⟨rfl, rfl⟩, ⟨rfl, rfl⟩, ⟨rfl, rfl⟩, ⟨rfl, rfl⟩, ⟨rfl, rfl⟩, ⟨rfl, rfl⟩, ⟨rfl, rfl⟩, ⟨rfl, rfl⟩, ⟨rfl, rfl⟩, trivial⟩, ⟨rfl, rfl⟩, ⟨rfl, rfl⟩, trivial⟩ rfl) ?_
            intro k2 hk2
            obtain rfl | rfl : k2 = 0 ∨ k2 = 1 := by omega
            · conv => whnf
              refine ⟨0, ⟨⟨rfl, Nat.succ_pos _⟩, rfl⟩, ?_⟩
              conv => whnf
              refine Or.inr ⟨XGot.ps g, ⟨⟨⟨rfl, rfl⟩, rfl⟩, rfl, rfl⟩, ?_⟩
              conv => whnf
              refine br_i (fun h => absurd h (by rw [hcb]; decide)) (fun h => ?_)
              conv => whnf
              exact ⟨1, ⟨Nat.le_refl _, by decide⟩, le_mk [(0, 0), (1, 1), (2, 2), (3, 3), (4, 4), (5, 5), (6, 6), (21511, 21511), (8, _), (9, _)] rfl ⟨⟨rfl, rfl⟩, ⟨rfl, rfl⟩, ⟨rfl, rfl⟩, ⟨rfl, rfl⟩, ⟨rfl, rfl⟩, ⟨rfl, rfl⟩, trivial⟩ ⟨⟨rfl, rfl⟩, ⟨rfl, rfl⟩, ⟨by rw [← bump_min hI.err]; rfl, rfl⟩, ⟨rfl, rfl⟩, ⟨rfl, rfl⟩, ⟨rfl, rfl⟩, ⟨rfl, rfl⟩, ⟨⟨rfl, rfl⟩, _, rfl, ⟨rfl, rfl⟩, ⟨rfl, rfl⟩, ⟨rfl, rfl⟩, ⟨rfl, rfl⟩, ⟨rfl, rfl⟩, ⟨rfl, rfl⟩, ⟨rfl, rfl⟩, ⟨rfl, rfl⟩, ⟨rfl, rfl⟩, ⟨rfl, rfl⟩, ⟨rfl, rfl⟩, trivial⟩, ⟨rfl, rfl⟩, ⟨rfl, rfl⟩, trivial⟩ rfl⟩
            · conv => whnf
              refine And.intro rfl ?_
              conv => whnf
              refine ⟨_, app_0 XS [] (by omega) (by simp), ?_⟩
              conv => whnf
              exact ⟨(k + 1, ⟨q.Kind, r2, q.A, q.S, bump q.Errors⟩, XS ++ []), ⟨⟨⟨hlt, by rw [hnx, hh]; rw [htk]⟩, by rw [hh, htk] at hI2; exact hI2, by rw [List.length_append]; simp; omega⟩, by show l.length - (k + 1) < l.length - k; omega⟩, le_mk [(0, _), (1, _), (2, _), (3, _), (4, _), (5, _), (6, _)] rfl ⟨⟨rfl, rfl⟩, ⟨rfl, rfl⟩, ⟨rfl, rfl⟩, ⟨rfl, rfl⟩, ⟨rfl, rfl⟩, ⟨rfl, rfl⟩, ⟨rfl, rfl⟩, ⟨rfl, rfl⟩, ⟨ctr (by omega), rfl⟩, ⟨rfl, rfl⟩, trivial⟩ ⟨⟨rfl, rfl⟩, ⟨rfl, rfl⟩, ⟨rfl, rfl⟩, ⟨rfl, rfl⟩, ⟨rfl, rfl⟩, ⟨rfl, rfl⟩, ⟨rfl, rfl⟩, trivial⟩ rfl⟩

      · have hqk : ¬ q.Kind = 1 := by have := hI.kind; simp at hK1; omega
        have hh : hear1 q t l[k] = hear1 q t l[k] := rfl
        conv at hh => rhs; unfold hear1
        rw [if_neg hqk] at hh
        have hst := ascii_step (a := q.A) (b := l[k]) (t := t) hI.ba hb hI.la
        have hcall := m_AsciiHear q.A l[k] t hI.ba hb (by have := hI.la; omega)
        generalize asciiHear q.A l[k] t = H at *
        obtain ⟨r2, got⟩ := H
        dsimp only at hh hst hcall
        conv => whnf
        refine call_i hcall ?_
        conv => whnf
        refine inl_of (Γ := lookT tbl) (il := ilist) tg dr Try.func57 rfl (by kernel_rfl) rfl (ts := [83, 77]) (Nat.le_of_ble_eq_true rfl) ?_
        conv => whnf
        match got, hst.2.2.1 with
        | [], _ =>
          refine loop_i (fun _ : Unit => ⟨envL [(0, .c (.ptr 2 0)), (5, .c (.row 9)), (9, .c (.row 8)), (10, .c (.pv (.int .i64 0))), (11, .c (.pv (.int .i64 0))), (999999, .c .void)], resL [(0, .box (p.ps.map .pv)), (1, .box [.pv (.int .i64 0), .nil 1, .pv (.int .i64 0), .pv (.bool false), .pv (.int .i64 0), .pv (.int .i64 0), .nil 1, .pv (.bool false), .pv (.int .i64 0), .pv (.int .i64 0), .nil 1, .pv (.bool false), .pv (.int .i64 0)]), (2, .box [.pv (.int .i64 (⟨q.Kind, q.R, r2, q.S, q.Errors⟩ : XPort).Kind), .row 4, .pv (.int .i64 (⟨q.Kind, q.R, r2, q.S, q.Errors⟩ : XPort).R.Last), .pv (.bool (⟨q.Kind, q.R, r2, q.S, q.Errors⟩ : XPort).R.Bad), .pv (.int .i64 (⟨q.Kind, q.R, r2, q.S, q.Errors⟩ : XPort).R.Half), .pv (.int .i64 (⟨q.Kind, q.R, r2, q.S, q.Errors⟩ : XPort).R.Whole), .row 5, .pv (.bool (⟨q.Kind, q.R, r2, q.S, q.Errors⟩ : XPort).A.Open), .pv (.int .i64 (⟨q.Kind, q.R, r2, q.S, q.Errors⟩ : XPort).A.Last), .pv (.int .i64 (⟨q.Kind, q.R, r2, q.S, q.Errors⟩ : XPort).A.Wait), .row 6, .pv (.bool (⟨q.Kind, q.R, r2, q.S, q.Errors⟩ : XPort).S.Shut), .pv (.int .i64 (q.Errors))]), (3, .row true 3 (XS.map XBox.ps)), (4, .row true 1 ((⟨q.Kind, q.R, r2, q.S, q.Errors⟩ : XPort).R.Buf.map byteEl)), (5, .row true 1 ((⟨q.Kind, q.R, r2, q.S, q.Errors⟩ : XPort).A.Buf.map byteEl)), (6, .row true 1 ((⟨q.Kind, q.R, r2, q.S, q.Errors⟩ : XPort).S.Buf.map byteEl)), (21511, .env [(1, .c (.pv (bytesP l))), (2, .c (.pv (.int .i64 t))), (3, .c (.ptr 0 0)), (6, .c (.ptr 1 0)), (8, .c (.ptr 2 0)), (11, .c (.row 3)), (54, .c (.pv (bytesP l))), (55, .c (.pv (.int .i64 l.length))), (56, .c (.pv (.int .i64 k))), (81, .c (.row 3)), (999999, .c .void)]), (8, .row true 3 []), (9, .row true 3 [])], 21511 + 1, 37⟩) (fun _ => True) (fun _ => 0) () trivial (le_mk [(0, 0), (1, 1), (2, 2), (3, 3), (4, _), (5, _), (6, _), (21511, 21511), (8, _), (9, _)] rfl ⟨⟨rfl, rfl⟩, ⟨rfl, rfl⟩, ⟨rfl, rfl⟩, ⟨rfl, rfl⟩, ⟨rfl, rfl⟩, ⟨rfl, rfl⟩, trivial⟩ ⟨⟨rfl, rfl⟩, ⟨rfl, rfl⟩, ⟨rfl, rfl⟩, ⟨rfl, rfl⟩, ⟨rfl, rfl⟩, ⟨rfl, rfl⟩, ⟨rfl, rfl⟩, ⟨⟨rfl, rfl⟩, _, rfl, ⟨rfl, rfl⟩, ⟨rfl, rfl⟩, ⟨rfl, rfl⟩, ⟨rfl, rfl⟩, ⟨rfl, rfl⟩, ⟨rfl, rfl⟩, ⟨rfl, rfl⟩, ⟨rfl, rfl⟩, ⟨rfl, rfl⟩, ⟨rfl, rfl⟩, ⟨rfl, rfl⟩, trivial⟩, ⟨rfl, rfl⟩, ⟨rfl, rfl⟩, trivial⟩ rfl) ?_
          intro _ _
          conv => whnf
          refine And.intro rfl ?_
          conv => whnf
          refine ⟨_, app_0 XS [] (by omega) (by simp), ?_⟩
          conv => whnf
          exact ⟨(k + 1, ⟨q.Kind, q.R, r2, q.S, q.Errors⟩, XS ++ []), ⟨⟨⟨hlt, by rw [hnx, hh]; simp [takesG]⟩, by rw [hh] at hI2; exact hI2, by rw [List.length_append]; simp; omega⟩, by show l.length - (k + 1) < l.length - k; omega⟩, le_mk [(0, _), (1, _), (2, _), (3, _), (4, _), (5, _), (6, _)] rfl ⟨⟨rfl, rfl⟩, ⟨rfl, rfl⟩, ⟨rfl, rfl⟩, ⟨rfl, rfl⟩, ⟨rfl, rfl⟩, ⟨rfl, rfl⟩, ⟨rfl, rfl⟩, ⟨rfl, rfl⟩, ⟨ctr (by omega), rfl⟩, ⟨rfl, rfl⟩, trivial⟩ ⟨⟨rfl, rfl⟩, ⟨rfl, rfl⟩, ⟨rfl, rfl⟩, ⟨rfl, rfl⟩, ⟨rfl, rfl⟩, ⟨rfl, rfl⟩, ⟨rfl, rfl⟩, trivial⟩ rfl⟩

        | [g], _ =>
          by_cases hc : g.Code = 0
          · have hcb : (g.Code == 0) = true := by simp [hc]
            have htk : takesG [g] q.Errors = ([⟨0, g.Unit, g.Pdu⟩], q.Errors) := by simp [takesG, hc]
            refine loop_i (fun k2 : Nat => match k2 with
              | 0 => ⟨envL [(0, .c (.ptr 2 0)), (5, .c (.row 9)), (9, .c (.row 8)), (10, .c (.pv (.int .i64 1))), (11, .c (.pv (.int .i64 0))), (999999, .c .void)], resL [(0, .box (p.ps.map .pv)), (1, .box [.pv (.int .i64 0), .nil 1, .pv (.int .i64 0), .pv (.bool false), .pv (.int .i64 0), .pv (.int .i64 0), .nil 1, .pv (.bool false), .pv (.int .i64 0), .pv (.int .i64 0), .nil 1, .pv (.bool false), .pv (.int .i64 0)]), (2, .box [.pv (.int .i64 (⟨q.Kind, q.R, r2, q.S, q.Errors⟩ : XPort).Kind), .row 4, .pv (.int .i64 (⟨q.Kind, q.R, r2, q.S, q.Errors⟩ : XPort).R.Last), .pv (.bool (⟨q.Kind, q.R, r2, q.S, q.Errors⟩ : XPort).R.Bad), .pv (.int .i64 (⟨q.Kind, q.R, r2, q.S, q.Errors⟩ : XPort).R.Half), .pv (.int .i64 (⟨q.Kind, q.R, r2, q.S, q.Errors⟩ : XPort).R.Whole), .row 5, .pv (.bool (⟨q.Kind, q.R, r2, q.S, q.Errors⟩ : XPort).A.Open), .pv (.int .i64 (⟨q.Kind, q.R, r2, q.S, q.Errors⟩ : XPort).A.Last), .pv (.int .i64 (⟨q.Kind, q.R, r2, q.S, q.Errors⟩ : XPort).A.Wait), .row 6, .pv (.bool (⟨q.Kind, q.R, r2, q.S, q.Errors⟩ : XPort).S.Shut), .pv (.int .i64 (q.Errors))]), (3, .row true 3 (XS.map XBox.ps)), (4, .row true 1 ((⟨q.Kind, q.R, r2, q.S, q.Errors⟩ : XPort).R.Buf.map byteEl)), (5, .row true 1 ((⟨q.Kind, q.R, r2, q.S, q.Errors⟩ : XPort).A.Buf.map byteEl)), (6, .row true 1 ((⟨q.Kind, q.R, r2, q.S, q.Errors⟩ : XPort).S.Buf.map byteEl)), (21511, .env [(1, .c (.pv (bytesP l))), (2, .c (.pv (.int .i64 t))), (3, .c (.ptr 0 0)), (6, .c (.ptr 1 0)), (8, .c (.ptr 2 0)), (11, .c (.row 3)), (54, .c (.pv (bytesP l))), (55, .c (.pv (.int .i64 l.length))), (56, .c (.pv (.int .i64 k))), (81, .c (.row 3)), (999999, .c .void)]), (8, .row true 3 ([g].map XGot.ps)), (9, .row true 3 [])], 21511 + 1, 37⟩
              | _ + 1 => ⟨envL [(0, .c (.ptr 2 0)), (5, .c (.row 9)), (9, .c (.row 8)), (10, .c (.pv (.int .i64 1))), (11, .c (.pv (.int .i64 1))), (999999, .c .void)], resL [(0, .box (p.ps.map .pv)), (1, .box [.pv (.int .i64 0), .nil 1, .pv (.int .i64 0), .pv (.bool false), .pv (.int .i64 0), .pv (.int .i64 0), .nil 1, .pv (.bool false), .pv (.int .i64 0), .pv (.int .i64 0), .nil 1, .pv (.bool false), .pv (.int .i64 0)]), (2, .box [.pv (.int .i64 (⟨q.Kind, q.R, r2, q.S, q.Errors⟩ : XPort).Kind), .row 4, .pv (.int .i64 (⟨q.Kind, q.R, r2, q.S, q.Errors⟩ : XPort).R.Last), .pv (.bool (⟨q.Kind, q.R, r2, q.S, q.Errors⟩ : XPort).R.Bad), .pv (.int .i64 (⟨q.Kind, q.R, r2, q.S, q.Errors⟩ : XPort).R.Half), .pv (.int .i64 (⟨q.Kind, q.R, r2, q.S, q.Errors⟩ : XPort).R.Whole), .row 5, .pv (.bool (⟨q.Kind, q.R, r2, q.S, q.Errors⟩ : XPort).A.Open), .pv (.int .i64 (⟨q.Kind, q.R, r2, q.S, q.Errors⟩ : XPort).A.Last), .pv (.int .i64 (⟨q.Kind, q.R, r2, q.S, q.Errors⟩ : XPort).A.Wait), .row 6, .pv (.bool (⟨q.Kind, q.R, r2, q.S, q.Errors⟩ : XPort).S.Shut), .pv (.int .i64 (q.Errors))]), (3, .row true 3 (XS.map XBox.ps)), (4, .row true 1 ((⟨q.Kind, q.R, r2, q.S, q.Errors⟩ : XPort).R.Buf.map byteEl)), (5, .row true 1 ((⟨q.Kind, q.R, r2, q.S, q.Errors⟩ : XPort).A.Buf.map byteEl)), (6, .row true 1 ((⟨q.Kind, q.R, r2, q.S, q.Errors⟩ : XPort).S.Buf.map byteEl)), (21511, .env [(1, .c (.pv (bytesP l))), (2, .c (.pv (.int .i64 t))), (3, .c (.ptr 0 0)), (6, .c (.ptr 1 0)), (8, .c (.ptr 2 0)), (11, .c (.row 3)), (54, .c (.pv (bytesP l))), (55, .c (.pv (.int .i64 l.length))), (56, .c (.pv (.int .i64 k))), (81, .c (.row 3)), (999999, .c .void)]), (8, .row false 3 ([g].map XGot.ps)), (9, .row true 3 (([⟨0, g.Unit, g.Pdu⟩] : List XBox).map XBox.ps))], 21511 + 1, 37⟩) (fun k2 => k2 ≤ 1) (fun k2 => 1 - k2) 0 (Nat.zero_le _) (le_mk [(0, 0), (1, 1), (2, 2), (3, 3), (4, _), (5, _), (6, _), (21511, 21511), (8, _), (9, _)] rfl ⟨⟨rfl, rfl⟩, ⟨rfl, rfl⟩, ⟨rfl, rfl⟩, ⟨rfl, rfl⟩, ⟨rfl, rfl⟩, ⟨rfl, rfl⟩, trivial⟩ ⟨⟨rfl, rfl⟩, ⟨rfl, rfl⟩, ⟨rfl, rfl⟩, ⟨rfl, rfl⟩, ⟨rfl, rfl⟩, ⟨rfl, rfl⟩, ⟨rfl, rfl⟩, ⟨⟨rfl, rfl⟩, _, rfl, ⟨rfl, rfl⟩, ⟨rfl, rfl⟩, ⟨rfl, rfl⟩, ⟨rfl, rfl⟩, ⟨rfl, rfl⟩, ⟨rfl, rfl⟩, ⟨rfl, rfl⟩, ⟨rfl, rfl⟩, ⟨rfl, rfl⟩, ⟨rfl, rfl⟩, ⟨rfl, rfl⟩, trivial⟩, ⟨rfl, rfl⟩, ⟨rfl, rfl⟩, trivial⟩ rfl) ?_
            intro k2 hk2
            obtain rfl | rfl : k2 = 0 ∨ k2 = 1 := by omega
            · conv => whnf
              refine ⟨0, ⟨⟨rfl, Nat.succ_pos _⟩, rfl⟩, ?_⟩
              conv => whnf
              refine Or.inr ⟨XGot.ps g, ⟨⟨⟨rfl, rfl⟩, rfl⟩, rfl, rfl⟩, ?_⟩
              conv => whnf
              refine br_i (fun h => ?_) (fun h => absurd h (by rw [hcb]; decide))
              conv => whnf
              refine And.intro rfl ?_
              conv => whnf
              refine ⟨_, one_appB _, ?_⟩
              conv => whnf
              exact ⟨1, ⟨Nat.le_refl _, by decide⟩, le_mk [(0, 0), (1, 1), (2, 2), (3, 3), (4, 4), (5, 5), (6, 6), (21511, 21511), (8, _), (9, _)] rfl ⟨⟨rfl, rfl⟩, ⟨rfl, rfl⟩, ⟨rfl, rfl⟩, ⟨rfl, rfl⟩, ⟨rfl, rfl⟩, ⟨rfl, rfl⟩, trivial⟩ ⟨⟨rfl, rfl⟩, ⟨rfl, rfl⟩, ⟨rfl, rfl⟩, ⟨rfl, rfl⟩, ⟨rfl, rfl⟩, ⟨rfl, rfl⟩, ⟨rfl, rfl⟩, ⟨⟨rfl, rfl⟩, _, rfl, ⟨rfl, rfl⟩, ⟨rfl, rfl⟩, ⟨rfl, rfl⟩, ⟨rfl, rfl⟩, ⟨rfl, rfl⟩, ⟨rfl, rfl⟩, ⟨rfl, rfl⟩, ⟨rfl, rfl⟩, ⟨rfl, rfl⟩, ⟨rfl, rfl⟩, ⟨rfl, rfl⟩, trivial⟩, ⟨rfl, rfl⟩, ⟨rfl, rfl⟩, trivial⟩ rfl⟩
            · conv => whnf
              refine And.intro rfl ?_
              conv => whnf
              refine ⟨_, app_0 XS [⟨0, g.Unit, g.Pdu⟩] (by omega) (by simp), ?_⟩
              conv => whnf
              exact ⟨(k + 1, ⟨q.Kind, q.R, r2, q.S, q.Errors⟩, XS ++ [⟨0, g.Unit, g.Pdu⟩]), ⟨⟨⟨hlt, by rw [hnx, hh]; rw [htk]⟩, by rw [hh, htk] at hI2; exact hI2, by rw [List.length_append]; simp; omega⟩, by show l.length - (k + 1) < l.length - k; omega⟩, le_mk [(0, _), (1, _), (2, _), (3, _), (4, _), (5, _), (6, _)] rfl ⟨⟨rfl, rfl⟩, ⟨rfl, rfl⟩, ⟨rfl, rfl⟩, ⟨rfl, rfl⟩, ⟨rfl, rfl⟩, ⟨rfl, rfl⟩, ⟨rfl, rfl⟩, ⟨rfl, rfl⟩, ⟨ctr (by omega), rfl⟩, ⟨rfl, rfl⟩, trivial⟩ ⟨⟨rfl, rfl⟩, ⟨rfl, rfl⟩, ⟨rfl, rfl⟩, ⟨rfl, rfl⟩, ⟨rfl, rfl⟩, ⟨rfl, rfl⟩, ⟨rfl, rfl⟩, trivial⟩ rfl⟩
          · have hcb : (g.Code == 0) = false := by simp [hc]
            have htk : takesG [g] q.Errors = ([], bump q.Errors) := by simp [takesG, hc]
            refine loop_i (fun k2 : Nat => match k2 with
              | 0 => ⟨envL [(0, .c (.ptr 2 0)), (5, .c (.row 9)), (9, .c (.row 8)), (10, .c (.pv (.int .i64 1))), (11, .c (.pv (.int .i64 0))), (999999, .c .void)], resL [(0, .box (p.ps.map .pv)), (1, .box [.pv (.int .i64 0), .nil 1, .pv (.int .i64 0), .pv (.bool false), .pv (.int .i64 0), .pv (.int .i64 0), .nil 1, .pv (.bool false), .pv (.int .i64 0), .pv (.int .i64 0), .nil 1, .pv (.bool false), .pv (.int .i64 0)]), (2, .box [.pv (.int .i64 (⟨q.Kind, q.R, r2, q.S, q.Errors⟩ : XPort).Kind), .row 4, .pv (.int .i64 (⟨q.Kind, q.R, r2, q.S, q.Errors⟩ : XPort).R.Last), .pv (.bool (⟨q.Kind, q.R, r2, q.S, q.Errors⟩ : XPort).R.Bad), .pv (.int .i64 (⟨q.Kind, q.R, r2, q.S, q.Errors⟩ : XPort).R.Half), .pv (.int .i64 (⟨q.Kind, q.R, r2, q.S, q.Errors⟩ : XPort).R.Whole), .row 5, .pv (.bool (⟨q.Kind, q.R, r2, q.S, q.Errors⟩ : XPort).A.Open), .pv (.int .i64 (⟨q.Kind, q.R, r2, q.S, q.Errors⟩ : XPort).A.Last), .pv (.int .i64 (⟨q.Kind, q.R, r2, q.S, q.Errors⟩ : XPort).A.Wait), .row 6, .pv (.bool (⟨q.Kind, q.R, r2, q.S, q.Errors⟩ : XPort).S.Shut), .pv (.int .i64 (q.Errors))]), (3, .row true 3 (XS.map XBox.ps)), (4, .row true 1 ((⟨q.Kind, q.R, r2, q.S, q.Errors⟩ : XPort).R.Buf.map byteEl)), (5, .row true 1 ((⟨q.Kind, q.R, r2, q.S, q.Errors⟩ : XPort).A.Buf.map byteEl)), (6, .row true 1 ((⟨q.Kind, q.R, r2, q.S, q.Errors⟩ : XPort).S.Buf.map byteEl)), (21511, .env [(1, .c (.pv (bytesP l))), (2, .c (.pv (.int .i64 t))), (3, .c (.ptr 0 0)), (6, .c (.ptr 1 0)), (8, .c (.ptr 2 0)), (11, .c (.row 3)), (54, .c (.pv (bytesP l))), (55, .c (.pv (.int .i64 l.length))), (56, .c (.pv (.int .i64 k))), (81, .c (.row 3)), (999999, .c .void)]), (8, .row true 3 ([g].map XGot.ps)), (9, .row true 3 [])], 21511 + 1, 37⟩
              | _ + 1 => ⟨envL [(0, .c (.ptr 2 0)), (5, .c (.row 9)), (9, .c (.row 8)), (10, .c (.pv (.int .i64 1))), (11, .c (.pv (.int .i64 1))), (999999, .c .void)], resL [(0, .box (p.ps.map .pv)), (1, .box [.pv (.int .i64 0), .nil 1, .pv (.int .i64 0), .pv (.bool false), .pv (.int .i64 0), .pv (.int .i64 0), .nil 1, .pv (.bool false), .pv (.int .i64 0), .pv (.int .i64 0), .nil 1, .pv (.bool false), .pv (.int .i64 0)]), (2, .box [.pv (.int .i64 (⟨q.Kind, q.R, r2, q.S, q.Errors⟩ : XPort).Kind), .row 4, .pv (.int .i64 (⟨q.Kind, q.R, r2, q.S, q.Errors⟩ : XPort).R.Last), .pv (.bool (⟨q.Kind, q.R, r2, q.S, q.Errors⟩ : XPort).R.Bad), .pv (.int .i64 (⟨q.Kind, q.R, r2, q.S, q.Errors⟩ : XPort).R.Half), .pv (.int .i64 (⟨q.Kind, q.R, r2, q.S, q.Errors⟩ : XPort).R.Whole), .row 5, .pv (.bool (⟨q.Kind, q.R, r2, q.S, q.Errors⟩ : XPort).A.Open), .pv (.int .i64 (⟨q.Kind, q.R, r2, q.S, q.Errors⟩ : XPort).A.Last), .pv (.int .i64 (⟨q.Kind, q.R, r2, q.S, q.Errors⟩ : XPort).A.Wait), .row 6, .pv (.bool (⟨q.Kind, q.R, r2, q.S, q.Errors⟩ : XPort).S.Shut), .pv (.int .i64 (bump q.Errors))]), (3, .row true 3 (XS.map XBox.ps)), (4, .row true 1 ((⟨q.Kind, q.R, r2, q.S, q.Errors⟩ : XPort).R.Buf.map byteEl)), (5, .row true 1 ((⟨q.Kind, q.R, r2, q.S, q.Errors⟩ : XPort).A.Buf.map byteEl)), (6, .row true 1 ((⟨q.Kind, q.R, r2, q.S, q.Errors⟩ : XPort).S.Buf.map byteEl)), (21511, .env [(1, .c (.pv (bytesP l))), (2, .c (.pv (.int .i64 t))), (3, .c (.ptr 0 0)), (6, .c (.ptr 1 0)), (8, .c (.ptr 2 0)), (11, .c (.row 3)), (54, .c (.pv (bytesP l))), (55, .c (.pv (.int .i64 l.length))), (56, .c (.pv (.int .i64 k))), (81, .c (.row 3)), (999999, .c .void)]), (8, .row false 3 ([g].map XGot.ps)), (9, .row true 3 (([] : List XBox).map XBox.ps))], 21511 + 1, 37⟩) (fun k2 => k2 ≤ 1) (fun k2 => 1 - k2) 0 (Nat.zero_le _) (le_mk [(0, 0), (1, 1), (2, 2), (3, 3), (4, _), (5, _), (6, _), (21511, 21511), (8, _), (9, _)] rfl ⟨⟨rfl, rfl⟩, ⟨rfl, rfl⟩, ⟨rfl, rfl⟩, ⟨rfl, rfl⟩, ⟨rfl, rfl⟩, ⟨rfl, rfl⟩, trivial⟩ ⟨⟨rfl, rfl⟩, ⟨rfl, rfl⟩, ⟨rfl, rfl⟩, ⟨rfl, rfl⟩, ⟨rfl, rfl⟩, ⟨rfl, rfl⟩, ⟨rfl, rfl⟩, ⟨⟨rfl, rfl⟩, _, rfl, ⟨rfl, rfl⟩, ⟨rfl, rfl⟩, ⟨rfl, rfl⟩, ⟨rfl, rfl⟩, ⟨rfl, rfl⟩, ⟨rfl, rfl⟩, ⟨rfl, rfl⟩, ⟨rfl, rfl⟩, ⟨rfl, rfl⟩, ⟨rfl, rfl⟩, ⟨rfl, rfl⟩, trivial⟩, ⟨rfl, rfl⟩, ⟨rfl, rfl⟩, trivial⟩ rfl) ?_
            intro k2 hk2
            obtain rfl | rfl : k2 = 0 ∨ k2 = 1 := by omega
            · conv => whnf
              refine ⟨0, ⟨⟨rfl, Nat.succ_pos _⟩, rfl⟩, ?_⟩
              conv => whnf
              refine Or.inr ⟨XGot.ps g, ⟨⟨⟨rfl, rfl⟩, rfl⟩, rfl, rfl⟩, ?_⟩
              conv => whnf
              refine br_i (fun h => absurd h (by rw [hcb]; decide)) (fun h => ?_)
              conv => whnf
              exact ⟨1, ⟨Nat.le_refl _, by decide⟩, le_mk [(0, 0), (1, 1), (2, 2), (3, 3), (4, 4), (5, 5), (6, 6), (21511, 21511), (8, _), (9, _)] rfl ⟨⟨rfl, rfl⟩, ⟨rfl, rfl⟩, ⟨rfl, rfl⟩, ⟨rfl, rfl⟩, ⟨rfl, rfl⟩, ⟨rfl, rfl⟩, trivial⟩ ⟨⟨rfl, rfl⟩, ⟨rfl, rfl⟩, ⟨by rw [← bump_min hI.err]; rfl, rfl⟩, ⟨rfl, rfl⟩, ⟨rfl, rfl⟩, ⟨rfl, rfl⟩, ⟨rfl, rfl⟩, ⟨⟨rfl, rfl⟩, _, rfl, ⟨rfl, rfl⟩, ⟨rfl, rfl⟩, ⟨rfl, rfl⟩, ⟨rfl, rfl⟩, ⟨rfl, rfl⟩, ⟨rfl, rfl⟩, ⟨rfl, rfl⟩, ⟨rfl, rfl⟩, ⟨rfl, rfl⟩, ⟨rfl, rfl⟩, ⟨rfl, rfl⟩, trivial⟩, ⟨rfl, rfl⟩, ⟨rfl, rfl⟩, trivial⟩ rfl⟩
            · conv => whnf
              refine And.intro rfl ?_
              conv => whnf
              refine ⟨_, app_0 XS [] (by omega) (by simp), ?_⟩
              conv => whnf
              exact ⟨(k + 1, ⟨q.Kind, q.R, r2, q.S, bump q.Errors⟩, XS ++ []), ⟨⟨⟨hlt, by rw [hnx, hh]; rw [htk]⟩, by rw [hh, htk] at hI2; exact hI2, by rw [List.length_append]; simp; omega⟩, by show l.length - (k + 1) < l.length - k; omega⟩, le_mk [(0, _), (1, _), (2, _), (3, _), (4, _), (5, _), (6, _)] rfl ⟨⟨rfl, rfl⟩, ⟨rfl, rfl⟩, ⟨rfl, rfl⟩, ⟨rfl, rfl⟩, ⟨rfl, rfl⟩, ⟨rfl, rfl⟩, ⟨rfl, rfl⟩, ⟨rfl, rfl⟩, ⟨ctr (by omega), rfl⟩, ⟨rfl, rfl⟩, trivial⟩ ⟨⟨rfl, rfl⟩, ⟨rfl, rfl⟩, ⟨rfl, rfl⟩, ⟨rfl, rfl⟩, ⟨rfl, rfl⟩, ⟨rfl, rfl⟩, ⟨rfl, rfl⟩, trivial⟩ rfl⟩

    · have hk2 : k = l.length := by simp at h; omega
      subst hk2
      conv => whnf
      refine leaf_i rfl rfl ?_
      rw [List.take_length] at hq
      rw [hph, ← hq]
      rfl


end Go.Proofs.Ytoccphgempbdeaa
