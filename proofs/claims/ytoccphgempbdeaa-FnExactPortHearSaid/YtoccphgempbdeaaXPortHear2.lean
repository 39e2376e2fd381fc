/- PortHear: the reference, and the law. -/
import Derived.Test.YtoccphgempbdeaaXPortHear
namespace Go.Proofs.Ytoccphgempbdeaa
open Go Go.Vi
set_option linter.unusedVariables false
set_option linter.unusedSimpArgs false
set_option maxRecDepth 100000
theorem s_PortHear (p : XPort) (l : List Int) (t : Int) (hR : isBytes p.R.Buf) (hA : isBytes p.A.Buf) (hl : isBytes l) (h1 : p.R.Buf.length ≤ 1048576) (h2 : p.A.Buf.length ≤ 1048576) (h3 : p.S.Buf.length ≤ 1048576) (h4 : l.length ≤ 1048576) :
    PureC Try.prog 18 [p.v, bytesV l, i64v t] [(portHear p l t).1.v, XBox.sV (portHear p l t).2] := by
  refine pureC_of (Γ := lookT tbl) (il := ilist) tg dr Try.func18 rfl (by kernel_rfl) rfl (Nat.le_of_ble_eq_true rfl) ?_
  have hc := s_l9Copy p h1 h2 h3
  have hk := s_PortOk p
  have ht := s_tick t
  have hS := s_StreamHear p.S l h3 h4
  (repeat' ((conv => whnf); first | refine br_i (fun _ => ?_) (fun _ => ?_) | (refine cur_leaf rfl rfl rfl ?_ ?_; · first | assumption | omega | exact hw ‹_›) | refine leaf_i rfl rfl ?_ | refine And.intro rfl ?_ | refine call_i (hc) ?_ | (refine Or.inl ?_; (conv => whnf); refine call_i (hc) ?_) | refine call_i (hk) ?_ | (refine Or.inl ?_; (conv => whnf); refine call_i (hk) ?_) | refine call_i (ht) ?_ | (refine Or.inl ?_; (conv => whnf); refine call_i (ht) ?_) | refine call_i (hS) ?_ | (refine Or.inl ?_; (conv => whnf); refine call_i (hS) ?_) | (refine And.intro ?_ ?_; · decide)))
  · rename_i h
    rw [show portHear p l t = (p, []) by unfold portHear; rw [if_pos (by simp at h; simp [h])]]
    rfl
  · rename_i h0 h
    rw [show portHear p l t = (p, []) by unfold portHear; rw [if_pos (by simp at h; simp [tickB, h])]]
    rfl
  · rename_i h0 h hK ha hb he
    have hI := port_pi (by simpa using h0) hR hA
    have hbu : bump p.Errors = IntKind.i64.wrap (p.Errors + 1) := by
      have h5 := dlt he
      have := hI.err
      rw [wrap_ok (by omega) (by omega)]
      exact if_pos h5
    rw [← hbu, show portHear p l t = ({ p with S := (streamHear p.S l).1, Errors := if (streamHear p.S l).1.Shut && !p.S.Shut then bump p.Errors else p.Errors }, (streamHear p.S l).2) by unfold portHear; rw [if_neg (by simp at h0 h; simp [tickB, h0, h]), if_pos (by simpa using hK)], if_pos (by rw [ha, hb]; rfl)]
    rfl
  · rename_i h0 h hK ha hb he
    have hI := port_pi (by simpa using h0) hR hA
    have hbu : bump p.Errors = p.Errors := by
      have h5 := dge he
      have := hI.err
      unfold bump
      rw [if_neg (by omega)]
      omega
    rw [show portHear p l t = ({ p with S := (streamHear p.S l).1, Errors := if (streamHear p.S l).1.Shut && !p.S.Shut then bump p.Errors else p.Errors }, (streamHear p.S l).2) by unfold portHear; rw [if_neg (by simp at h0 h; simp [tickB, h0, h]), if_pos (by simpa using hK)], if_pos (by rw [ha, hb]; rfl), hbu]
    rfl
  · rename_i h0 h hK ha hb
    rw [show portHear p l t = ({ p with S := (streamHear p.S l).1, Errors := if (streamHear p.S l).1.Shut && !p.S.Shut then bump p.Errors else p.Errors }, (streamHear p.S l).2) by unfold portHear; rw [if_neg (by simp at h0 h; simp [tickB, h0, h]), if_pos (by simpa using hK)], if_neg (by rw [ha, hb]; decide)]
    rfl
  · rename_i h0 h hK ha
    rw [show portHear p l t = ({ p with S := (streamHear p.S l).1, Errors := if (streamHear p.S l).1.Shut && !p.S.Shut then bump p.Errors else p.Errors }, (streamHear p.S l).2) by unfold portHear; rw [if_neg (by simp at h0 h; simp [tickB, h0, h]), if_pos (by simpa using hK)], if_neg (by rw [ha]; simp)]
    rfl
  · rename_i h0 h hK
    have hPI := port_pi (by simpa using h0) hR hA
    have hph : portHear p l t = hearAll p t l := by unfold portHear; rw [if_neg (by simp at h0 h; simp [tickB, h0, h]), if_neg (by simpa using hK)]
    conv => whnf
    refine loop_i (fun s : Nat × XPort × List XBox => ⟨envL [(1, .c (.pv (bytesP l))), (2, .c (.pv (.int .i64 t))), (3, .c (.ptr 0 0)), (6, .c (.ptr 1 0)), (8, .c (.ptr 2 0)), (9, .c (.row 3)), (12, .c (.pv (.int .i64 s.1)))], resL [(0, .box (p.ps.map .pv)), (1, .box [.pv (.int .i64 0), .nil 1, .pv (.int .i64 0), .pv (.bool false), .pv (.int .i64 0), .pv (.int .i64 0), .nil 1, .pv (.bool false), .pv (.int .i64 0), .pv (.int .i64 0), .nil 1, .pv (.bool false), .pv (.int .i64 0)]), (2, .box [.pv (.int .i64 s.2.1.Kind), .row 4, .pv (.int .i64 s.2.1.R.Last), .pv (.bool s.2.1.R.Bad), .pv (.int .i64 s.2.1.R.Half), .pv (.int .i64 s.2.1.R.Whole), .row 5, .pv (.bool s.2.1.A.Open), .pv (.int .i64 s.2.1.A.Last), .pv (.int .i64 s.2.1.A.Wait), .row 6, .pv (.bool s.2.1.S.Shut), .pv (.int .i64 (s.2.1.Errors))]), (3, .row true 3 (s.2.2.map XBox.ps)), (4, .row true 1 (s.2.1.R.Buf.map byteEl)), (5, .row true 1 (s.2.1.A.Buf.map byteEl)), (6, .row true 1 (s.2.1.S.Buf.map byteEl))], 7, 97⟩) (fun s => (s.1 ≤ l.length ∧ s.2 = hearAll p t (l.take s.1)) ∧ PI p s.2.1 ∧ s.2.2.length ≤ s.1) (fun s => l.length - s.1) (0, p, []) ⟨⟨Nat.zero_le _, rfl⟩, hPI, Nat.le_refl _⟩
      (le_mk [(0, _), (1, _), (2, _), (3, _), (4, _), (5, _), (6, _)] rfl ⟨⟨rfl, rfl⟩, ⟨rfl, rfl⟩, ⟨rfl, rfl⟩, ⟨rfl, rfl⟩, ⟨rfl, rfl⟩, ⟨rfl, rfl⟩, ⟨rfl, rfl⟩, trivial⟩ ⟨⟨rfl, rfl⟩, ⟨rfl, rfl⟩, ⟨rfl, rfl⟩, ⟨rfl, rfl⟩, ⟨rfl, rfl⟩, ⟨rfl, rfl⟩, ⟨rfl, rfl⟩, trivial⟩ rfl) ?_
    rintro ⟨k, q, XS⟩ ⟨⟨hk, hq⟩, hI, hXl⟩
    dsimp only at hk hq hI hXl
    conv => whnf
    refine br_i (fun h => ?_) (fun h => ?_)
    · have hlt : k < l.length := by simpa using h
      have hb : 0 ≤ l[k] ∧ l[k] < 256 := hl _ (List.getElem_mem hlt)
      have hnx : hearAll p t (l.take (k + 1)) = ((hear1 q t l[k]).1, XS ++ (hear1 q t l[k]).2) := by
        rw [List.take_succ_eq_append_getElem hlt, hear_snoc, ← hq]
      have hI2 := pi_step (t := t) hI hb
      have h1l := hear1_len (q := q) (t := t) (b := l[k]) hI hb
      conv => whnf
      refine br_i (fun hK1 => ?_) (fun hK1 => ?_)
      · have hqk : q.Kind = 1 := by have := hI.kind; simp at hK1; omega
        have hh : hear1 q t l[k] = hear1 q t l[k] := rfl
        conv at hh => rhs; unfold hear1
        rw [if_pos hqk] at hh
        have hst := rtu_step (r := q.R) (b := l[k]) (t := t) hI.br hb hI.lr
        have hcall := s_RtuHear q.R l[k] t hI.br (by have := hI.lr; omega)
        generalize rtuHear q.R l[k] t = H at *
        obtain ⟨r2, got⟩ := H
        dsimp only at hh hst hcall
        conv => whnf
        refine ⟨_, idx_map l byteEl k hlt 1, ?_⟩
        conv => whnf
        refine call_i hcall ?_
        conv => whnf
        refine And.intro rfl ?_
        conv => whnf
        refine inl_of (Γ := lookT tbl) (il := ilist) tg dr Try.func51 rfl (by kernel_rfl) rfl (ts := [83, 77, 51]) (Nat.le_of_ble_eq_true rfl) ?_
        conv => whnf
        match got, hst.2.2.1 with
        | [], _ =>
          refine loop_i (fun _ : Unit => ⟨envL [(0, .c (.ptr 2 0)), (1, .c (.row 8)), (2, .c (.row 3)), (7, .c (.pv (.int .i64 0)))], resL [(0, .box (p.ps.map .pv)), (1, .box [.pv (.int .i64 0), .nil 1, .pv (.int .i64 0), .pv (.bool false), .pv (.int .i64 0), .pv (.int .i64 0), .nil 1, .pv (.bool false), .pv (.int .i64 0), .pv (.int .i64 0), .nil 1, .pv (.bool false), .pv (.int .i64 0)]), (2, .box [.pv (.int .i64 (⟨q.Kind, r2, q.A, q.S, q.Errors⟩ : XPort).Kind), .row 4, .pv (.int .i64 (⟨q.Kind, r2, q.A, q.S, q.Errors⟩ : XPort).R.Last), .pv (.bool (⟨q.Kind, r2, q.A, q.S, q.Errors⟩ : XPort).R.Bad), .pv (.int .i64 (⟨q.Kind, r2, q.A, q.S, q.Errors⟩ : XPort).R.Half), .pv (.int .i64 (⟨q.Kind, r2, q.A, q.S, q.Errors⟩ : XPort).R.Whole), .row 5, .pv (.bool (⟨q.Kind, r2, q.A, q.S, q.Errors⟩ : XPort).A.Open), .pv (.int .i64 (⟨q.Kind, r2, q.A, q.S, q.Errors⟩ : XPort).A.Last), .pv (.int .i64 (⟨q.Kind, r2, q.A, q.S, q.Errors⟩ : XPort).A.Wait), .row 6, .pv (.bool (⟨q.Kind, r2, q.A, q.S, q.Errors⟩ : XPort).S.Shut), .pv (.int .i64 (q.Errors))]), (3, .row true 3 (XS.map XBox.ps)), (4, .row true 1 ((⟨q.Kind, r2, q.A, q.S, q.Errors⟩ : XPort).R.Buf.map byteEl)), (5, .row true 1 ((⟨q.Kind, r2, q.A, q.S, q.Errors⟩ : XPort).A.Buf.map byteEl)), (6, .row true 1 ((⟨q.Kind, r2, q.A, q.S, q.Errors⟩ : XPort).S.Buf.map byteEl)), (25607, .env [(1, .c (.pv (bytesP l))), (2, .c (.pv (.int .i64 t))), (3, .c (.ptr 0 0)), (6, .c (.ptr 1 0)), (8, .c (.ptr 2 0)), (12, .c (.pv (.int .i64 k)))]), (8, .row true 3 [])], 25607 + 1, 48⟩) (fun _ => True) (fun _ => 0) () trivial (le_mk [(0, 0), (1, 1), (2, 2), (3, 3), (4, _), (5, _), (6, _), (25607, 25607), (8, _)] rfl ⟨⟨rfl, rfl⟩, ⟨rfl, rfl⟩, ⟨rfl, rfl⟩, ⟨rfl, rfl⟩, trivial⟩ ⟨⟨rfl, rfl⟩, ⟨rfl, rfl⟩, ⟨rfl, rfl⟩, ⟨rfl, rfl⟩, ⟨rfl, rfl⟩, ⟨rfl, rfl⟩, ⟨rfl, rfl⟩, ⟨⟨rfl, rfl⟩, _, rfl, ⟨rfl, rfl⟩, ⟨rfl, rfl⟩, ⟨rfl, rfl⟩, ⟨rfl, rfl⟩, ⟨rfl, rfl⟩, ⟨rfl, rfl⟩, trivial⟩, ⟨rfl, rfl⟩, trivial⟩ rfl) ?_
          intro _ _
          conv => whnf
          exact ⟨(k + 1, ⟨q.Kind, r2, q.A, q.S, q.Errors⟩, XS), ⟨⟨⟨hlt, by rw [hnx, hh]; simp [takesG]⟩, by rw [hh] at hI2; exact hI2, by show XS.length ≤ k + 1; omega⟩, by show l.length - (k + 1) < l.length - k; omega⟩, le_mk [(0, _), (1, _), (2, _), (3, _), (4, _), (5, _), (6, _)] rfl ⟨⟨rfl, rfl⟩, ⟨rfl, rfl⟩, ⟨rfl, rfl⟩, ⟨rfl, rfl⟩, ⟨rfl, rfl⟩, ⟨rfl, rfl⟩, ⟨ctr (by omega), rfl⟩, trivial⟩ ⟨⟨rfl, rfl⟩, ⟨rfl, rfl⟩, ⟨rfl, rfl⟩, ⟨rfl, rfl⟩, ⟨rfl, rfl⟩, ⟨rfl, rfl⟩, ⟨rfl, rfl⟩, trivial⟩ rfl⟩

        | [g], _ =>
          by_cases hc : g.Code = 0
          · have hcb : (g.Code == 0) = true := by simp [hc]
            have htk : takesG [g] q.Errors = ([⟨0, g.Unit, g.Pdu⟩], q.Errors) := by simp [takesG, hc]
            refine loop_i (fun k2 : Nat => match k2 with
              | 0 => ⟨envL [(0, .c (.ptr 2 0)), (1, .c (.row 8)), (2, .c (.row 3)), (7, .c (.pv (.int .i64 0)))], upd (updL (upd (resL [(0, .box (p.ps.map .pv)), (1, .box [.pv (.int .i64 0), .nil 1, .pv (.int .i64 0), .pv (.bool false), .pv (.int .i64 0), .pv (.int .i64 0), .nil 1, .pv (.bool false), .pv (.int .i64 0), .pv (.int .i64 0), .nil 1, .pv (.bool false), .pv (.int .i64 0)]), (2, .box [.pv (.int .i64 (⟨q.Kind, r2, q.A, q.S, q.Errors⟩ : XPort).Kind), .row 4, .pv (.int .i64 (⟨q.Kind, r2, q.A, q.S, q.Errors⟩ : XPort).R.Last), .pv (.bool (⟨q.Kind, r2, q.A, q.S, q.Errors⟩ : XPort).R.Bad), .pv (.int .i64 (⟨q.Kind, r2, q.A, q.S, q.Errors⟩ : XPort).R.Half), .pv (.int .i64 (⟨q.Kind, r2, q.A, q.S, q.Errors⟩ : XPort).R.Whole), .row 5, .pv (.bool (⟨q.Kind, r2, q.A, q.S, q.Errors⟩ : XPort).A.Open), .pv (.int .i64 (⟨q.Kind, r2, q.A, q.S, q.Errors⟩ : XPort).A.Last), .pv (.int .i64 (⟨q.Kind, r2, q.A, q.S, q.Errors⟩ : XPort).A.Wait), .row 6, .pv (.bool (⟨q.Kind, r2, q.A, q.S, q.Errors⟩ : XPort).S.Shut), .pv (.int .i64 (q.Errors))]), (3, .row true 3 (XS.map XBox.ps)), (4, .row true 1 ((⟨q.Kind, r2, q.A, q.S, q.Errors⟩ : XPort).R.Buf.map byteEl)), (5, .row true 1 ((⟨q.Kind, r2, q.A, q.S, q.Errors⟩ : XPort).A.Buf.map byteEl)), (6, .row true 1 ((⟨q.Kind, r2, q.A, q.S, q.Errors⟩ : XPort).S.Buf.map byteEl)), (25607, .env [(1, .c (.pv (bytesP l))), (2, .c (.pv (.int .i64 t))), (3, .c (.ptr 0 0)), (6, .c (.ptr 1 0)), (8, .c (.ptr 2 0)), (12, .c (.pv (.int .i64 k)))]), (8, .row true 3 ([g].map XGot.ps))]) 8 (some (.ro 3 [XGot.ps g]))) [(25610, some (.fro 1 (g.Pdu.map byteEl)))]) 8 (some (.opn 3 [.pv (.int .i64 g.Code), .pv (.int .i64 g.Unit), .row 25610])), 25607 + 1 + 64, 48⟩
              | _ + 1 => ⟨envL [(0, .c (.ptr 2 0)), (1, .c (.row 8)), (2, .c (.row 3)), (7, .c (.pv (.int .i64 1)))], resL [(0, .box (p.ps.map .pv)), (1, .box [.pv (.int .i64 0), .nil 1, .pv (.int .i64 0), .pv (.bool false), .pv (.int .i64 0), .pv (.int .i64 0), .nil 1, .pv (.bool false), .pv (.int .i64 0), .pv (.int .i64 0), .nil 1, .pv (.bool false), .pv (.int .i64 0)]), (2, .box [.pv (.int .i64 (⟨q.Kind, r2, q.A, q.S, q.Errors⟩ : XPort).Kind), .row 4, .pv (.int .i64 (⟨q.Kind, r2, q.A, q.S, q.Errors⟩ : XPort).R.Last), .pv (.bool (⟨q.Kind, r2, q.A, q.S, q.Errors⟩ : XPort).R.Bad), .pv (.int .i64 (⟨q.Kind, r2, q.A, q.S, q.Errors⟩ : XPort).R.Half), .pv (.int .i64 (⟨q.Kind, r2, q.A, q.S, q.Errors⟩ : XPort).R.Whole), .row 5, .pv (.bool (⟨q.Kind, r2, q.A, q.S, q.Errors⟩ : XPort).A.Open), .pv (.int .i64 (⟨q.Kind, r2, q.A, q.S, q.Errors⟩ : XPort).A.Last), .pv (.int .i64 (⟨q.Kind, r2, q.A, q.S, q.Errors⟩ : XPort).A.Wait), .row 6, .pv (.bool (⟨q.Kind, r2, q.A, q.S, q.Errors⟩ : XPort).S.Shut), .pv (.int .i64 (q.Errors))]), (3, .row true 3 ((XS ++ ([⟨0, g.Unit, g.Pdu⟩] : List XBox)).map XBox.ps)), (4, .row true 1 ((⟨q.Kind, r2, q.A, q.S, q.Errors⟩ : XPort).R.Buf.map byteEl)), (5, .row true 1 ((⟨q.Kind, r2, q.A, q.S, q.Errors⟩ : XPort).A.Buf.map byteEl)), (6, .row true 1 ((⟨q.Kind, r2, q.A, q.S, q.Errors⟩ : XPort).S.Buf.map byteEl)), (25607, .env [(1, .c (.pv (bytesP l))), (2, .c (.pv (.int .i64 t))), (3, .c (.ptr 0 0)), (6, .c (.ptr 1 0)), (8, .c (.ptr 2 0)), (12, .c (.pv (.int .i64 k)))]), (8, .opn 3 [.pv (.int .i64 g.Code), .pv (.int .i64 g.Unit), .row 25610])], 25607 + 1 + 64, 48⟩) (fun k2 => k2 ≤ 1) (fun k2 => 1 - k2) 0 (Nat.zero_le _) (Le.trans (s2 := ⟨envL [(0, .c (.ptr 2 0)), (1, .c (.row 8)), (2, .c (.row 3)), (7, .c (.pv (.int .i64 0)))], resL [(0, .box (p.ps.map .pv)), (1, .box [.pv (.int .i64 0), .nil 1, .pv (.int .i64 0), .pv (.bool false), .pv (.int .i64 0), .pv (.int .i64 0), .nil 1, .pv (.bool false), .pv (.int .i64 0), .pv (.int .i64 0), .nil 1, .pv (.bool false), .pv (.int .i64 0)]), (2, .box [.pv (.int .i64 (⟨q.Kind, r2, q.A, q.S, q.Errors⟩ : XPort).Kind), .row 4, .pv (.int .i64 (⟨q.Kind, r2, q.A, q.S, q.Errors⟩ : XPort).R.Last), .pv (.bool (⟨q.Kind, r2, q.A, q.S, q.Errors⟩ : XPort).R.Bad), .pv (.int .i64 (⟨q.Kind, r2, q.A, q.S, q.Errors⟩ : XPort).R.Half), .pv (.int .i64 (⟨q.Kind, r2, q.A, q.S, q.Errors⟩ : XPort).R.Whole), .row 5, .pv (.bool (⟨q.Kind, r2, q.A, q.S, q.Errors⟩ : XPort).A.Open), .pv (.int .i64 (⟨q.Kind, r2, q.A, q.S, q.Errors⟩ : XPort).A.Last), .pv (.int .i64 (⟨q.Kind, r2, q.A, q.S, q.Errors⟩ : XPort).A.Wait), .row 6, .pv (.bool (⟨q.Kind, r2, q.A, q.S, q.Errors⟩ : XPort).S.Shut), .pv (.int .i64 (q.Errors))]), (3, .row true 3 (XS.map XBox.ps)), (4, .row true 1 ((⟨q.Kind, r2, q.A, q.S, q.Errors⟩ : XPort).R.Buf.map byteEl)), (5, .row true 1 ((⟨q.Kind, r2, q.A, q.S, q.Errors⟩ : XPort).A.Buf.map byteEl)), (6, .row true 1 ((⟨q.Kind, r2, q.A, q.S, q.Errors⟩ : XPort).S.Buf.map byteEl)), (25607, .env [(1, .c (.pv (bytesP l))), (2, .c (.pv (.int .i64 t))), (3, .c (.ptr 0 0)), (6, .c (.ptr 1 0)), (8, .c (.ptr 2 0)), (12, .c (.pv (.int .i64 k)))]), (8, .row true 3 ([g].map XGot.ps))], 25607 + 1, 48⟩) (le_mk [(0, 0), (1, 1), (2, 2), (3, 3), (4, _), (5, _), (6, _), (25607, 25607), (8, _)] rfl ⟨⟨rfl, rfl⟩, ⟨rfl, rfl⟩, ⟨rfl, rfl⟩, ⟨rfl, rfl⟩, trivial⟩ ⟨⟨rfl, rfl⟩, ⟨rfl, rfl⟩, ⟨rfl, rfl⟩, ⟨rfl, rfl⟩, ⟨rfl, rfl⟩, ⟨rfl, rfl⟩, ⟨rfl, rfl⟩, ⟨⟨rfl, rfl⟩, _, rfl, ⟨rfl, rfl⟩, ⟨rfl, rfl⟩, ⟨rfl, rfl⟩, ⟨rfl, rfl⟩, ⟨rfl, rfl⟩, ⟨rfl, rfl⟩, trivial⟩, ⟨rfl, rfl⟩, trivial⟩ rfl) (le_open (el := XGot.ps g) (cs := [.pv (.int .i64 g.Code), .pv (.int .i64 g.Unit), .row 25610]) (u := [(25610, some (.fro 1 (g.Pdu.map byteEl)))]) 8 rfl ⟨rfl, rfl⟩ rfl rfl)) ?_
            intro k2 hk2
            obtain rfl | rfl : k2 = 0 ∨ k2 = 1 := by omega
            · conv => whnf
              refine ⟨0, ⟨⟨rfl, Nat.succ_pos _⟩, rfl⟩, ?_⟩
              conv => whnf
              refine And.intro ⟨rfl, rfl⟩ ?_
              conv => whnf
              refine br_i (fun h => ?_) (fun h => absurd h (by rw [hcb]; decide))
              conv => whnf
              refine ⟨0, ⟨⟨rfl, Nat.succ_pos _⟩, rfl⟩, ?_⟩
              conv => whnf
              refine And.intro ⟨rfl, rfl⟩ ?_
              conv => whnf
              refine ⟨0, ⟨⟨rfl, Nat.succ_pos _⟩, rfl⟩, ?_⟩
              conv => whnf
              refine And.intro ⟨rfl, rfl⟩ ?_
              conv => whnf
              refine And.intro rfl ?_
              conv => whnf
              refine ⟨_, app_0 XS [⟨0, g.Unit, g.Pdu⟩] (by omega) (by simp), ?_⟩
              conv => whnf
              refine And.intro rfl ?_
              conv => whnf
              exact ⟨1, ⟨Nat.le_refl _, by decide⟩, le_mk [(0, 0), (1, 1), (2, 2), (3, _), (4, 4), (5, 5), (6, 6), (25607, 25607), (8, 8)] rfl ⟨⟨rfl, rfl⟩, ⟨rfl, rfl⟩, ⟨rfl, rfl⟩, ⟨rfl, rfl⟩, trivial⟩ ⟨⟨rfl, rfl⟩, ⟨rfl, rfl⟩, ⟨rfl, rfl⟩, ⟨rfl, rfl⟩, ⟨rfl, rfl⟩, ⟨rfl, rfl⟩, ⟨rfl, rfl⟩, ⟨⟨rfl, rfl⟩, _, rfl, ⟨rfl, rfl⟩, ⟨rfl, rfl⟩, ⟨rfl, rfl⟩, ⟨rfl, rfl⟩, ⟨rfl, rfl⟩, ⟨rfl, rfl⟩, trivial⟩, ⟨rfl, rfl⟩, trivial⟩ rfl⟩
            · conv => whnf
              exact ⟨(k + 1, ⟨q.Kind, r2, q.A, q.S, q.Errors⟩, XS ++ [⟨0, g.Unit, g.Pdu⟩]), ⟨⟨⟨hlt, by rw [hnx, hh]; rw [htk]⟩, by rw [hh, htk] at hI2; exact hI2, by rw [List.length_append]; simp; omega⟩, by show l.length - (k + 1) < l.length - k; omega⟩, le_mk [(0, _), (1, _), (2, _), (3, _), (4, _), (5, _), (6, _)] rfl ⟨⟨rfl, rfl⟩, ⟨rfl, rfl⟩, ⟨rfl, rfl⟩, ⟨rfl, rfl⟩, ⟨rfl, rfl⟩, ⟨rfl, rfl⟩, ⟨ctr (by omega), rfl⟩, trivial⟩ ⟨⟨rfl, rfl⟩, ⟨rfl, rfl⟩, ⟨rfl, rfl⟩, ⟨rfl, rfl⟩, ⟨rfl, rfl⟩, ⟨rfl, rfl⟩, ⟨rfl, rfl⟩, trivial⟩ rfl⟩
          · have hcb : (g.Code == 0) = false := by simp [hc]
            have htk : takesG [g] q.Errors = ([], bump q.Errors) := by simp [takesG, hc]
            refine loop_i (fun k2 : Nat => match k2 with
              | 0 => ⟨envL [(0, .c (.ptr 2 0)), (1, .c (.row 8)), (2, .c (.row 3)), (7, .c (.pv (.int .i64 0)))], upd (updL (upd (resL [(0, .box (p.ps.map .pv)), (1, .box [.pv (.int .i64 0), .nil 1, .pv (.int .i64 0), .pv (.bool false), .pv (.int .i64 0), .pv (.int .i64 0), .nil 1, .pv (.bool false), .pv (.int .i64 0), .pv (.int .i64 0), .nil 1, .pv (.bool false), .pv (.int .i64 0)]), (2, .box [.pv (.int .i64 (⟨q.Kind, r2, q.A, q.S, q.Errors⟩ : XPort).Kind), .row 4, .pv (.int .i64 (⟨q.Kind, r2, q.A, q.S, q.Errors⟩ : XPort).R.Last), .pv (.bool (⟨q.Kind, r2, q.A, q.S, q.Errors⟩ : XPort).R.Bad), .pv (.int .i64 (⟨q.Kind, r2, q.A, q.S, q.Errors⟩ : XPort).R.Half), .pv (.int .i64 (⟨q.Kind, r2, q.A, q.S, q.Errors⟩ : XPort).R.Whole), .row 5, .pv (.bool (⟨q.Kind, r2, q.A, q.S, q.Errors⟩ : XPort).A.Open), .pv (.int .i64 (⟨q.Kind, r2, q.A, q.S, q.Errors⟩ : XPort).A.Last), .pv (.int .i64 (⟨q.Kind, r2, q.A, q.S, q.Errors⟩ : XPort).A.Wait), .row 6, .pv (.bool (⟨q.Kind, r2, q.A, q.S, q.Errors⟩ : XPort).S.Shut), .pv (.int .i64 (q.Errors))]), (3, .row true 3 (XS.map XBox.ps)), (4, .row true 1 ((⟨q.Kind, r2, q.A, q.S, q.Errors⟩ : XPort).R.Buf.map byteEl)), (5, .row true 1 ((⟨q.Kind, r2, q.A, q.S, q.Errors⟩ : XPort).A.Buf.map byteEl)), (6, .row true 1 ((⟨q.Kind, r2, q.A, q.S, q.Errors⟩ : XPort).S.Buf.map byteEl)), (25607, .env [(1, .c (.pv (bytesP l))), (2, .c (.pv (.int .i64 t))), (3, .c (.ptr 0 0)), (6, .c (.ptr 1 0)), (8, .c (.ptr 2 0)), (12, .c (.pv (.int .i64 k)))]), (8, .row true 3 ([g].map XGot.ps))]) 8 (some (.ro 3 [XGot.ps g]))) [(25610, some (.fro 1 (g.Pdu.map byteEl)))]) 8 (some (.opn 3 [.pv (.int .i64 g.Code), .pv (.int .i64 g.Unit), .row 25610])), 25607 + 1 + 64, 48⟩
              | _ + 1 => ⟨envL [(0, .c (.ptr 2 0)), (1, .c (.row 8)), (2, .c (.row 3)), (7, .c (.pv (.int .i64 1)))], resL [(0, .box (p.ps.map .pv)), (1, .box [.pv (.int .i64 0), .nil 1, .pv (.int .i64 0), .pv (.bool false), .pv (.int .i64 0), .pv (.int .i64 0), .nil 1, .pv (.bool false), .pv (.int .i64 0), .pv (.int .i64 0), .nil 1, .pv (.bool false), .pv (.int .i64 0)]), (2, .box [.pv (.int .i64 (⟨q.Kind, r2, q.A, q.S, q.Errors⟩ : XPort).Kind), .row 4, .pv (.int .i64 (⟨q.Kind, r2, q.A, q.S, q.Errors⟩ : XPort).R.Last), .pv (.bool (⟨q.Kind, r2, q.A, q.S, q.Errors⟩ : XPort).R.Bad), .pv (.int .i64 (⟨q.Kind, r2, q.A, q.S, q.Errors⟩ : XPort).R.Half), .pv (.int .i64 (⟨q.Kind, r2, q.A, q.S, q.Errors⟩ : XPort).R.Whole), .row 5, .pv (.bool (⟨q.Kind, r2, q.A, q.S, q.Errors⟩ : XPort).A.Open), .pv (.int .i64 (⟨q.Kind, r2, q.A, q.S, q.Errors⟩ : XPort).A.Last), .pv (.int .i64 (⟨q.Kind, r2, q.A, q.S, q.Errors⟩ : XPort).A.Wait), .row 6, .pv (.bool (⟨q.Kind, r2, q.A, q.S, q.Errors⟩ : XPort).S.Shut), .pv (.int .i64 (bump q.Errors))]), (3, .row true 3 (XS.map XBox.ps)), (4, .row true 1 ((⟨q.Kind, r2, q.A, q.S, q.Errors⟩ : XPort).R.Buf.map byteEl)), (5, .row true 1 ((⟨q.Kind, r2, q.A, q.S, q.Errors⟩ : XPort).A.Buf.map byteEl)), (6, .row true 1 ((⟨q.Kind, r2, q.A, q.S, q.Errors⟩ : XPort).S.Buf.map byteEl)), (25607, .env [(1, .c (.pv (bytesP l))), (2, .c (.pv (.int .i64 t))), (3, .c (.ptr 0 0)), (6, .c (.ptr 1 0)), (8, .c (.ptr 2 0)), (12, .c (.pv (.int .i64 k)))]), (8, .opn 3 [.pv (.int .i64 g.Code), .pv (.int .i64 g.Unit), .row 25610])], 25607 + 1 + 64, 48⟩) (fun k2 => k2 ≤ 1) (fun k2 => 1 - k2) 0 (Nat.zero_le _) (Le.trans (s2 := ⟨envL [(0, .c (.ptr 2 0)), (1, .c (.row 8)), (2, .c (.row 3)), (7, .c (.pv (.int .i64 0)))], resL [(0, .box (p.ps.map .pv)), (1, .box [.pv (.int .i64 0), .nil 1, .pv (.int .i64 0), .pv (.bool false), .pv (.int .i64 0), .pv (.int .i64 0), .nil 1, .pv (.bool false), .pv (.int .i64 0), .pv (.int .i64 0), .nil 1, .pv (.bool false), .pv (.int .i64 0)]), (2, .box [.pv (.int .i64 (⟨q.Kind, r2, q.A, q.S, q.Errors⟩ : XPort).Kind), .row 4, .pv (.int .i64 (⟨q.Kind, r2, q.A, q.S, q.Errors⟩ : XPort).R.Last), .pv (.bool (⟨q.Kind, r2, q.A, q.S, q.Errors⟩ : XPort).R.Bad), .pv (.int .i64 (⟨q.Kind, r2, q.A, q.S, q.Errors⟩ : XPort).R.Half), .pv (.int .i64 (⟨q.Kind, r2, q.A, q.S, q.Errors⟩ : XPort).R.Whole), .row 5, .pv (.bool (⟨q.Kind, r2, q.A, q.S, q.Errors⟩ : XPort).A.Open), .pv (.int .i64 (⟨q.Kind, r2, q.A, q.S, q.Errors⟩ : XPort).A.Last), .pv (.int .i64 (⟨q.Kind, r2, q.A, q.S, q.Errors⟩ : XPort).A.Wait), .row 6, .pv (.bool (⟨q.Kind, r2, q.A, q.S, q.Errors⟩ : XPort).S.Shut), .pv (.int .i64 (q.Errors))]), (3, .row true 3 (XS.map XBox.ps)), (4, .row true 1 ((⟨q.Kind, r2, q.A, q.S, q.Errors⟩ : XPort).R.Buf.map byteEl)), (5, .row true 1 ((⟨q.Kind, r2, q.A, q.S, q.Errors⟩ : XPort).A.Buf.map byteEl)), (6, .row true 1 ((⟨q.Kind, r2, q.A, q.S, q.Errors⟩ : XPort).S.Buf.map byteEl)), (25607, .env [(1, .c (.pv (bytesP l))), (2, .c (.pv (.int .i64 t))), (3, .c (.ptr 0 0)), (6, .c (.ptr 1 0)), (8, .c (.ptr 2 0)), (12, .c (.pv (.int .i64 k)))]), (8, .row true 3 ([g].map XGot.ps))], 25607 + 1, 48⟩) (le_mk [(0, 0), (1, 1), (2, 2), (3, 3), (4, _), (5, _), (6, _), (25607, 25607), (8, _)] rfl ⟨⟨rfl, rfl⟩, ⟨rfl, rfl⟩, ⟨rfl, rfl⟩, ⟨rfl, rfl⟩, trivial⟩ ⟨⟨rfl, rfl⟩, ⟨rfl, rfl⟩, ⟨rfl, rfl⟩, ⟨rfl, rfl⟩, ⟨rfl, rfl⟩, ⟨rfl, rfl⟩, ⟨rfl, rfl⟩, ⟨⟨rfl, rfl⟩, _, rfl, ⟨rfl, rfl⟩, ⟨rfl, rfl⟩, ⟨rfl, rfl⟩, ⟨rfl, rfl⟩, ⟨rfl, rfl⟩, ⟨rfl, rfl⟩, trivial⟩, ⟨rfl, rfl⟩, trivial⟩ rfl) (le_open (el := XGot.ps g) (cs := [.pv (.int .i64 g.Code), .pv (.int .i64 g.Unit), .row 25610]) (u := [(25610, some (.fro 1 (g.Pdu.map byteEl)))]) 8 rfl ⟨rfl, rfl⟩ rfl rfl)) ?_
            intro k2 hk2
            obtain rfl | rfl : k2 = 0 ∨ k2 = 1 := by omega
            · conv => whnf
              refine ⟨0, ⟨⟨rfl, Nat.succ_pos _⟩, rfl⟩, ?_⟩
              conv => whnf
              refine And.intro ⟨rfl, rfl⟩ ?_
              conv => whnf
              refine br_i (fun h => absurd h (by rw [hcb]; decide)) (fun h => ?_)
              conv => whnf
              refine br_i (fun h => ?_) (fun h => ?_)
              · have hbu : bump q.Errors = IntKind.i64.wrap (q.Errors + 1) := by
                  have := dlt h
                  have := hI.err
                  rw [wrap_ok (by omega) (by omega)]
                  exact if_pos (dlt h)
                conv => whnf
                exact ⟨1, ⟨Nat.le_refl _, by decide⟩, le_mk [(0, 0), (1, 1), (2, 2), (3, 3), (4, 4), (5, 5), (6, 6), (25607, 25607), (8, 8)] rfl ⟨⟨rfl, rfl⟩, ⟨rfl, rfl⟩, ⟨rfl, rfl⟩, ⟨rfl, rfl⟩, trivial⟩ ⟨⟨rfl, rfl⟩, ⟨rfl, rfl⟩, ⟨by rw [hbu]; rfl, rfl⟩, ⟨rfl, rfl⟩, ⟨rfl, rfl⟩, ⟨rfl, rfl⟩, ⟨rfl, rfl⟩, ⟨⟨rfl, rfl⟩, _, rfl, ⟨rfl, rfl⟩, ⟨rfl, rfl⟩, ⟨rfl, rfl⟩, ⟨rfl, rfl⟩, ⟨rfl, rfl⟩, ⟨rfl, rfl⟩, trivial⟩, ⟨rfl, rfl⟩, trivial⟩ rfl⟩
              · have hbu : bump q.Errors = q.Errors := by
                  have h1 := dge h
                  have h2 := hI.err
                  unfold bump
                  rw [if_neg (by omega)]
                  omega
                conv => whnf
                exact ⟨1, ⟨Nat.le_refl _, by decide⟩, le_mk [(0, 0), (1, 1), (2, 2), (3, 3), (4, 4), (5, 5), (6, 6), (25607, 25607), (8, 8)] rfl ⟨⟨rfl, rfl⟩, ⟨rfl, rfl⟩, ⟨rfl, rfl⟩, ⟨rfl, rfl⟩, trivial⟩ ⟨⟨rfl, rfl⟩, ⟨rfl, rfl⟩, ⟨by rw [hbu]; rfl, rfl⟩, ⟨rfl, rfl⟩, ⟨rfl, rfl⟩, ⟨rfl, rfl⟩, ⟨rfl, rfl⟩, ⟨⟨rfl, rfl⟩, _, rfl, ⟨rfl, rfl⟩, ⟨rfl, rfl⟩, ⟨rfl, rfl⟩, ⟨rfl, rfl⟩, ⟨rfl, rfl⟩, ⟨rfl, rfl⟩, trivial⟩, ⟨rfl, rfl⟩, trivial⟩ rfl⟩
            · conv => whnf
              exact ⟨(k + 1, ⟨q.Kind, r2, q.A, q.S, bump q.Errors⟩, XS), ⟨⟨⟨hlt, by rw [hnx, hh]; rw [htk]; simp⟩, by rw [hh, htk] at hI2; exact hI2, by show XS.length ≤ k + 1; omega⟩, by show l.length - (k + 1) < l.length - k; omega⟩, le_mk [(0, _), (1, _), (2, _), (3, _), (4, _), (5, _), (6, _)] rfl ⟨⟨rfl, rfl⟩, ⟨rfl, rfl⟩, ⟨rfl, rfl⟩, ⟨rfl, rfl⟩, ⟨rfl, rfl⟩, ⟨rfl, rfl⟩, ⟨ctr (by omega), rfl⟩, trivial⟩ ⟨⟨rfl, rfl⟩, ⟨rfl, rfl⟩, ⟨rfl, rfl⟩, ⟨rfl, rfl⟩, ⟨rfl, rfl⟩, ⟨rfl, rfl⟩, ⟨rfl, rfl⟩, trivial⟩ rfl⟩

      · have hqk : ¬ q.Kind = 1 := by have := hI.kind; simp at hK1; omega
        have hh : hear1 q t l[k] = hear1 q t l[k] := rfl
        conv at hh => rhs; unfold hear1
        rw [if_neg hqk] at hh
        have hst := ascii_step (a := q.A) (b := l[k]) (t := t) hI.ba hb hI.la
        have hcall := s_AsciiHear q.A l[k] t hI.ba hb (by have := hI.la; omega)
        generalize asciiHear q.A l[k] t = H at *
        obtain ⟨r2, got⟩ := H
        dsimp only at hh hst hcall
        conv => whnf
        refine ⟨_, idx_map l byteEl k hlt 1, ?_⟩
        conv => whnf
        refine call_i hcall ?_
        conv => whnf
        refine And.intro rfl ?_
        conv => whnf
        refine inl_of (Γ := lookT tbl) (il := ilist) tg dr Try.func51 rfl (by kernel_rfl) rfl (ts := [83, 77, 51]) (Nat.le_of_ble_eq_true rfl) ?_
        conv => whnf
        match got, hst.2.2.1 with
        | [], _ =>
          refine loop_i (fun _ : Unit => ⟨envL [(0, .c (.ptr 2 0)), (1, .c (.row 8)), (2, .c (.row 3)), (7, .c (.pv (.int .i64 0)))], resL [(0, .box (p.ps.map .pv)), (1, .box [.pv (.int .i64 0), .nil 1, .pv (.int .i64 0), .pv (.bool false), .pv (.int .i64 0), .pv (.int .i64 0), .nil 1, .pv (.bool false), .pv (.int .i64 0), .pv (.int .i64 0), .nil 1, .pv (.bool false), .pv (.int .i64 0)]), (2, .box [.pv (.int .i64 (⟨q.Kind, q.R, r2, q.S, q.Errors⟩ : XPort).Kind), .row 4, .pv (.int .i64 (⟨q.Kind, q.R, r2, q.S, q.Errors⟩ : XPort).R.Last), .pv (.bool (⟨q.Kind, q.R, r2, q.S, q.Errors⟩ : XPort).R.Bad), .pv (.int .i64 (⟨q.Kind, q.R, r2, q.S, q.Errors⟩ : XPort).R.Half), .pv (.int .i64 (⟨q.Kind, q.R, r2, q.S, q.Errors⟩ : XPort).R.Whole), .row 5, .pv (.bool (⟨q.Kind, q.R, r2, q.S, q.Errors⟩ : XPort).A.Open), .pv (.int .i64 (⟨q.Kind, q.R, r2, q.S, q.Errors⟩ : XPort).A.Last), .pv (.int .i64 (⟨q.Kind, q.R, r2, q.S, q.Errors⟩ : XPort).A.Wait), .row 6, .pv (.bool (⟨q.Kind, q.R, r2, q.S, q.Errors⟩ : XPort).S.Shut), .pv (.int .i64 (q.Errors))]), (3, .row true 3 (XS.map XBox.ps)), (4, .row true 1 ((⟨q.Kind, q.R, r2, q.S, q.Errors⟩ : XPort).R.Buf.map byteEl)), (5, .row true 1 ((⟨q.Kind, q.R, r2, q.S, q.Errors⟩ : XPort).A.Buf.map byteEl)), (6, .row true 1 ((⟨q.Kind, q.R, r2, q.S, q.Errors⟩ : XPort).S.Buf.map byteEl)), (25607, .env [(1, .c (.pv (bytesP l))), (2, .c (.pv (.int .i64 t))), (3, .c (.ptr 0 0)), (6, .c (.ptr 1 0)), (8, .c (.ptr 2 0)), (12, .c (.pv (.int .i64 k)))]), (8, .row true 3 [])], 25607 + 1, 48⟩) (fun _ => True) (fun _ => 0) () trivial (le_mk [(0, 0), (1, 1), (2, 2), (3, 3), (4, _), (5, _), (6, _), (25607, 25607), (8, _)] rfl ⟨⟨rfl, rfl⟩, ⟨rfl, rfl⟩, ⟨rfl, rfl⟩, ⟨rfl, rfl⟩, trivial⟩ ⟨⟨rfl, rfl⟩, ⟨rfl, rfl⟩, ⟨rfl, rfl⟩, ⟨rfl, rfl⟩, ⟨rfl, rfl⟩, ⟨rfl, rfl⟩, ⟨rfl, rfl⟩, ⟨⟨rfl, rfl⟩, _, rfl, ⟨rfl, rfl⟩, ⟨rfl, rfl⟩, ⟨rfl, rfl⟩, ⟨rfl, rfl⟩, ⟨rfl, rfl⟩, ⟨rfl, rfl⟩, trivial⟩, ⟨rfl, rfl⟩, trivial⟩ rfl) ?_
          intro _ _
          conv => whnf
          exact ⟨(k + 1, ⟨q.Kind, q.R, r2, q.S, q.Errors⟩, XS), ⟨⟨⟨hlt, by rw [hnx, hh]; simp [takesG]⟩, by rw [hh] at hI2; exact hI2, by show XS.length ≤ k + 1; omega⟩, by show l.length - (k + 1) < l.length - k; omega⟩, le_mk [(0, _), (1, _), (2, _), (3, _), (4, _), (5, _), (6, _)] rfl ⟨⟨rfl, rfl⟩, ⟨rfl, rfl⟩, ⟨rfl, rfl⟩, ⟨rfl, rfl⟩, ⟨rfl, rfl⟩, ⟨rfl, rfl⟩, ⟨ctr (by omega), rfl⟩, trivial⟩ ⟨⟨rfl, rfl⟩, ⟨rfl, rfl⟩, ⟨rfl, rfl⟩, ⟨rfl, rfl⟩, ⟨rfl, rfl⟩, ⟨rfl, rfl⟩, ⟨rfl, rfl⟩, trivial⟩ rfl⟩

        | [g], _ =>
          by_cases hc : g.Code = 0
          · have hcb : (g.Code == 0) = true := by simp [hc]
            have htk : takesG [g] q.Errors = ([⟨0, g.Unit, g.Pdu⟩], q.Errors) := by simp [takesG, hc]
            refine loop_i (fun k2 : Nat => match k2 with
              | 0 => ⟨envL [(0, .c (.ptr 2 0)), (1, .c (.row 8)), (2, .c (.row 3)), (7, .c (.pv (.int .i64 0)))], upd (updL (upd (resL [(0, .box (p.ps.map .pv)), (1, .box [.pv (.int .i64 0), .nil 1, .pv (.int .i64 0), .pv (.bool false), .pv (.int .i64 0), .pv (.int .i64 0), .nil 1, .pv (.bool false), .pv (.int .i64 0), .pv (.int .i64 0), .nil 1, .pv (.bool false), .pv (.int .i64 0)]), (2, .box [.pv (.int .i64 (⟨q.Kind, q.R, r2, q.S, q.Errors⟩ : XPort).Kind), .row 4, .pv (.int .i64 (⟨q.Kind, q.R, r2, q.S, q.Errors⟩ : XPort).R.Last), .pv (.bool (⟨q.Kind, q.R, r2, q.S, q.Errors⟩ : XPort).R.Bad), .pv (.int .i64 (⟨q.Kind, q.R, r2, q.S, q.Errors⟩ : XPort).R.Half), .pv (.int .i64 (⟨q.Kind, q.R, r2, q.S, q.Errors⟩ : XPort).R.Whole), .row 5, .pv (.bool (⟨q.Kind, q.R, r2, q.S, q.Errors⟩ : XPort).A.Open), .pv (.int .i64 (⟨q.Kind, q.R, r2, q.S, q.Errors⟩ : XPort).A.Last), .pv (.int .i64 (⟨q.Kind, q.R, r2, q.S, q.Errors⟩ : XPort).A.Wait), .row 6, .pv (.bool (⟨q.Kind, q.R, r2, q.S, q.Errors⟩ : XPort).S.Shut), .pv (.int .i64 (q.Errors))]), (3, .row true 3 (XS.map XBox.ps)), (4, .row true 1 ((⟨q.Kind, q.R, r2, q.S, q.Errors⟩ : XPort).R.Buf.map byteEl)), (5, .row true 1 ((⟨q.Kind, q.R, r2, q.S, q.Errors⟩ : XPort).A.Buf.map byteEl)), (6, .row true 1 ((⟨q.Kind, q.R, r2, q.S, q.Errors⟩ : XPort).S.Buf.map byteEl)), (25607, .env [(1, .c (.pv (bytesP l))), (2, .c (.pv (.int .i64 t))), (3, .c (.ptr 0 0)), (6, .c (.ptr 1 0)), (8, .c (.ptr 2 0)), (12, .c (.pv (.int .i64 k)))]), (8, .row true 3 ([g].map XGot.ps))]) 8 (some (.ro 3 [XGot.ps g]))) [(25610, some (.fro 1 (g.Pdu.map byteEl)))]) 8 (some (.opn 3 [.pv (.int .i64 g.Code), .pv (.int .i64 g.Unit), .row 25610])), 25607 + 1 + 64, 48⟩
              | _ + 1 => ⟨envL [(0, .c (.ptr 2 0)), (1, .c (.row 8)), (2, .c (.row 3)), (7, .c (.pv (.int .i64 1)))], resL [(0, .box (p.ps.map .pv)), (1, .box [.pv (.int .i64 0), .nil 1, .pv (.int .i64 0), .pv (.bool false), .pv (.int .i64 0), .pv (.int .i64 0), .nil 1, .pv (.bool false), .pv (.int .i64 0), .pv (.int .i64 0), .nil 1, .pv (.bool false), .pv (.int .i64 0)]), (2, .box [.pv (.int .i64 (⟨q.Kind, q.R, r2, q.S, q.Errors⟩ : XPort).Kind), .row 4, .pv (.int .i64 (⟨q.Kind, q.R, r2, q.S, q.Errors⟩ : XPort).R.Last), .pv (.bool (⟨q.Kind, q.R, r2, q.S, q.Errors⟩ : XPort).R.Bad), .pv (.int .i64 (⟨q.Kind, q.R, r2, q.S, q.Errors⟩ : XPort).R.Half), .pv (.int .i64 (⟨q.Kind, q.R, r2, q.S, q.Errors⟩ : XPort).R.Whole), .row 5, .pv (.bool (⟨q.Kind, q.R, r2, q.S, q.Errors⟩ : XPort).A.Open), .pv (.int .i64 (⟨q.Kind, q.R, r2, q.S, q.Errors⟩ : XPort).A.Last), .pv (.int .i64 (⟨q.Kind, q.R, r2, q.S, q.Errors⟩ : XPort).A.Wait), .row 6, .pv (.bool (⟨q.Kind, q.R, r2, q.S, q.Errors⟩ : XPort).S.Shut), .pv (.int .i64 (q.Errors))]), (3, .row true 3 ((XS ++ ([⟨0, g.Unit, g.Pdu⟩] : List XBox)).map XBox.ps)), (4, .row true 1 ((⟨q.Kind, q.R, r2, q.S, q.Errors⟩ : XPort).R.Buf.map byteEl)), (5, .row true 1 ((⟨q.Kind, q.R, r2, q.S, q.Errors⟩ : XPort).A.Buf.map byteEl)), (6, .row true 1 ((⟨q.Kind, q.R, r2, q.S, q.Errors⟩ : XPort).S.Buf.map byteEl)), (25607, .env [(1, .c (.pv (bytesP l))), (2, .c (.pv (.int .i64 t))), (3, .c (.ptr 0 0)), (6, .c (.ptr 1 0)), (8, .c (.ptr 2 0)), (12, .c (.pv (.int .i64 k)))]), (8, .opn 3 [.pv (.int .i64 g.Code), .pv (.int .i64 g.Unit), .row 25610])], 25607 + 1 + 64, 48⟩) (fun k2 => k2 ≤ 1) (fun k2 => 1 - k2) 0 (Nat.zero_le _) (Le.trans (s2 := ⟨envL [(0, .c (.ptr 2 0)), (1, .c (.row 8)), (2, .c (.row 3)), (7, .c (.pv (.int .i64 0)))], resL [(0, .box (p.ps.map .pv)), (1, .box [.pv (.int .i64 0), .nil 1, .pv (.int .i64 0), .pv (.bool false), .pv (.int .i64 0), .pv (.int .i64 0), .nil 1, .pv (.bool false), .pv (.int .i64 0), .pv (.int .i64 0), .nil 1, .pv (.bool false), .pv (.int .i64 0)]), (2, .box [.pv (.int .i64 (⟨q.Kind, q.R, r2, q.S, q.Errors⟩ : XPort).Kind), .row 4, .pv (.int .i64 (⟨q.Kind, q.R, r2, q.S, q.Errors⟩ : XPort).R.Last), .pv (.bool (⟨q.Kind, q.R, r2, q.S, q.Errors⟩ : XPort).R.Bad), .pv (.int .i64 (⟨q.Kind, q.R, r2, q.S, q.Errors⟩ : XPort).R.Half), .pv (.int .i64 (⟨q.Kind, q.R, r2, q.S, q.Errors⟩ : XPort).R.Whole), .row 5, .pv (.bool (⟨q.Kind, q.R, r2, q.S, q.Errors⟩ : XPort).A.Open), .pv (.int .i64 (⟨q.Kind, q.R, r2, q.S, q.Errors⟩ : XPort).A.Last), .pv (.int .i64 (⟨q.Kind, q.R, r2, q.S, q.Errors⟩ : XPort).A.Wait), .row 6, .pv (.bool (⟨q.Kind, q.R, r2, q.S, q.Errors⟩ : XPort).S.Shut), .pv (.int .i64 (q.Errors))]), (3, .row true 3 (XS.map XBox.ps)), (4, .row true 1 ((⟨q.Kind, q.R, r2, q.S, q.Errors⟩ : XPort).R.Buf.map byteEl)), (5, .row true 1 ((⟨q.Kind, q.R, r2, q.S, q.Errors⟩ : XPort).A.Buf.map byteEl)), (6, .row true 1 ((⟨q.Kind, q.R, r2, q.S, q.Errors⟩ : XPort).S.Buf.map byteEl)), (25607, .env [(1, .c (.pv (bytesP l))), (2, .c (.pv (.int .i64 t))), (3, .c (.ptr 0 0)), (6, .c (.ptr 1 0)), (8, .c (.ptr 2 0)), (12, .c (.pv (.int .i64 k)))]), (8, .row true 3 ([g].map XGot.ps))], 25607 + 1, 48⟩) (le_mk [(0, 0), (1, 1), (2, 2), (3, 3), (4, _), (5, _), (6, _), (25607, 25607), (8, _)] rfl ⟨⟨rfl, rfl⟩, ⟨rfl, rfl⟩, ⟨rfl, rfl⟩, ⟨rfl, rfl⟩, trivial⟩ ⟨⟨rfl, rfl⟩, ⟨rfl, rfl⟩, ⟨rfl, rfl⟩, ⟨rfl, rfl⟩, ⟨rfl, rfl⟩, ⟨rfl, rfl⟩, ⟨rfl, rfl⟩, ⟨⟨rfl, rfl⟩, _, rfl, ⟨rfl, rfl⟩, ⟨rfl, rfl⟩, ⟨rfl, rfl⟩, ⟨rfl, rfl⟩, ⟨rfl, rfl⟩, ⟨rfl, rfl⟩, trivial⟩, ⟨rfl, rfl⟩, trivial⟩ rfl) (le_open (el := XGot.ps g) (cs := [.pv (.int .i64 g.Code), .pv (.int .i64 g.Unit), .row 25610]) (u := [(25610, some (.fro 1 (g.Pdu.map byteEl)))]) 8 rfl ⟨rfl, rfl⟩ rfl rfl)) ?_
            intro k2 hk2
            obtain rfl | rfl : k2 = 0 ∨ k2 = 1 := by omega
            · conv => whnf
              refine ⟨0, ⟨⟨rfl, Nat.succ_pos _⟩, rfl⟩, ?_⟩
              conv => whnf
              refine And.intro ⟨rfl, rfl⟩ ?_
              conv => whnf
              refine br_i (fun h => ?_) (fun h => absurd h (by rw [hcb]; decide))
              conv => whnf
              refine ⟨0, ⟨⟨rfl, Nat.succ_pos _⟩, rfl⟩, ?_⟩
              conv => whnf
              refine And.intro ⟨rfl, rfl⟩ ?_
              conv => whnf
              refine ⟨0, ⟨⟨rfl, Nat.succ_pos _⟩, rfl⟩, ?_⟩
              conv => whnf
              refine And.intro ⟨rfl, rfl⟩ ?_
              conv => whnf
              refine And.intro rfl ?_
              conv => whnf
              refine ⟨_, app_0 XS [⟨0, g.Unit, g.Pdu⟩] (by omega) (by simp), ?_⟩
              conv => whnf
              refine And.intro rfl ?_
              conv => whnf
              exact ⟨1, ⟨Nat.le_refl _, by decide⟩, le_mk [(0, 0), (1, 1), (2, 2), (3, _), (4, 4), (5, 5), (6, 6), (25607, 25607), (8, 8)] rfl ⟨⟨rfl, rfl⟩, ⟨rfl, rfl⟩, ⟨rfl, rfl⟩, ⟨rfl, rfl⟩, trivial⟩ ⟨⟨rfl, rfl⟩, ⟨rfl, rfl⟩, ⟨rfl, rfl⟩, ⟨rfl, rfl⟩, ⟨rfl, rfl⟩, ⟨rfl, rfl⟩, ⟨rfl, rfl⟩, ⟨⟨rfl, rfl⟩, _, rfl, ⟨rfl, rfl⟩, ⟨rfl, rfl⟩, ⟨rfl, rfl⟩, ⟨rfl, rfl⟩, ⟨rfl, rfl⟩, ⟨rfl, rfl⟩, trivial⟩, ⟨rfl, rfl⟩, trivial⟩ rfl⟩
            · conv => whnf
              exact ⟨(k + 1, ⟨q.Kind, q.R, r2, q.S, q.Errors⟩, XS ++ [⟨0, g.Unit, g.Pdu⟩]), ⟨⟨⟨hlt, by rw [hnx, hh]; rw [htk]⟩, by rw [hh, htk] at hI2; exact hI2, by rw [List.length_append]; simp; omega⟩, by show l.length - (k + 1) < l.length - k; omega⟩, le_mk [(0, _), (1, _), (2, _), (3, _), (4, _), (5, _), (6, _)] rfl ⟨⟨rfl, rfl⟩, ⟨rfl, rfl⟩, ⟨rfl, rfl⟩, ⟨rfl, rfl⟩, ⟨rfl, rfl⟩, ⟨rfl, rfl⟩, ⟨ctr (by omega), rfl⟩, trivial⟩ ⟨⟨rfl, rfl⟩, ⟨rfl, rfl⟩, ⟨rfl, rfl⟩, ⟨rfl, rfl⟩, ⟨rfl, rfl⟩, ⟨rfl, rfl⟩, ⟨rfl, rfl⟩, trivial⟩ rfl⟩
          · have hcb : (g.Code == 0) = false := by simp [hc]
            have htk : takesG [g] q.Errors = ([], bump q.Errors) := by simp [takesG, hc]
            refine loop_i (fun k2 : Nat => match k2 with
              | 0 => ⟨envL [(0, .c (.ptr 2 0)), (1, .c (.row 8)), (2, .c (.row 3)), (7, .c (.pv (.int .i64 0)))], upd (updL (upd (resL [(0, .box (p.ps.map .pv)), (1, .box [.pv (.int .i64 0), .nil 1, .pv (.int .i64 0), .pv (.bool false), .pv (.int .i64 0), .pv (.int .i64 0), .nil 1, .pv (.bool false), .pv (.int .i64 0), .pv (.int .i64 0), .nil 1, .pv (.bool false), .pv (.int .i64 0)]), (2, .box [.pv (.int .i64 (⟨q.Kind, q.R, r2, q.S, q.Errors⟩ : XPort).Kind), .row 4, .pv (.int .i64 (⟨q.Kind, q.R, r2, q.S, q.Errors⟩ : XPort).R.Last), .pv (.bool (⟨q.Kind, q.R, r2, q.S, q.Errors⟩ : XPort).R.Bad), .pv (.int .i64 (⟨q.Kind, q.R, r2, q.S, q.Errors⟩ : XPort).R.Half), .pv (.int .i64 (⟨q.Kind, q.R, r2, q.S, q.Errors⟩ : XPort).R.Whole), .row 5, .pv (.bool (⟨q.Kind, q.R, r2, q.S, q.Errors⟩ : XPort).A.Open), .pv (.int .i64 (⟨q.Kind, q.R, r2, q.S, q.Errors⟩ : XPort).A.Last), .pv (.int .i64 (⟨q.Kind, q.R, r2, q.S, q.Errors⟩ : XPort).A.Wait), .row 6, .pv (.bool (⟨q.Kind, q.R, r2, q.S, q.Errors⟩ : XPort).S.Shut), .pv (.int .i64 (q.Errors))]), (3, .row true 3 (XS.map XBox.ps)), (4, .row true 1 ((⟨q.Kind, q.R, r2, q.S, q.Errors⟩ : XPort).R.Buf.map byteEl)), (5, .row true 1 ((⟨q.Kind, q.R, r2, q.S, q.Errors⟩ : XPort).A.Buf.map byteEl)), (6, .row true 1 ((⟨q.Kind, q.R, r2, q.S, q.Errors⟩ : XPort).S.Buf.map byteEl)), (25607, .env [(1, .c (.pv (bytesP l))), (2, .c (.pv (.int .i64 t))), (3, .c (.ptr 0 0)), (6, .c (.ptr 1 0)), (8, .c (.ptr 2 0)), (12, .c (.pv (.int .i64 k)))]), (8, .row true 3 ([g].map XGot.ps))]) 8 (some (.ro 3 [XGot.ps g]))) [(25610, some (.fro 1 (g.Pdu.map byteEl)))]) 8 (some (.opn 3 [.pv (.int .i64 g.Code), .pv (.int .i64 g.Unit), .row 25610])), 25607 + 1 + 64, 48⟩
              | _ + 1 => ⟨envL [(0, .c (.ptr 2 0)), (1, .c (.row 8)), (2, .c (.row 3)), (7, .c (.pv (.int .i64 1)))], resL [(0, .box (p.ps.map .pv)), (1, .box [.pv (.int .i64 0), .nil 1, .pv (.int .i64 0), .pv (.bool false), .pv (.int .i64 0), .pv (.int .i64 0), .nil 1, .pv (.bool false), .pv (.int .i64 0), .pv (.int .i64 0), .nil 1, .pv (.bool false), .pv (.int .i64 0)]), (2, .box [.pv (.int .i64 (⟨q.Kind, q.R, r2, q.S, q.Errors⟩ : XPort).Kind), .row 4, .pv (.int .i64 (⟨q.Kind, q.R, r2, q.S, q.Errors⟩ : XPort).R.Last), .pv (.bool (⟨q.Kind, q.R, r2, q.S, q.Errors⟩ : XPort).R.Bad), .pv (.int .i64 (⟨q.Kind, q.R, r2, q.S, q.Errors⟩ : XPort).R.Half), .pv (.int .i64 (⟨q.Kind, q.R, r2, q.S, q.Errors⟩ : XPort).R.Whole), .row 5, .pv (.bool (⟨q.Kind, q.R, r2, q.S, q.Errors⟩ : XPort).A.Open), .pv (.int .i64 (⟨q.Kind, q.R, r2, q.S, q.Errors⟩ : XPort).A.Last), .pv (.int .i64 (⟨q.Kind, q.R, r2, q.S, q.Errors⟩ : XPort).A.Wait), .row 6, .pv (.bool (⟨q.Kind, q.R, r2, q.S, q.Errors⟩ : XPort).S.Shut), .pv (.int .i64 (bump q.Errors))]), (3, .row true 3 (XS.map XBox.ps)), (4, .row true 1 ((⟨q.Kind, q.R, r2, q.S, q.Errors⟩ : XPort).R.Buf.map byteEl)), (5, .row true 1 ((⟨q.Kind, q.R, r2, q.S, q.Errors⟩ : XPort).A.Buf.map byteEl)), (6, .row true 1 ((⟨q.Kind, q.R, r2, q.S, q.Errors⟩ : XPort).S.Buf.map byteEl)), (25607, .env [(1, .c (.pv (bytesP l))), (2, .c (.pv (.int .i64 t))), (3, .c (.ptr 0 0)), (6, .c (.ptr 1 0)), (8, .c (.ptr 2 0)), (12, .c (.pv (.int .i64 k)))]), (8, .opn 3 [.pv (.int .i64 g.Code), .pv (.int .i64 g.Unit), .row 25610])], 25607 + 1 + 64, 48⟩) (fun k2 => k2 ≤ 1) (fun k2 => 1 - k2) 0 (Nat.zero_le _) (Le.trans (s2 := ⟨envL [(0, .c (.ptr 2 0)), (1, .c (.row 8)), (2, .c (.row 3)), (7, .c (.pv (.int .i64 0)))], resL [(0, .box (p.ps.map .pv)), (1, .box [.pv (.int .i64 0), .nil 1, .pv (.int .i64 0), .pv (.bool false), .pv (.int .i64 0), .pv (.int .i64 0), .nil 1, .pv (.bool false), .pv (.int .i64 0), .pv (.int .i64 0), .nil 1, .pv (.bool false), .pv (.int .i64 0)]), (2, .box [.pv (.int .i64 (⟨q.Kind, q.R, r2, q.S, q.Errors⟩ : XPort).Kind), .row 4, .pv (.int .i64 (⟨q.Kind, q.R, r2, q.S, q.Errors⟩ : XPort).R.Last), .pv (.bool (⟨q.Kind, q.R, r2, q.S, q.Errors⟩ : XPort).R.Bad), .pv (.int .i64 (⟨q.Kind, q.R, r2, q.S, q.Errors⟩ : XPort).R.Half), .pv (.int .i64 (⟨q.Kind, q.R, r2, q.S, q.Errors⟩ : XPort).R.Whole), .row 5, .pv (.bool (⟨q.Kind, q.R, r2, q.S, q.Errors⟩ : XPort).A.Open), .pv (.int .i64 (⟨q.Kind, q.R, r2, q.S, q.Errors⟩ : XPort).A.Last), .pv (.int .i64 (⟨q.Kind, q.R, r2, q.S, q.Errors⟩ : XPort).A.Wait), .row 6, .pv (.bool (⟨q.Kind, q.R, r2, q.S, q.Errors⟩ : XPort).S.Shut), .pv (.int .i64 (q.Errors))]), (3, .row true 3 (XS.map XBox.ps)), (4, .row true 1 ((⟨q.Kind, q.R, r2, q.S, q.Errors⟩ : XPort).R.Buf.map byteEl)), (5, .row true 1 ((⟨q.Kind, q.R, r2, q.S, q.Errors⟩ : XPort).A.Buf.map byteEl)), (6, .row true 1 ((⟨q.Kind, q.R, r2, q.S, q.Errors⟩ : XPort).S.Buf.map byteEl)), (25607, .env [(1, .c (.pv (bytesP l))), (2, .c (.pv (.int .i64 t))), (3, .c (.ptr 0 0)), (6, .c (.ptr 1 0)), (8, .c (.ptr 2 0)), (12, .c (.pv (.int .i64 k)))]), (8, .row true 3 ([g].map XGot.ps))], 25607 + 1, 48⟩) (le_mk [(0, 0), (1, 1), (2, 2), (3, 3), (4, _), (5, _), (6, _), (25607, 25607), (8, _)] rfl ⟨⟨rfl, rfl⟩, ⟨rfl, rfl⟩, ⟨rfl, rfl⟩, ⟨rfl, rfl⟩, trivial⟩ ⟨⟨rfl, rfl⟩, ⟨rfl, rfl⟩, ⟨rfl, rfl⟩, ⟨rfl, rfl⟩, ⟨rfl, rfl⟩, ⟨rfl, rfl⟩, ⟨rfl, rfl⟩, ⟨⟨rfl, rfl⟩, _, rfl, ⟨rfl, rfl⟩, ⟨rfl, rfl⟩, ⟨rfl, rfl⟩, ⟨rfl, rfl⟩, ⟨rfl, rfl⟩, ⟨rfl, rfl⟩, trivial⟩, ⟨rfl, rfl⟩, trivial⟩ rfl) (le_open (el := XGot.ps g) (cs := [.pv (.int .i64 g.Code), .pv (.int .i64 g.Unit), .row 25610]) (u := [(25610, some (.fro 1 (g.Pdu.map byteEl)))]) 8 rfl ⟨rfl, rfl⟩ rfl rfl)) ?_
            intro k2 hk2
            obtain rfl | rfl : k2 = 0 ∨ k2 = 1 := by omega
            · conv => whnf
              refine ⟨0, ⟨⟨rfl, Nat.succ_pos _⟩, rfl⟩, ?_⟩
              conv => whnf
              refine And.intro ⟨rfl, rfl⟩ ?_
              conv => whnf
              refine br_i (fun h => absurd h (by rw [hcb]; decide)) (fun h => ?_)
              conv => whnf
              refine br_i (fun h => ?_) (fun h => ?_)
              · have hbu : bump q.Errors = IntKind.i64.wrap (q.Errors + 1) := by
                  have := dlt h
                  have := hI.err
                  rw [wrap_ok (by omega) (by omega)]
                  exact if_pos (dlt h)
                conv => whnf
                exact ⟨1, ⟨Nat.le_refl _, by decide⟩, le_mk [(0, 0), (1, 1), (2, 2), (3, 3), (4, 4), (5, 5), (6, 6), (25607, 25607), (8, 8)] rfl ⟨⟨rfl, rfl⟩, ⟨rfl, rfl⟩, ⟨rfl, rfl⟩, ⟨rfl, rfl⟩, trivial⟩ ⟨⟨rfl, rfl⟩, ⟨rfl, rfl⟩, ⟨by rw [hbu]; rfl, rfl⟩, ⟨rfl, rfl⟩, ⟨rfl, rfl⟩, ⟨rfl, rfl⟩, ⟨rfl, rfl⟩, ⟨⟨rfl, rfl⟩, _, rfl, ⟨rfl, rfl⟩, ⟨rfl, rfl⟩, ⟨rfl, rfl⟩, ⟨rfl, rfl⟩, ⟨rfl, rfl⟩, ⟨rfl, rfl⟩, trivial⟩, ⟨rfl, rfl⟩, trivial⟩ rfl⟩
              · have hbu : bump q.Errors = q.Errors := by
                  have h1 := dge h
                  have h2 := hI.err
                  unfold bump
                  rw [if_neg (by omega)]
                  omega
                conv => whnf
                exact ⟨1, ⟨Nat.le_refl _, by decide⟩, le_mk [(0, 0), (1, 1), (2, 2), (3, 3), (4, 4), (5, 5), (6, 6), (25607, 25607), (8, 8)] rfl ⟨⟨rfl, rfl⟩, ⟨rfl, rfl⟩, ⟨rfl, rfl⟩, ⟨rfl, rfl⟩, trivial⟩ ⟨⟨rfl, rfl⟩, ⟨rfl, rfl⟩, ⟨by rw [hbu]; rfl, rfl⟩, ⟨rfl, rfl⟩, ⟨rfl, rfl⟩, ⟨rfl, rfl⟩, ⟨rfl, rfl⟩, ⟨⟨rfl, rfl⟩, _, rfl, ⟨rfl, rfl⟩, ⟨rfl, rfl⟩, ⟨rfl, rfl⟩, ⟨rfl, rfl⟩, ⟨rfl, rfl⟩, ⟨rfl, rfl⟩, trivial⟩, ⟨rfl, rfl⟩, trivial⟩ rfl⟩
            · conv => whnf
              exact ⟨(k + 1, ⟨q.Kind, q.R, r2, q.S, bump q.Errors⟩, XS), ⟨⟨⟨hlt, by rw [hnx, hh]; rw [htk]; simp⟩, by rw [hh, htk] at hI2; exact hI2, by show XS.length ≤ k + 1; omega⟩, by show l.length - (k + 1) < l.length - k; omega⟩, le_mk [(0, _), (1, _), (2, _), (3, _), (4, _), (5, _), (6, _)] rfl ⟨⟨rfl, rfl⟩, ⟨rfl, rfl⟩, ⟨rfl, rfl⟩, ⟨rfl, rfl⟩, ⟨rfl, rfl⟩, ⟨rfl, rfl⟩, ⟨ctr (by omega), rfl⟩, trivial⟩ ⟨⟨rfl, rfl⟩, ⟨rfl, rfl⟩, ⟨rfl, rfl⟩, ⟨rfl, rfl⟩, ⟨rfl, rfl⟩, ⟨rfl, rfl⟩, ⟨rfl, rfl⟩, trivial⟩ rfl⟩

    · have hk2 : k = l.length := by simp at h; omega
      subst hk2
      conv => whnf
      refine leaf_i rfl rfl ?_
      rw [List.take_length] at hq
      rw [hph, ← hq]
      rfl

theorem takes_mc {l : List XGot} {e : Int} {n : Nat} (h : ∀ g ∈ l, g.Pdu.length ≤ n) : sumF XBox.mc (takesG l e).1 ≤ n + 2 := by
  unfold takesG
  split
  · simp [sumF]
  · rename_i g l'
    have := h g (List.mem_cons_self ..)
    split
    · simp [sumF, XBox.mc]; omega
    · simp [sumF]
theorem hear1_mc {p q : XPort} {t b : Int} (h : PI p q) (hb : 0 ≤ b ∧ b < 256) : sumF XBox.mc (hear1 q t b).2 ≤ 2003 := by
  unfold hear1
  split
  · exact takes_mc fun g hg => Nat.le_trans ((rtu_step (b := b) (t := t) h.br hb h.lr).2.2.2 g hg) (by omega)
  · exact takes_mc fun g hg => (ascii_step (b := b) (t := t) h.ba hb h.la).2.2.2 g hg
theorem all_pi {p : XPort} {t : Int} : ∀ {l : List Int} {q : XPort}, PI p q → isBytes l → PI p (hearAll q t l).1 ∧ sumF XBox.mc (hearAll q t l).2 ≤ 2003 * l.length ∧ (hearAll q t l).1.S = q.S
  | [], q, h, _ => ⟨h, by simp [hearAll, sumF], rfl⟩
  | b :: l, q, h, hb => by
    have h0 := hb b (List.mem_cons_self ..)
    have h1 := pi_step (t := t) h h0
    have h2 := hear1_mc (t := t) h h0
    obtain ⟨i1, i2, i3⟩ := all_pi (t := t) h1 (fun x hx => hb x (List.mem_cons_of_mem _ hx) : isBytes l)
    have h4 : (hear1 q t b).1.S = q.S := by unfold hear1; split <;> rfl
    refine ⟨i1, ?_, i3.trans h4⟩
    show sumF XBox.mc ((hear1 q t b).2 ++ (hearAll (hear1 q t b).1 t l).2) ≤ 2003 * (l.length + 1)
    rw [sumF_append]
    omega
theorem stream_mc (s : XStream) (l : List Int) : (streamHear s l).1.Buf.length + sumF XBox.mc (streamHear s l).2 ≤ s.Buf.length + l.length := by
  unfold streamHear
  split
  · simp [sumF]
  · have e : XBox.mc = bxm := by funext x; simp [XBox.mc, bxm]
    rw [e]
    have := hear_size ((s.Buf ++ l).length + 1) (s.Buf ++ l)
    rw [List.length_append] at this
    split <;> simp at * <;> omega
theorem port_mc {p : XPort} {l : List Int} {t : Int} (hR : isBytes p.R.Buf) (hA : isBytes p.A.Buf) (hl : isBytes l) : XPort.sc (portHear p l t).1 + sumF XBox.mc (portHear p l t).2 ≤ p.tot + 2003 * l.length + 5000 := by
  have h0 : p.tot = p.R.Buf.length + p.A.Buf.length + p.S.Buf.length := rfl
  unfold portHear
  split
  · simp [XPort.sc, sumF]; omega
  · rename_i hk
    split
    · have := stream_mc p.S l
      simp only [XPort.sc]
      omega
    · have hp : portOk p = true := by simp at hk; exact hk.1
      obtain ⟨i1, i2, i3⟩ := all_pi (t := t) (port_pi hp hR hA) hl
      have := i1.lr
      have := i1.la
      simp only [XPort.sc, i3]
      omega
theorem law_FnExactPortHear (x : XPort) (hx : x.Ok) (b : List Int) (hb0 : ∀ q0, q0 ∈ b → (Lit.int .u8 q0).wf = true) (t : Int) (_ : (Lit.int .i64 t).wf = true) : PureC Try.prog 4 [x.v, bytesV b, i64v t] [boolv true] := by
  refine pureC_deep (Γ := lookT tbl) (il := ilist) tg drD Try.func4 rfl (by kernel_rfl) rfl (Nat.le_of_ble_eq_true rfl) rfl ?_
  conv => whnf
  refine br_i (fun h => ?_) (fun h => ?_)
  · conv => whnf
  have hb : b.length ≤ 1048576 := by simp at h; omega
  clear h
  conv => whnf
  refine Or.inl ?_
  conv => whnf
  refine call_i (szPort x 1048576 (by decide) (by decide)) ?_
  conv => whnf
  refine br_i (fun h => ?_) (fun h => ?_)
  · conv => whnf
  have ht : x.tot ≤ 1048576 := by have := sub_nn (dge h); omega
  clear h
  have h0 : x.tot = x.R.Buf.length + x.A.Buf.length + x.S.Buf.length := rfl
  have hbl : isBytes b := fun q hq => wf_u8 (hb0 q hq)
  have hR : isBytes x.R.Buf := fun q hq => wf_u8 (hx.2.1.1 q hq)
  have hA : isBytes x.A.Buf := fun q hq => wf_u8 (hx.2.2.1.1 q hq)
  have hs := s_PortHear x b t hR hA hbl (by omega) (by omega) (by omega) hb
  have hm := m_PortHear x b t hR hA hbl (by omega) (by omega) (by omega) hb
  have e1 : PureC Try.prog 12 [x.v, x.v] [boolv true] := by simpa using eqPort x x
  have e2 : PureC Try.prog 11 [bytesV b, bytesV b] [boolv true] := by simpa using eqByteS b b
  have hsz := port_mc (t := t) hR hA hbl
  have hxs : x.sc = x.tot := by simp [XPort.sc, XPort.tot, XRtu.tot, XAscii.tot, XStream.tot]
  generalize portHear x b t = R at *
  obtain ⟨g, l⟩ := R
  dsimp only at hs hm hsz
  have e3 : PureC Try.prog 12 [g.v, g.v] [boolv true] := by simpa using eqPort g g
  have e4 : PureC Try.prog 21 [XBox.sV l, XBox.sV l] [boolv true] := by simpa using eqBoxS l l
  obtain ⟨a1, a2, a3, A1⟩ := mkPort x 1 (by decide) (by omega)
  obtain ⟨b1, B1, B2⟩ := mkByteS b (1 + x.sc) (by omega) (by omega)
  obtain ⟨c1, c2, c3, C1, C2⟩ := mkPort g 1 (by decide) (by omega)
  obtain ⟨d1, D1, D2⟩ := mkBoxS l (1 + g.sc) (by omega) (by omega)
  (repeat' ((conv => whnf); first | exact rfl | (refine br_i ?_ ?_; (· (intro h; exfalso; first | (simp at h; done) | (have := dlt h; omega))); intro _) | (refine br_i ?_ ?_; rotate_left; (· (intro h; exfalso; simp at h; done)); intro _) | refine br_i (fun _ => ?_) (fun _ => ?_) | refine And.intro rfl ?_ | (refine Or.inl ?_; (conv => whnf); refine call_i (hs) ?_) | (refine Or.inl ?_; (conv => whnf); refine call_i (hm) ?_) | (refine Or.inl ?_; (conv => whnf); refine call_i (toPort x ht) ?_) | (refine Or.inl ?_; (conv => whnf); refine call_i (toByteS b hb) ?_) | (refine Or.inl ?_; (conv => whnf); refine call_i (e1) ?_) | (refine Or.inl ?_; (conv => whnf); refine call_i (e2) ?_) | (refine Or.inl ?_; (conv => whnf); refine call_i (e3) ?_) | (refine Or.inl ?_; (conv => whnf); refine call_i (e4) ?_) | refine mark_i A1.1 rfl ?_ | refine mark_i B1 rfl ?_ | refine mark_i C1 rfl ?_ | refine mark_i D1 rfl ?_ | (refine Or.inl ?_; (conv => whnf); refine call_i (C2) ?_) | (refine Or.inl ?_; (conv => whnf); refine call_i (D2) ?_) | (refine And.intro ?_ ?_; · decide)); all_goals (try (conv => whnf)))

end Go.Proofs.Ytoccphgempbdeaa
