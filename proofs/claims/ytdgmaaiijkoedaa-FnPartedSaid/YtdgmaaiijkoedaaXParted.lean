/- The parts of a drawn question. -/
import Derived.Test.YtdgmaaiijkoedaaXBig
namespace Go.Proofs.Ytdgmaaiijkoedaa
open Go Go.Vi
set_option linter.unusedVariables false
set_option linter.unusedSimpArgs false
set_option maxRecDepth 100000
theorem d_Route (code : List Int) (hl : code.length ≤ 1048576) : NdC Try.prog 13 [bytesV code] (fun rs => ∃ (l : List XRule) (q : XReq), rs = [XRule.sV l, q.v] ∧ l.length ≤ 300 ∧ goodR 0 q) := by
  refine ndC_of (Γ := lookT tbl) (il := ilist) tg dr Try.func13 rfl (by kernel_rfl) rfl (Nat.le_of_ble_eq_true rfl) ?_
  have hO := d_One code (by omega)
  have hQ := d_Req code (by omega) 0 (by decide) (by decide)
  have newI := fun {k : Nat} (hb : (k : Int) < (code.map byteEl).length) => newI (L := code.map byteEl) (code := code) hb rfl
  have hL : (code.map byteEl).length ≤ 1048576 := by rw [List.length_map]; exact hl
  unfold bytesV bytesP
  generalize code.map byteEl = L at *
  conv => whnf
  refine inl_of (Γ := lookT tbl) (il := ilist) tg dr Try.func30 rfl (by kernel_rfl) rfl (ts := [22]) (Nat.le_of_ble_eq_true rfl) ?_
  conv => whnf
  refine loop_i (fun s : Nat × Int => ⟨envL [(0, .c (.pv (.sl 1 L))), (3, .c (.pv (.int .i64 s.2))), (4, .c (.pv (.int .i64 s.1)))], resL [(0, .box [.pv (.int .i64 0), .pv (.int .i64 0), .pv (.int .i64 0), .nil 1, .nil 1, .pv (.int .i64 0)]), (3072, .env [(0, .c (.pv (.sl 1 L))), (3, .c (.ptr 0 0))])], 3073, 32⟩) (fun s => s.1 ≤ L.length) (fun s => L.length - s.1) (0, _) (Nat.zero_le _) (le_mk [(0, _)] rfl ⟨⟨rfl, rfl⟩, ⟨rfl, rfl⟩, ⟨rfl, rfl⟩, trivial⟩ ⟨⟨rfl, rfl⟩, ⟨⟨rfl, rfl⟩, _, rfl, ⟨rfl, rfl⟩, ⟨rfl, rfl⟩, trivial⟩, trivial⟩ rfl) ?_
  rintro ⟨k, h⟩ hk
  dsimp only at hk
  conv => whnf
  refine br_i (fun hb => ?_) (fun hb => ?_)
  focus
    have hb : (k : Int) < L.length := by simpa using hb
    conv => whnf
    refine br_i (fun hb2 => ?_) (fun hb2 => ?_)
    focus
      conv => whnf
      refine ⟨_, ⟨⟨by omega, newI hb⟩, rfl⟩, ?_⟩
      conv => whnf
      exact ⟨(k + 1, _), ⟨by show k + 1 ≤ L.length; omega, by show L.length - (k + 1) < L.length - k; omega⟩, le_mk [] rfl ⟨⟨rfl, rfl⟩, ⟨rfl, rfl⟩, ⟨ctr (by omega), rfl⟩, trivial⟩ ⟨⟨rfl, rfl⟩, ⟨⟨rfl, rfl⟩, _, rfl, ⟨rfl, rfl⟩, ⟨rfl, rfl⟩, trivial⟩, trivial⟩ rfl⟩
  all_goals
    conv => whnf
    refine inl_cur (Γ := lookT tbl) [] ?_
    conv => whnf
    refine cur_i hO (by decide) ?_
    rintro _ i h ⟨l, rfl, hl1⟩ hi
    conv => whnf
    refine br_i (fun hb => ?_) (fun hb => ?_)
    focus
      have hb : 24 < l.length := by simp at hb; omega
      conv => whnf
      refine ⟨(l.take 24).map XRule.ps, cut_to XRule.ps 7 l 24 24 rfl (by omega), Or.inr ?_⟩
      have hl1 : (l.take 24).length ≤ 200 := by rw [List.length_take]; omega
      generalize l.take 24 = l at *
      conv => whnf
      refine inl_cur (Γ := lookT tbl) [3] ?_
      conv => whnf
      refine cur_i hQ hi ?_
      rintro _ i h ⟨q, rfl, hq⟩ hi
      conv => whnf
      refine leaf_i rfl rfl ?_
      exact ⟨l, q, rfl, by omega, hq⟩
    conv => whnf
    refine inl_cur (Γ := lookT tbl) [3] ?_
    conv => whnf
    refine cur_i hQ hi ?_
    rintro _ i h ⟨q, rfl, hq⟩ hi
    conv => whnf
    refine leaf_i rfl rfl ?_
    exact ⟨l, q, rfl, by omega, hq⟩
/-! ### Plain law -/
theorem req_of {q : XReq} (hA : 0 ≤ q.At ∧ q.At ≤ 65535) (hW : words q.Words) (h : ReqIs q) : specReq q = true := by
  have fits := fun {n : Int} (h1 : 0 ≤ n) (h2 : n ≤ 100000) (h3 : q.At + n ≤ 65536) => (fits_iff hA.1 hA.2 h1 h2).2 h3
  unfold specReq
  rw [if_neg (by rw [words_all hW, show inB q.At 0 65535 = true by simp [inB]; omega]; decide)]
  cases h <;> rename_i hk hN hW hB hX
  case rc => rw [if_pos hk, fits (by omega) (by omega) hN.2.2]; simp [zeroB, inB, hW, hB, hX]; omega
  case rw => rw [if_neg (by omega), if_pos hk, fits (by omega) (by omega) hN.2.2]; simp [zeroB, inB, hW, hB, hX]; omega
  case wc => rw [if_neg (by omega), if_neg (by omega), if_pos hk]; simp [zeroB, hN, hW, hB, hX]
  case ww => rw [if_neg (by omega), if_neg (by omega), if_neg (by omega), if_pos hk]; simp [zeroB, hN, hW, hB, hX]
  case wcs => rw [if_neg (by omega), if_neg (by omega), if_neg (by omega), if_neg (by omega), if_pos hk, fits (by omega) (by omega) hB.2.2]; simp [zeroB, inB, hN, hW, hX]; omega
  case wws => rw [if_neg (by omega), if_neg (by omega), if_neg (by omega), if_neg (by omega), if_neg (by omega), if_pos hk, fits (by omega) (by omega) hW.2.2]; simp [zeroB, inB, hN, hB, hX]; omega
  case mw => rw [if_neg (by omega), if_neg (by omega), if_neg (by omega), if_neg (by omega), if_neg (by omega), if_neg (by omega), if_pos hk]; simp [zeroB, hN, hW, hB, hX]
  case rwr => rw [if_neg (by omega), if_neg (by omega), if_neg (by omega), if_neg (by omega), if_neg (by omega), if_neg (by omega), if_neg (by omega), if_pos hk, fits (by omega) (by omega) hN.2.2, (fits_iff hX.1 hX.2 (by omega) (by omega)).2 hW.2.2]; simp [zeroB, inB, hB]; omega
def wordsAt (q : XReq) (f : Int) : List Int := if q.Kind = 22 ∨ q.Kind = 23 then (if f = 0 then [] else q.Words) else q.Words.take f.toNat
def bitsAt (q : XReq) (f : Int) : List Bool := q.Bits.take f.toNat
theorem cut_len {α : Type} {l : List α} {f n : Int} (hf : 0 ≤ f) (hn : 1 ≤ n) (h : f + n ≤ l.length) : ((cutL l f (f + n)).length : Int) = n := by
  unfold cutL
  rw [List.length_drop, List.length_take]
  omega
theorem cut_app {α : Type} {l : List α} {f n : Int} (hf : 0 ≤ f) (hn : 1 ≤ n) : l.take f.toNat ++ cutL l f (f + n) = l.take (f + n).toNat := by
  unfold cutL
  have : l.take f.toNat = (l.take (f + n).toNat).take f.toNat := by rw [List.take_take]; congr 1; omega
  rw [this, List.take_append_drop]
theorem words_cut {l : List Int} {a b : Int} (h : words l) : words (cutL l a b) := fun x hx => h x (List.mem_of_mem_take (List.mem_of_mem_drop hx))
theorem piece_req {q : XReq} (h : specReq q = true) (h23 : q.Kind ≠ 23) {f n s : Int} (hf : 0 ≤ f) (hn : 1 ≤ n) (hfn : f + n ≤ cntOf q) (hs : 0 ≤ q.At + f + s ∧ q.At + f + n - 1 + s ≤ 65535) (hs2 : -65535 ≤ s ∧ s ≤ 65535) :
    specReq (pieceOf q f n s) = true ∧ cntOf (pieceOf q f n s) = n ∧ (pieceOf q f n s).Kind = q.Kind ∧ (pieceOf q f n s).At = q.At + f + s ∧ wordsAt q f ++ (pieceOf q f n s).Words = wordsAt q (f + n) ∧ bitsAt q f ++ (pieceOf q f n s).Bits = bitsAt q (f + n) := by
  obtain ⟨hA, hw, hq⟩ := req_is h
  have hc := req_cnt h
  have eA : wrap64 (wrap64 (q.At + f) + s) = q.At + f + s := by
    rw [show wrap64 (q.At + f) = q.At + f from wrap_ok (by omega) (by omega)]
    exact wrap_ok (by omega) (by omega)
  cases hq <;> rename_i hk hN hW hB hX
  case rc =>
    have e : pieceOf q f n s = ⟨q.Kind, q.At + f + s, n, [], [], 0⟩ := by unfold pieceOf; rw [eA, hW, hB, cut_nil, cut_nil, if_pos (by omega), if_neg (by omega)]
    have hcn : cntOf q = q.N := by unfold cntOf; rw [if_pos (by omega)]
    rw [e]
    refine ⟨req_of (by show 0 ≤ q.At + f + s ∧ q.At + f + s ≤ 65535; omega) words_nil (.rc hk ⟨hn, by show n ≤ 2000; omega, by show q.At + f + s + n ≤ 65536; omega⟩ rfl rfl rfl), by unfold cntOf; exact if_pos (by show n ≠ 0; omega), rfl, rfl, ?_, ?_⟩
    · unfold wordsAt; rw [if_neg (by omega), if_neg (by omega), hW]; simp
    · unfold bitsAt; rw [hB]; simp
  case rw =>
    have e : pieceOf q f n s = ⟨q.Kind, q.At + f + s, n, [], [], 0⟩ := by unfold pieceOf; rw [eA, hW, hB, cut_nil, cut_nil, if_pos (by omega), if_neg (by omega)]
    have hcn : cntOf q = q.N := by unfold cntOf; rw [if_pos (by omega)]
    rw [e]
    refine ⟨req_of (by show 0 ≤ q.At + f + s ∧ q.At + f + s ≤ 65535; omega) words_nil (.rw hk ⟨hn, by show n ≤ 125; omega, by show q.At + f + s + n ≤ 65536; omega⟩ rfl rfl rfl), by unfold cntOf; exact if_pos (by show n ≠ 0; omega), rfl, rfl, ?_, ?_⟩
    · unfold wordsAt; rw [if_neg (by omega), if_neg (by omega), hW]; simp
    · unfold bitsAt; rw [hB]; simp
  case wc =>
    have hcn : cntOf q = 1 := by unfold cntOf; rw [if_neg (by omega), if_neg (by omega), hW]; simp; omega
    have hl := cut_len (l := q.Bits) hf hn (by omega)
    have e : pieceOf q f n s = ⟨q.Kind, q.At + f + s, 0, [], cutL q.Bits f (f + n), 0⟩ := by unfold pieceOf; rw [eA, hW, cut_nil, if_neg (by omega), if_neg (by omega)]
    have ha := cut_app (l := q.Bits) hf hn
    rw [e]
    refine ⟨req_of (by show 0 ≤ q.At + f + s ∧ q.At + f + s ≤ 65535; omega) words_nil (.wc hk rfl rfl (by show (cutL q.Bits f (f + n)).length = 1; omega) rfl), ?_, rfl, rfl, ?_, ha⟩
    · unfold cntOf; dsimp only; rw [if_neg (by decide), if_neg (by omega)]; simp; omega
    · unfold wordsAt; rw [if_neg (by omega), if_neg (by omega), hW]; simp
  case ww =>
    have hcn : cntOf q = 1 := by unfold cntOf; rw [if_neg (by omega), if_neg (by omega), hB]; simp; omega
    have hl := cut_len (l := q.Words) hf hn (by omega)
    have e : pieceOf q f n s = ⟨q.Kind, q.At + f + s, 0, cutL q.Words f (f + n), [], 0⟩ := by unfold pieceOf; rw [eA, hB, cut_nil, if_neg (by omega), if_neg (by omega)]
    have ha := cut_app (l := q.Words) hf hn
    rw [e]
    refine ⟨req_of (by show 0 ≤ q.At + f + s ∧ q.At + f + s ≤ 65535; omega) (words_cut hw) (.ww hk rfl (by show (cutL q.Words f (f + n)).length = 1; omega) rfl rfl), ?_, rfl, rfl, ?_, ?_⟩
    · unfold cntOf; dsimp only; rw [if_neg (by decide), if_neg (by omega)]; simp; omega
    · unfold wordsAt; rw [if_neg (by omega), if_neg (by omega)]; exact ha
    · unfold bitsAt; rw [hB]; simp
  case wcs =>
    have hcn : cntOf q = q.Bits.length := by unfold cntOf; rw [if_neg (by omega), if_neg (by omega), hW]; simp
    have hl := cut_len (l := q.Bits) hf hn (by omega)
    have e : pieceOf q f n s = ⟨q.Kind, q.At + f + s, 0, [], cutL q.Bits f (f + n), 0⟩ := by unfold pieceOf; rw [eA, hW, cut_nil, if_neg (by omega), if_neg (by omega)]
    have ha := cut_app (l := q.Bits) hf hn
    rw [e]
    refine ⟨req_of (by show 0 ≤ q.At + f + s ∧ q.At + f + s ≤ 65535; omega) words_nil (.wcs hk rfl rfl (by show 1 ≤ (cutL q.Bits f (f + n)).length ∧ (cutL q.Bits f (f + n)).length ≤ 1968 ∧ q.At + f + s + ((cutL q.Bits f (f + n)).length : Int) ≤ 65536; omega) rfl), ?_, rfl, rfl, ?_, ha⟩
    · unfold cntOf; dsimp only; rw [if_neg (by decide), if_neg (by omega)]; simp; omega
    · unfold wordsAt; rw [if_neg (by omega), if_neg (by omega), hW]; simp
  case wws =>
    have hcn : cntOf q = q.Words.length := by unfold cntOf; rw [if_neg (by omega), if_neg (by omega), hB]; simp
    have hl := cut_len (l := q.Words) hf hn (by omega)
    have e : pieceOf q f n s = ⟨q.Kind, q.At + f + s, 0, cutL q.Words f (f + n), [], 0⟩ := by unfold pieceOf; rw [eA, hB, cut_nil, if_neg (by omega), if_neg (by omega)]
    have ha := cut_app (l := q.Words) hf hn
    rw [e]
    refine ⟨req_of (by show 0 ≤ q.At + f + s ∧ q.At + f + s ≤ 65535; omega) (words_cut hw) (.wws hk rfl (by show 1 ≤ (cutL q.Words f (f + n)).length ∧ (cutL q.Words f (f + n)).length ≤ 123 ∧ q.At + f + s + ((cutL q.Words f (f + n)).length : Int) ≤ 65536; omega) rfl rfl), ?_, rfl, rfl, ?_, ?_⟩
    · unfold cntOf; dsimp only; rw [if_neg (by decide), if_neg (by omega)]; simp; omega
    · unfold wordsAt; rw [if_neg (by omega), if_neg (by omega)]; exact ha
    · unfold bitsAt; rw [hB]; simp
  case mw =>
    have hcn : cntOf q = 1 := by unfold cntOf; rw [if_neg (by omega), if_pos hk]
    have hf0 : f = 0 := by omega
    have hn1 : n = 1 := by omega
    have e : pieceOf q f n s = ⟨q.Kind, q.At + f + s, 0, q.Words, [], 0⟩ := by unfold pieceOf; rw [eA, hB, cut_nil, if_neg (by omega), if_pos hk]
    rw [e]
    refine ⟨req_of (by show 0 ≤ q.At + f + s ∧ q.At + f + s ≤ 65535; omega) hw (.mw hk rfl hW rfl rfl), ?_, rfl, rfl, ?_, ?_⟩
    · unfold cntOf; dsimp only; rw [if_neg (by decide), if_pos hk, hn1]
    · subst hf0 hn1; unfold wordsAt; rw [if_pos (show q.Kind = 22 ∨ q.Kind = 23 from .inl hk), if_pos rfl, if_pos (show q.Kind = 22 ∨ q.Kind = 23 from .inl hk), if_neg (by decide)]; simp
    · unfold bitsAt; rw [hB]; simp
  case rwr => exact absurd hk h23
def StepP (l : List XRule) (q : XReq) (f : Int) (p : XPart) : Prop :=
  specReq p.Req = true ∧ p.Req.Kind = q.Kind ∧ (∃ k, ∃ hk : k < l.length, ruleAt l 1 (spOf q.Kind) (q.At + f) = k ∧ l[k].Port = p.Port ∧ l[k].To = p.Unit ∧ p.Req.At = q.At + f + l[k].Shift ∧ -65535 ≤ l[k].Shift ∧ l[k].Shift ≤ 65535) ∧
  wordsAt q f ++ p.Req.Words = wordsAt q (f + cntOf p.Req) ∧ bitsAt q f ++ p.Req.Bits = bitsAt q (f + cntOf p.Req) ∧ 1 ≤ cntOf p.Req ∧ f + cntOf p.Req ≤ cntOf q
def Chain (l : List XRule) (q : XReq) : Int → List XPart → Prop
  | f, [] => f = cntOf q
  | f, p :: r => StepP l q f p ∧ Chain l q (f + cntOf p.Req) r
theorem go_chain {l : List XRule} {q : XReq} (hR : rulesB l = true) (hq : specReq q = true) (h23 : q.Kind ≠ 23) : ∀ (fuel : Nat) (f : Int) (out out2 : List XPart), 0 ≤ f → f ≤ cntOf q → partsGo l 1 (spOf q.Kind) q.At (cntOf q) q fuel f out = some out2 → ∃ r, out2 = out ++ r ∧ Chain l q f r
  | 0, _, _, _, _, _, h => by cases h
  | fuel + 1, f, out, out2, hf, hf2, h => by
    unfold partsGo at h
    by_cases h1 : cntOf q ≤ f
    · rw [if_pos h1] at h
      cases h
      exact ⟨[], by simp, by show f = cntOf q; omega⟩
    rw [if_neg h1] at h
    rcases ruleAt_cases l 1 (spOf q.Kind) (q.At + f) with ⟨h2, _⟩ | ⟨k, hk, h2, h3, _⟩
    · rw [if_pos (by omega)] at h
      cases h
    rw [if_neg (by omega), h2, show ((k : Int)).toNat = k from rfl, List.getElem?_eq_getElem hk] at h
    dsimp only at h
    have c := hit_facts h3
    have d := rule_facts (rules_get hR hk).1
    have hc := req_cnt hq
    have ht : 1 ≤ takeN l[k] q.At (cntOf q) f ∧ f + takeN l[k] q.At (cntOf q) f ≤ cntOf q ∧ q.At + f + takeN l[k] q.At (cntOf q) f - 1 ≤ l[k].Hi := by unfold takeN; split <;> omega
    have hp := piece_req (q := q) (f := f) (n := takeN l[k] q.At (cntOf q) f) (s := l[k].Shift) hq h23 hf ht.1 ht.2.1 (by omega) (by omega)
    generalize takeN l[k] q.At (cntOf q) f = n at *
    obtain ⟨r, e1, e2⟩ := go_chain hR hq h23 fuel (f + n) _ _ (by omega) ht.2.1 h
    obtain ⟨p1, p2, p3, p4, p5, p6⟩ := hp
    refine ⟨⟨l[k].Port, l[k].To, pieceOf q f n l[k].Shift⟩ :: r, by rw [e1]; simp, ⟨p1, p3, ⟨k, hk, h2, rfl, rfl, p4, by omega, by omega⟩, ?_, ?_, ?_, ?_⟩, ?_⟩
    · dsimp only; rw [p2]; exact p5
    · dsimp only; rw [p2]; exact p6
    · dsimp only; rw [p2]; exact ht.1
    · dsimp only; rw [p2]; exact ht.2.1
    · dsimp only; rw [p2]; exact e2
theorem parts_chain {l : List XRule} {q : XReq} : ((parts l 1 q).2 > 0 ∧ (parts l 1 q).1 = []) ∨ ((parts l 1 q).2 = 0 ∧ rulesB l = true ∧ specReq q = true ∧ (parts l 1 q).1.length ≤ 8 ∧ Chain l q 0 (parts l 1 q).1) := by
  unfold parts
  by_cases h1 : (!rulesB l || !specReq q) = true
  · rw [if_pos h1]; exact .inl ⟨by decide, rfl⟩
  rw [if_neg h1]
  have h2 : rulesB l = true ∧ specReq q = true := by simpa using h1
  obtain ⟨hR, hq⟩ := h2
  by_cases h3 : (!known l 1) = true
  · rw [if_pos h3]; exact .inl ⟨by decide, rfl⟩
  rw [if_neg h3]
  by_cases h23 : q.Kind = 23
  · rw [if_pos h23]
    unfold bothOf
    rcases ruleAt_cases l 1 2 q.At with ⟨h4, _⟩ | ⟨k, hk, h4, h5, _⟩
    · rw [if_pos (by omega)]; exact .inl ⟨by decide, rfl⟩
    rw [if_neg (by omega), h4, show ((k : Int)).toNat = k from rfl, List.getElem?_eq_getElem hk]
    dsimp only
    by_cases h6 : q.At + q.N - 1 > l[k].Hi ∨ q.WAt < l[k].Lo ∨ q.WAt + q.Words.length - 1 > l[k].Hi
    · rw [if_pos h6]; exact .inl ⟨by decide, rfl⟩
    rw [if_neg h6]
    obtain ⟨hA, hw, hi⟩ := req_is hq
    have c := hit_facts h5
    have d := rule_facts (rules_get hR hk).1
    cases hi <;> rename_i hk2 hN hW hB hX
    case rwr =>
      have eA : wrap64 (q.At + l[k].Shift) = q.At + l[k].Shift := wrap_ok (by omega) (by omega)
      have eW : wrap64 (q.WAt + l[k].Shift) = q.WAt + l[k].Shift := wrap_ok (by omega) (by omega)
      rw [eA, eW]
      have hcn : cntOf q = q.N := by unfold cntOf; rw [if_pos (by omega)]
      have hcp : cntOf ⟨q.Kind, q.At + l[k].Shift, q.N, q.Words, q.Bits, q.WAt + l[k].Shift⟩ = q.N := by unfold cntOf; exact if_pos (by show q.N ≠ 0; omega)
      have hsr : specReq ⟨q.Kind, q.At + l[k].Shift, q.N, q.Words, q.Bits, q.WAt + l[k].Shift⟩ = true := req_of (by show 0 ≤ q.At + l[k].Shift ∧ q.At + l[k].Shift ≤ 65535; omega) hw (.rwr hk2 (by show 1 ≤ q.N ∧ q.N ≤ 125 ∧ q.At + l[k].Shift + q.N ≤ 65536; omega) (by show 1 ≤ q.Words.length ∧ q.Words.length ≤ 121 ∧ q.WAt + l[k].Shift + (q.Words.length : Int) ≤ 65536; omega) hB (by show 0 ≤ q.WAt + l[k].Shift ∧ q.WAt + l[k].Shift ≤ 65535; omega))
      refine .inr ⟨rfl, hR, hq, by show 1 ≤ 8; omega, ⟨hsr, rfl, ⟨k, hk, by rw [h23, Int.add_zero]; exact h4, rfl, rfl, by show q.At + l[k].Shift = q.At + 0 + l[k].Shift; omega, by omega, by omega⟩, ?_, ?_, ?_, ?_⟩, ?_⟩
      · dsimp only; rw [hcp]; unfold wordsAt; rw [if_pos (show q.Kind = 22 ∨ q.Kind = 23 from .inr h23), if_pos rfl, if_pos (show q.Kind = 22 ∨ q.Kind = 23 from .inr h23), if_neg (by omega)]; simp
      · dsimp only; unfold bitsAt; rw [hB]; simp
      · dsimp only; rw [hcp]; omega
      · dsimp only; rw [hcp]; omega
      · dsimp only; rw [hcp]; show 0 + q.N = cntOf q; omega
    all_goals exfalso; omega
  rw [if_neg h23]
  cases hg : partsGo l 1 (spOf q.Kind) q.At (cntOf q) q ((cntOf q).toNat + 1) 0 [] with
  | none => exact .inl ⟨by decide, rfl⟩
  | some out =>
    unfold partsOf
    dsimp only
    by_cases h8 : (out.length : Int) > 8
    · rw [if_pos h8]; exact .inl ⟨by decide, rfl⟩
    rw [if_neg h8]
    have hc := req_cnt hq
    obtain ⟨r, e1, e2⟩ := go_chain hR hq h23 _ 0 [] out (by omega) (by omega) hg
    rw [List.nil_append] at e1
    subst e1
    exact .inr ⟨rfl, hR, hq, by show out.length ≤ 8; omega, e2⟩
theorem law_FnParted (code : List Int) (hw : ∀ q0, q0 ∈ code → (Lit.int .u8 q0).wf = true) : PureC Try.prog 4 [bytesV code] [boolv true] := by
  refine pureC_of (Γ := lookT tbl) (il := ilist) tg dr Try.func4 rfl (by kernel_rfl) rfl (Nat.le_of_ble_eq_true rfl) ?_
  conv => whnf
  refine call_i (l_big code) ?_
  conv => whnf
  refine br_i (fun h => ?_) (fun h => ?_)
  · conv => whnf
    exact leaf_i rfl rfl rfl
  have hlc : code.length ≤ 1048576 := by simp [bigB] at h; omega
  conv => whnf
  refine inl_nd (Γ := lookT tbl) [22] ?_
  conv => whnf
  refine nd_i (d_Route code hlc) ?_
  rintro _ ⟨l, q, rfl, hl, hq⟩
  have hm := m_Parts l 1 q (m_both l 1 q)
  have hs := s_Parts l 1 q (s_Both l 1 q)
  have hc := parts_chain (l := l) (q := q)
  have hM := m_RulesOk l
  generalize parts l 1 q = R at *
  obtain ⟨out, w⟩ := R
  dsimp only at hm hs hc
  conv => whnf
  refine call_i hm ?_
  conv => whnf
  refine call_i hs ?_
  conv => whnf
  refine br_i (fun h => absurd h (by simp)) (fun _ => ?_)
  conv => whnf
  rcases hc with ⟨h1, h2⟩ | ⟨h1, hR, hq2, hl8, hc⟩
  · refine br_i (fun _ => ?_) (fun h => absurd (of_decide_eq_false h) (by omega))
    subst h2
    conv => whnf
    exact leaf_i rfl rfl rfl
  refine br_i (fun h => absurd (of_decide_eq_true h) (by omega)) (fun _ => ?_)
  rw [hR] at hM
  have hsp := m_Spaces q
  rw [show spaces q = (spOf q.Kind, q.At, cntOf q) by unfold spaces; rw [if_pos hq2]] at hsp
  dsimp only at hsp
  conv => whnf
  refine Or.inl (call_i hsp ?_)
  have hw0 : wordsAt q 0 = [] := by unfold wordsAt; split <;> simp
  have hbd := hq.2.2.2.1
  conv => whnf
  refine loop_i (fun s : Nat × Int => ⟨envL [(3, .c (.row 0)), (4, .c (.ptr 1 0)), (5, .c (.row 4)), (11, .c (.pv (.int .i64 (cntOf q)))), (12, .c (.pv (.int .i64 s.2))), (13, .c (.row 5)), (14, .c (.row 6)), (15, .c (.pv (.int .i64 s.1)))], resL [(0, .row true 7 (l.map XRule.ps)), (1, .box [.pv (.int .i64 q.Kind), .pv (.int .i64 q.At), .pv (.int .i64 q.N), .row 2, .row 3, .pv (.int .i64 q.WAt)]), (2, .row true 1 (q.Words.map intEl)), (3, .row true 1 (q.Bits.map boolEl)), (4, .row true 8 (out.map XPart.ps)), (5, .row true 1 ((wordsAt q s.2).map intEl)), (6, .row true 1 ((bitsAt q s.2).map boolEl))], 7, 174⟩) (fun s => s.1 ≤ out.length ∧ 0 ≤ s.2 ∧ Chain l q s.2 (out.drop s.1)) (fun s => out.length - s.1) (0, 0) ⟨Nat.zero_le _, Int.le_refl _, hc⟩
    (le_mk [(0, _), (1, _), (2, _), (3, _), (4, _), (5, _), (6, _)] rfl ⟨⟨rfl, rfl⟩, ⟨rfl, rfl⟩, ⟨rfl, rfl⟩, ⟨rfl, rfl⟩, ⟨rfl, rfl⟩, ⟨rfl, rfl⟩, ⟨rfl, rfl⟩, ⟨rfl, rfl⟩, trivial⟩ ⟨⟨rfl, rfl⟩, ⟨rfl, rfl⟩, ⟨rfl, rfl⟩, ⟨rfl, rfl⟩, ⟨rfl, rfl⟩, ⟨by rw [hw0]; rfl, rfl⟩, ⟨rfl, rfl⟩, trivial⟩ rfl) ?_
  rintro ⟨i, f⟩ ⟨hi, hf, hch⟩
  dsimp only at hi hf hch
  conv => whnf
  refine br_i (fun h => ?_) (fun h => ?_)
  · have hlt : i < out.length := by simpa using h
    clear h
    have hi2 : i < (out.map XPart.ps).length := by rw [List.length_map]; exact hlt
    have hgt : (out.map XPart.ps)[i]? = some (XPart.ps out[i]) := by rw [List.getElem?_map, List.getElem?_eq_getElem hlt]; rfl
    rw [List.drop_eq_getElem_cons hlt] at hch
    obtain ⟨⟨c1, c2, ⟨k, hk, c3, c4, c5, c6, c7, c8⟩, c9, c10, c11, c12⟩, hch2⟩ := hch
    generalize out[i] = p at *
    have hk2 : k < (l.map XRule.ps).length := by rw [List.length_map]; exact hk
    have hgk : (l.map XRule.ps)[k]? = some (XRule.ps l[k]) := by rw [List.getElem?_map, List.getElem?_eq_getElem hk]; rfl
    generalize l[k] = r at *
    have hsr := m_Spaces p.Req
    rw [show spaces p.Req = (spOf p.Req.Kind, p.Req.At, cntOf p.Req) by unfold spaces; rw [if_pos c1]] at hsr
    dsimp only at hsr
    have hrq := m_ReqOk p.Req
    rw [implReq_eq, c1] at hrq
    have hru := m_RuleAt l 1 (spOf q.Kind) (q.At + f)
    rw [c3] at hru
    have hqc := req_cnt hq2
    have hW := wordsAt q f
    generalize hN : cntOf p.Req = n at *
    obtain ⟨P, U, ⟨K, A, N, W, B, WA⟩⟩ := p
    dsimp only at *
    subst c2 c4 c5 c6
    replace hgt : (out.map XPart.ps)[i]? = some [.int .i64 r.Port, .int .i64 r.To, .int .i64 q.Kind, .int .i64 (q.At + f + r.Shift), .int .i64 N, intsP W, boolsP B, .int .i64 WA] := hgt
    conv => whnf
    refine ⟨i, ⟨⟨rfl, hi2⟩, rfl⟩, ?_⟩
    conv => whnf
    refine ⟨_, ⟨rfl, hgt⟩, ?_⟩
    conv => whnf
    refine call_i hsr ?_
    conv => whnf
    refine Or.inl (call_i hsp ?_)
    conv => whnf
    rw [wrap_ok (x := q.At + f) (by omega) (by omega)]
    refine call_i hru ?_
    conv => whnf
    refine call_i hrq ?_
    conv => whnf
    refine br_i (fun h => absurd h (by simp)) (fun _ => ?_)
    conv => whnf
    refine ⟨k, ⟨⟨rfl, hk2⟩, rfl⟩, ?_⟩
    conv => whnf
    refine ⟨_, ⟨rfl, hgk⟩, ?_⟩
    conv => whnf
    refine ⟨i, ⟨⟨rfl, hi2⟩, rfl⟩, ?_⟩
    conv => whnf
    refine ⟨_, ⟨rfl, hgt⟩, ?_⟩
    conv => whnf
    refine br_i (fun h => absurd h (by simp)) (fun _ => ?_)
    conv => whnf
    refine ⟨k, ⟨⟨rfl, hk2⟩, rfl⟩, ?_⟩
    conv => whnf
    refine ⟨_, ⟨rfl, hgk⟩, ?_⟩
    conv => whnf
    refine ⟨i, ⟨⟨rfl, hi2⟩, rfl⟩, ?_⟩
    conv => whnf
    refine ⟨_, ⟨rfl, hgt⟩, ?_⟩
    conv => whnf
    refine br_i (fun h => absurd h (by simp)) (fun _ => ?_)
    conv => whnf
    rw [wrap_ok (x := q.At + f) (by omega) (by omega)]
    refine ⟨k, ⟨⟨rfl, hk2⟩, rfl⟩, ?_⟩
    conv => whnf
    refine ⟨_, ⟨rfl, hgk⟩, ?_⟩
    conv => whnf
    refine And.intro rfl ?_
    conv => whnf
    rw [wrap_ok (x := q.At + f + r.Shift) (by omega) (by omega)]
    refine br_i (fun h => absurd h (by simp)) (fun _ => ?_)
    conv => whnf
    have hW1 : ((wordsAt q f).length + W.length) * 8 ≤ 140737488355328 := by
      rw [← List.length_append, c9]; unfold wordsAt; (repeat' split) <;> (try rw [List.length_take]) <;> (try simp) <;> omega
    have hB1 : ((bitsAt q f).length + B.length) * 1 ≤ 140737488355328 := by
      rw [← List.length_append, c10]; unfold bitsAt; rw [List.length_take]; omega
    refine ⟨⟨rfl, flat_int W⟩, ?_⟩
    conv => whnf
    refine ⟨(wordsAt q (f + n)).map intEl, ⟨by rw [List.length_map, List.length_map]; exact hW1, by rw [← c9, List.map_append]⟩, ?_⟩
    conv => whnf
    refine ⟨⟨rfl, flat_bool B⟩, ?_⟩
    conv => whnf
    refine ⟨(bitsAt q (f + n)).map boolEl, ⟨by rw [List.length_map, List.length_map]; exact hB1, by rw [← c10, List.map_append]⟩, ?_⟩
    conv => whnf
    exact ⟨(i + 1, f + n), ⟨⟨hlt, by show 0 ≤ f + n; omega, hch2⟩, by show out.length - (i + 1) < out.length - i; omega⟩, le_mk [(5, _), (6, _)] rfl ⟨⟨rfl, rfl⟩, ⟨rfl, rfl⟩, ⟨rfl, rfl⟩, ⟨rfl, rfl⟩, ⟨i64_eq (wrap_ok (x := f + n) (by omega) (by omega)), rfl⟩, ⟨rfl, rfl⟩, ⟨rfl, rfl⟩, ⟨ctr (by omega), rfl⟩, trivial⟩ ⟨⟨rfl, rfl⟩, ⟨rfl, rfl⟩, ⟨rfl, rfl⟩, ⟨rfl, rfl⟩, ⟨rfl, rfl⟩, ⟨rfl, rfl⟩, ⟨rfl, rfl⟩, trivial⟩ rfl⟩
  · have hi3 : i = out.length := by have := dge h; rw [List.length_map] at this; omega
    subst hi3
    rw [List.drop_length] at hch
    have hfc : f = cntOf q := hch
    subst hfc
    have hqc := req_cnt hq2
    have hWe : wordsAt q (cntOf q) = q.Words := by
      obtain ⟨_, _, hi⟩ := req_is hq2
      unfold wordsAt
      split
      · rw [if_neg (by omega)]
      · refine List.take_of_length_le ?_
        unfold cntOf
        cases hi <;> rename_i hk hN hW hB hX <;> first | (rw [hW]; simp; done) | (rw [if_neg (by omega), if_neg (by omega)]; omega) | (exfalso; omega)
    have hBe : bitsAt q (cntOf q) = q.Bits := by
      obtain ⟨_, _, hi⟩ := req_is hq2
      refine List.take_of_length_le ?_
      unfold cntOf
      cases hi <;> rename_i hk hN hW hB hX <;> first | (rw [hB]; simp; done) | (rw [if_neg (by omega), if_neg (by omega)]; omega) | (exfalso; omega)
    have e1 := eqSameI q.Words q.Words
    rw [decide_eq_true rfl] at e1
    have e2 := eqSameO q.Bits q.Bits
    rw [decide_eq_true rfl] at e2
    rw [hWe, hBe]
    conv => whnf
    refine br_i (fun _ => ?_) (fun h => absurd h (by simp))
    conv => whnf
    refine call_i e1 ?_
    conv => whnf
    refine call_i e2 ?_
    conv => whnf
    refine call_i hM ?_
    conv => whnf
    exact leaf_i rfl rfl rfl

end Go.Proofs.Ytdgmaaiijkoedaa
