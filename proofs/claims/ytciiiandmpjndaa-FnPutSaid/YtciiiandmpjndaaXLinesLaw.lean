/- Lines: what ticks do to a line that is right, told in numbers. -/
import Derived.Test.YtciiiandmpjndaaXLineTick
namespace Go.Proofs.Ytciiiandmpjndaa
open Go Go.Vi
set_option linter.unusedVariables false
set_option linter.unusedSimpArgs false
set_option maxRecDepth 100000
theorem tick_b {n : Int} (h : tickB n = true) : 0 ≤ n ∧ n ≤ 4294967295 := by simpa [tickB, inB] using h
theorem tickOn_b {t n : Int} (h : tickB t = true) (h2 : tickB n = true) : tickOn t n = (t + n) % 4294967296 ∧ tickB (tickOn t n) = true := by
  have e : tickOn t n = (t + n) % 4294967296 := by simp [tickOn, h, h2]
  refine ⟨e, ?_⟩
  rw [e]
  simp [tickB, inB]
  omega
def oneB (b : Bool) : Nat := if b then 1 else 0
/-- How many ticks a line has to go at most. -/
def potN (l : XLine) (now : Int) : Nat :=
  (if l.Busy then (tickGap now l.Due).toNat + l.Left.toNat * l.Wait.toNat else (if l.Queue = [] then 0 else 1)) + l.Queue.length * (l.Wait.toNat * (l.Tries.toNat + 1))
def callsN (l : XLine) : Nat := l.Queue.length + oneB l.Busy
def askN (l : XLine) : Nat := (if l.Busy then l.Left.toNat else 0) + l.Queue.length * (l.Tries.toNat + 1)
structure Fine (l : XLine) (now : Int) : Prop where
  ok : lineOk l = true
  tick : tickB now = true
  gap : l.Busy = true → 1 ≤ tickGap now l.Due ∧ tickGap now l.Due ≤ l.Wait
theorem ok_parts {l : XLine} (h : lineOk l = true) : (1 ≤ l.Wait ∧ l.Wait ≤ 100) ∧ (0 ≤ l.Tries ∧ l.Tries ≤ 5) ∧ l.Queue.length ≤ 40 ∧ (0 ≤ l.Next ∧ l.Next ≤ 65535) ∧ (∀ c ∈ l.Queue, specCall c = true) ∧
    (l.Busy = true → specCall l.Call = true ∧ (0 ≤ l.Number ∧ l.Number ≤ 65535) ∧ tickB l.Due = true ∧ 0 ≤ l.Left ∧ l.Left ≤ l.Tries) ∧ (l.Busy = false → l.Call = XCall.zero ∧ l.Number = 0 ∧ l.Due = 0 ∧ l.Left = 0) := by
  unfold lineOk at h
  simp only [Bool.and_eq_true] at h
  obtain ⟨⟨⟨⟨⟨h1, h2⟩, h3⟩, h4⟩, h5⟩, h6⟩ := h
  refine ⟨by simpa [inB] using h1, by simpa [inB] using h2, by simp at h3; omega, by simpa [inB] using h4, by simpa using h5, fun hb => ?_, fun hb => ?_⟩
  · rw [hb, if_pos rfl] at h6
    simp only [Bool.and_eq_true] at h6
    obtain ⟨⟨⟨a, b⟩, c⟩, d⟩ := h6
    exact ⟨a, by simpa [inB] using b, c, by simpa [inB] using d⟩
  · rw [hb, if_neg (by decide)] at h6
    simp only [Bool.and_eq_true] at h6
    obtain ⟨⟨⟨a, b⟩, c⟩, d⟩ := h6
    exact ⟨by simpa [noCall] using a, by simpa using b, by simpa using c, by simpa using d⟩
theorem ok_mk {l : XLine} (h1 : 1 ≤ l.Wait ∧ l.Wait ≤ 100) (h2 : 0 ≤ l.Tries ∧ l.Tries ≤ 5) (h3 : l.Queue.length ≤ 40) (h4 : 0 ≤ l.Next ∧ l.Next ≤ 65535) (h5 : ∀ c ∈ l.Queue, specCall c = true)
    (h6 : (l.Busy = true ∧ specCall l.Call = true ∧ (0 ≤ l.Number ∧ l.Number ≤ 65535) ∧ tickB l.Due = true ∧ 0 ≤ l.Left ∧ l.Left ≤ l.Tries) ∨ (l.Busy = false ∧ l.Call = XCall.zero ∧ l.Number = 0 ∧ l.Due = 0 ∧ l.Left = 0)) : lineOk l = true := by
  unfold lineOk
  have e1 : inB l.Wait 1 100 = true := by simpa [inB] using h1
  have e2 : inB l.Tries 0 5 = true := by simpa [inB] using h2
  have e3 : decide ((l.Queue.length : Int) ≤ 40) = true := by simp; omega
  have e4 : inB l.Next 0 65535 = true := by simpa [inB] using h4
  have e5 : l.Queue.all specCall = true := by simpa using h5
  rw [e1, e2, e3, e4, e5]
  rcases h6 with ⟨hb, a, b, c, d⟩ | ⟨hb, a, b, c, d⟩
  · rw [hb, if_pos rfl, a, show inB l.Number 0 65535 = true by simpa [inB] using b, show inB l.Due 0 4294967295 = true from c, show inB l.Left 0 l.Tries = true by simpa [inB] using d]
    rfl
  · rw [hb, if_neg (by decide), show noCall l.Call = true by simp [noCall, a], b, c, d]
    rfl
theorem free_ok {l : XLine} (h : lineOk l = true) : lineOk (freeL l) = true := by
  obtain ⟨h1, h2, h3, h4, h5, _⟩ := ok_parts h
  exact ok_mk h1 h2 h3 h4 h5 (.inr ⟨rfl, rfl, rfl, rfl, rfl⟩)
theorem next_b {n : Int} (h : 0 ≤ n ∧ n ≤ 65535) : (wrap64 (n + 1)).tmod 65536 = (n + 1) % 65536 := by
  rw [show wrap64 (n + 1) = n + 1 from wrap_ok (by omega) (by omega), Int.tmod_eq_emod_of_nonneg (by omega)]
theorem fault_is {c : XCall} (h : specCall c = true) (f : Int) (hf : 1 ≤ f ∧ f ≤ 255) : faultOf c.Req f = { XResp.zero with Kind := c.Req.Kind, Fault := f } := by
  have h1 : specReq c.Req = true := by simp [specCall] at h; exact h.2
  have h2 : inB f 1 255 = true := by simp [inB]; omega
  simp [faultOf, h1, h2]
structure Told (l : XLine) (now : Int) (r : XLine × List XOrder × List XDone) : Prop where
  fine : Fine r.1 now
  sent : r.2.1.length ≤ 1
  told : r.2.2.length ≤ 1
  fault : ∀ d ∈ r.2.2, d.Resp.Fault = 11
  calls : callsN r.1 + r.2.2.length = callsN l
  ask : askN r.1 + r.2.1.length = askN l
  wait : r.1.Wait = l.Wait
  tries : r.1.Tries = l.Tries
  tot : r.1.tot ≤ l.tot
/-- A line that is free asks what waits first. -/
theorem free_step {l : XLine} {now : Int} (hok : lineOk l = true) (ht : tickB now = true) (hb : l.Busy = false) (ds : List XDone) : (tick2 l now [] ds).2.2 = ds ∧ (tick2 l now [] ds).2.1.length ≤ 1 ∧ Fine (tick2 l now [] ds).1 now ∧
    potN (tick2 l now [] ds).1 now = l.Queue.length * (l.Wait.toNat * (l.Tries.toNat + 1)) ∧ callsN (tick2 l now [] ds).1 = l.Queue.length ∧ askN (tick2 l now [] ds).1 + (tick2 l now [] ds).2.1.length = l.Queue.length * (l.Tries.toNat + 1) ∧
    (tick2 l now [] ds).1.Wait = l.Wait ∧ (tick2 l now [] ds).1.Tries = l.Tries ∧ (tick2 l now [] ds).1.tot ≤ l.tot := by
  obtain ⟨h1, h2, h3, h4, h5, _, h7⟩ := ok_parts hok
  obtain ⟨c1, c2, c3, c4⟩ := h7 hb
  unfold tick2
  cases hq : l.Queue with
  | nil =>
    dsimp only
    exact ⟨rfl, by simp, ⟨hok, ht, fun h => absurd h (by simp [hb])⟩, by simp [potN, hb, hq], by simp [callsN, hb, hq, oneB], by simp [askN, hb, hq], rfl, rfl, Nat.le_refl _⟩
  | cons c q =>
    dsimp only
    rw [hb, if_neg (by decide)]
    have hw : tickB l.Wait = true := by simp [tickB, inB]; omega
    obtain ⟨e1, e2⟩ := tickOn_b ht hw
    have hn := tick_b ht
    have hg : tickGap now (tickOn now l.Wait) = l.Wait := by
      have : tickGap now (tickOn now l.Wait) = (tickOn now l.Wait - now) % 4294967296 := by simp [tickGap, ht, e2]
      rw [this, e1]
      omega
    have hc : specCall c = true := h5 c (by rw [hq]; exact List.mem_cons_self ..)
    have hqs : ∀ x ∈ q, specCall x = true := fun x hx => h5 x (by rw [hq]; exact List.mem_cons_of_mem _ hx)
    have hl : q.length + 1 ≤ 40 := by rw [hq] at h3; simpa using h3
    have hN := next_b h4
    have hW : ((l.Wait.toNat : Nat) : Int) = l.Wait := by omega
    refine ⟨rfl, by simp, ⟨ok_mk h1 h2 (by show q.length ≤ 40; omega) (by show 0 ≤ (wrap64 (l.Next + 1)).tmod 65536 ∧ (wrap64 (l.Next + 1)).tmod 65536 ≤ 65535; rw [hN]; omega) hqs (.inl ⟨rfl, hc, h4, e2, h2.1, Int.le_refl _⟩), ht, fun _ => ?_⟩, ?_, ?_, ?_, rfl, rfl, ?_⟩
    · show 1 ≤ tickGap now (tickOn now l.Wait) ∧ tickGap now (tickOn now l.Wait) ≤ l.Wait
      omega
    · show (if true = true then (tickGap now (tickOn now l.Wait)).toNat + l.Tries.toNat * l.Wait.toNat else _) + q.length * (l.Wait.toNat * (l.Tries.toNat + 1)) = (q.length + 1) * (l.Wait.toNat * (l.Tries.toNat + 1))
      rw [if_pos rfl, hg, Nat.succ_mul, Nat.mul_succ, Nat.mul_comm l.Wait.toNat l.Tries.toNat]
      omega
    · show q.length + oneB true = q.length + 1
      rfl
    · show (if true = true then l.Tries.toNat else 0) + q.length * (l.Tries.toNat + 1) + ([] ++ [orderOf _]).length = (q.length + 1) * (l.Tries.toNat + 1)
      rw [if_pos rfl, Nat.succ_mul]
      simp
      omega
    · have t1 := line_tot l
      have t2 := line_tot (askL l c q now)
      have t3 : sumF XCall.tot (askL l c q now).Queue = sumF XCall.tot q := rfl
      have t4 : sumF XCall.tot l.Queue = c.tot + sumF XCall.tot q := by rw [hq]; rfl
      have t5 : (askL l c q now).Call.tot = c.tot := rfl
      have t6 : (askL l c q now).Queue.length = q.length := rfl
      have t7 : l.Queue.length = q.length + 1 := by rw [hq]; rfl
      show (askL l c q now).tot ≤ l.tot
      omega
theorem tick_told {l : XLine} {now : Int} (h : Fine l now) : Told l (tickOn now 1) (lineTickF l (tickOn now 1)) ∧ potN (lineTickF l (tickOn now 1)).1 (tickOn now 1) = potN l now - (if l.Busy = true ∨ l.Queue ≠ [] then 1 else 0) := by
  obtain ⟨hok, ht, hgap⟩ := h
  obtain ⟨h1, h2, h3, h4, h5, h6, h7⟩ := ok_parts hok
  have hn := tick_b ht
  obtain ⟨e1, e2⟩ := tickOn_b ht (show tickB 1 = true by decide)
  generalize hm : tickOn now 1 = m at *
  have hmb := tick_b e2
  cases hb : l.Busy with
  | false =>
    have e : lineTickF l m = tick2 l m [] [] := by simp [lineTickF, tick1, hb]
    rw [e]
    obtain ⟨s1, s2, s3, s4, s5, s6, s7, s8, s9⟩ := free_step hok e2 hb []
    refine ⟨⟨s3, s2, by rw [s1]; simp, by rw [s1]; simp, by rw [s1, s5]; simp [callsN, hb, oneB], by rw [s6]; simp [askN, hb], s7, s8, s9⟩, ?_⟩
    rw [s4]
    by_cases hq : l.Queue = []
    · simp [potN, hb, hq]
    · simp [potN, hb, hq]
  | true =>
    obtain ⟨g1, g2⟩ := hgap hb
    obtain ⟨c1, c2, c3, c4, c5⟩ := h6 hb
    have hdb := tick_b c3
    have hg : tickGap now l.Due = (l.Due - now) % 4294967296 := by simp [tickGap, ht, c3]
    rw [hg] at g1 g2
    have hg2 : tickGap l.Due m = (m - l.Due) % 4294967296 := by simp [tickGap, e2, c3]
    have hg3 : tickGap m l.Due = (l.Due - m) % 4294967296 := by simp [tickGap, e2, c3]
    have hT : tickB l.Wait = true := by simp [tickB, inB]; omega
    by_cases hd : (l.Due - now) % 4294967296 = 1
    · have hdue : tickDue m l.Due = true := by simp [tickDue, e2, c3, hg2]; omega
      by_cases hL : l.Left > 0
      · obtain ⟨f1, f2⟩ := tickOn_b e2 hT
        have hfb := tick_b f2
        have hgw : tickGap m (tickOn m l.Wait) = l.Wait := by
          have : tickGap m (tickOn m l.Wait) = (tickOn m l.Wait - m) % 4294967296 := by simp [tickGap, e2, f2]
          rw [this, f1]
          omega
        have hw : wrap64 (l.Left - 1) = l.Left - 1 := wrap_ok (by omega) (by omega)
        have e : lineTickF l m = ({ l with Left := l.Left - 1, Due := tickOn m l.Wait }, [⟨l.Number, l.Call.Unit, l.Call.Req⟩], []) := by
          have : tick1 l m = ({ l with Left := l.Left - 1, Due := tickOn m l.Wait }, [⟨l.Number, l.Call.Unit, l.Call.Req⟩], []) := by simp [tick1, hb, hdue, hL, hw]
          simp only [lineTickF, this]
          unfold tick2
          cases hq : l.Queue with
          | nil => simp [hq]
          | cons c q => simp [hq, hb]
        rw [e]
        obtain ⟨k, hk⟩ : ∃ k : Nat, l.Left = k + 1 := ⟨(l.Left - 1).toNat, by omega⟩
        refine ⟨⟨⟨ok_mk h1 h2 h3 h4 h5 (.inl ⟨hb, c1, c2, f2, by show 0 ≤ l.Left - 1; omega, by show l.Left - 1 ≤ l.Tries; omega⟩), e2, fun _ => ?_⟩, by simp, by simp, by simp, by simp [callsN], ?_, rfl, rfl, Nat.le_refl _⟩, ?_⟩
        · show 1 ≤ tickGap m (tickOn m l.Wait) ∧ tickGap m (tickOn m l.Wait) ≤ l.Wait
          omega
        · show (if l.Busy = true then (l.Left - 1).toNat else 0) + l.Queue.length * (l.Tries.toNat + 1) + 1 = (if l.Busy = true then l.Left.toNat else 0) + l.Queue.length * (l.Tries.toNat + 1)
          rw [hb, if_pos rfl, if_pos rfl]
          omega
        · show (if l.Busy = true then (tickGap m (tickOn m l.Wait)).toNat + (l.Left - 1).toNat * l.Wait.toNat else (if l.Queue = [] then 0 else 1)) + l.Queue.length * (l.Wait.toNat * (l.Tries.toNat + 1)) = potN l now - _
          unfold potN
          rw [hb, if_pos rfl, if_pos rfl, if_pos (by simp), hgw, hg, hd, hk, show ((k : Int) + 1 - 1).toNat = k by omega, show ((k : Int) + 1).toNat = k + 1 by omega, Nat.succ_mul]
          simp only [show (1 : Int).toNat = 1 from rfl]
          omega
      · have e : lineTickF l m = tick2 (freeL l) m [] [⟨l.Call.Id, l.Call.Part, faultOf l.Call.Req 11⟩] := by simp [lineTickF, tick1, hb, hdue, hL]
        rw [e]
        obtain ⟨s1, s2, s3, s4, s5, s6, s7, s8, s9⟩ := free_step (free_ok hok) e2 (show (freeL l).Busy = false from rfl) [⟨l.Call.Id, l.Call.Part, faultOf l.Call.Req 11⟩]
        have q1 : (freeL l).Queue = l.Queue := rfl
        have q2 : (freeL l).Wait = l.Wait := rfl
        have q3 : (freeL l).Tries = l.Tries := rfl
        rw [q1] at s4 s5 s6
        rw [q2] at s4 s7
        rw [q3] at s4 s6 s8
        have hL0 : l.Left = 0 := by omega
        refine ⟨⟨s3, s2, by rw [s1]; simp, ?_, by rw [s1, s5]; simp [callsN, hb, oneB], by rw [s6]; simp [askN, hb, hL0], s7, s8, Nat.le_trans s9 ?_⟩, ?_⟩
        · rw [s1, fault_is c1 11 (by decide)]
          intro d hd2
          simp at hd2
          rw [hd2]
        · have t1 := line_tot l
          have t2 := line_tot (freeL l)
          have t3 : (freeL l).Call.tot = 0 := rfl
          rw [q1] at t2
          omega
        · rw [s4]
          unfold potN
          rw [hb, if_pos rfl, if_pos (by simp), hg, hd, hL0]
          simp only [show (1 : Int).toNat = 1 from rfl, show (0 : Int).toNat = 0 from rfl, Nat.zero_mul]
          omega
    · have hdue : tickDue m l.Due = false := by simp [tickDue, e2, c3, hg2]; omega
      have e : lineTickF l m = (l, [], []) := by
        have : tick1 l m = (l, [], []) := by simp [tick1, hb, hdue]
        simp only [lineTickF, this]
        unfold tick2
        cases hq : l.Queue with
        | nil => rfl
        | cons c q => simp [hb]
      rw [e]
      refine ⟨⟨⟨hok, e2, fun _ => ?_⟩, by simp, by simp, by simp, by simp, by simp, rfl, rfl, Nat.le_refl _⟩, ?_⟩
      · show 1 ≤ tickGap m l.Due ∧ tickGap m l.Due ≤ l.Wait
        rw [hg3]
        omega
      · show potN l m = _
        unfold potN
        rw [hb, if_pos rfl, if_pos rfl, if_pos (by simp), hg3, hg]
        omega
/-- The pure tick is what the functions compute, of a line that is right. -/
theorem tick_is {l : XLine} {now : Int} (h : lineOk l = true) (h2 : tickB now = true) : lineTick l now = lineTickF l now := by simp [lineTick, h, h2]
theorem pot_zero {l : XLine} {now : Int} (h : Fine l now) (hp : potN l now = 0) : l.Busy = false ∧ l.Queue = [] := by
  unfold potN at hp
  cases hb : l.Busy with
  | true =>
    have := h.gap hb
    rw [hb, if_pos rfl] at hp
    omega
  | false =>
    rw [hb, if_neg (by decide)] at hp
    refine ⟨rfl, ?_⟩
    by_cases hq : l.Queue = []
    · exact hq
    · rw [if_neg hq] at hp; omega
theorem pot_le {l : XLine} {now : Int} (h : Fine l now) (hW : l.Wait ≤ 4) (hT : l.Tries ≤ 2) (hq : l.Queue.length ≤ 30) : potN l now ≤ 400 := by
  obtain ⟨h1, h2, h3, h4, h5, h6, h7⟩ := ok_parts h.ok
  have hw : l.Wait.toNat ≤ 4 := by omega
  have ht : l.Tries.toNat ≤ 2 := by omega
  have m1 : l.Wait.toNat * (l.Tries.toNat + 1) ≤ 4 * 3 := Nat.mul_le_mul hw (by omega)
  have m2 : l.Queue.length * (l.Wait.toNat * (l.Tries.toNat + 1)) ≤ 30 * 12 := Nat.mul_le_mul hq m1
  unfold potN
  cases hb : l.Busy with
  | true =>
    have hg := h.gap hb
    have h8 := h6 hb
    have m3 : l.Left.toNat * l.Wait.toNat ≤ 2 * 4 := Nat.mul_le_mul (by omega) hw
    rw [if_pos rfl]
    omega
  | false =>
    rw [if_neg (by decide)]
    split <;> omega
/-- What a line is asked in the end. -/
theorem ask_le {l : XLine} (h : lineOk l = true) : askN l ≤ callsN l * (l.Tries.toNat + 1) := by
  obtain ⟨h1, h2, h3, h4, h5, h6, h7⟩ := ok_parts h
  unfold askN callsN oneB
  cases hb : l.Busy with
  | true =>
    have h8 := h6 hb
    rw [if_pos rfl, if_pos rfl, Nat.succ_mul]
    omega
  | false => simp
theorem suits_fault {q : XReq} (h : specReq q = true) (f : Int) (hf : 1 ≤ f ∧ f ≤ 255) : suits q (faultOf q f) = true := by
  have h2 : inB f 1 255 = true := by simp [inB]; omega
  have hk := req_kind q h
  have h3 : faultOf q f = { XResp.zero with Kind := q.Kind, Fault := f } := by simp [faultOf, h, h2]
  have h4 : specResp { XResp.zero with Kind := q.Kind, Fault := f } = true := by
    have k1 : isKind q.Kind = true := by rcases hk with h | h | h | h | h | h | h | h | h | h <;> rw [h] <;> decide
    unfold specResp
    rw [if_neg (by simp [k1, XResp.zero, inB]; omega), if_pos (show f > 0 by omega)]
    rfl
  rw [h3]
  unfold suits
  rw [h, h4, if_neg (by simp), if_pos (by show f > 0; omega)]

end Go.Proofs.Ytciiiandmpjndaa
