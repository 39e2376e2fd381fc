/- A nested slice, read out of a row and marked at once: three operations in one. -/
import Derived.Test.YtnpcgheojijpjaaViW
set_option linter.unusedVariables false
set_option linter.unusedSimpArgs false
namespace Go.Vi
open Go.RowKit
def triB (dm : Bool) (env : Nat → AV) (o : Oper) : Option (Nat × Nat × Nat × Nat) :=
  match dm with
  | false => none
  | true => match o.op with
    | .load _ x => match opv env x with
      | .c (.rel tk sz i j) => some (tk, sz, i, j)
      | _ => none
    | _ => none
def notTmp (y : Operand) (d : Nat) : Bool :=
  match y with
  | .tmp t => !Nat.beq t d
  | _ => true
def triA (P : Program) (Γ : TG) (env : Nat → AV) (res : Res) (n tk sz i j : Nat) (o o2 o3 : Oper) (K : (Nat → AV) → Res → Prop) : Prop :=
  match o.op, o.dst, o.guard with
  | .load t _, some d1, none => (match o2.op, o2.dst, o2.guard with
    | .move y, some d2, none => (match o3.op, o3.dst, o3.guard with
      | .call c, some d3, none => (match Γ t, res tk, opv env y with
        | some ti, some (.row true sz' xs), .c (.pv (.int .i64 m)) => (match c.callee, c.args.toList with
          | .value (.func f), [.tmp e1, .tmp e2] => (match !ti.agg && Nat.beq e1 d1 && Nat.beq e2 d2 && !Nat.beq d1 d2 && Nat.blt d1 n && Nat.blt d2 n && Nat.blt d3 n && notTmp y d1 with
            | true => ∃ (s : Nat) (ys ys' : List (List PV)) (m' : Int) (zs : List (List PV)), (((sz = sz' ∧ at2 xs i j = some (.sl s ys)) ∧ MarkC P f (.one (.sl s ys)) m (.one (.sl s ys')) m') ∧ zs = setAt xs i j (.sl s ys')) ∧ K (upd (upd (upd env d1 (.c .undef)) d2 (.c (.pv (.int .i64 m)))) d3 (.c (.pv (.int .i64 m')))) (upd res tk (some (.row true sz' zs)))
            | false => False)
          | _, _ => False)
        | _, _, _ => False)
      | _, _, _ => False)
    | _, _, _ => False)
  | _, _, _ => False
theorem tmps_put {a : Act} {d t : Nat} {v : Value} (h : t ≠ d) : (a.put (some d) v).tmps.getD t undef = a.tmps.getD t undef := by
  simp only [Act.put, Array.getD_eq_getD_getElem?]
  rw [Array.getElem?_setIfInBounds_ne (Ne.symm h)]
theorem tmps_put_same {a : Act} {d : Nat} {v : Value} (h : d < a.tmps.size) : (a.put (some d) v).tmps.getD d undef = v := by simp [Act.put, Array.getD, h]
theorem put_size {a : Act} {d : Option Nat} {v : Value} : (a.put d v).tmps.size = a.tmps.size := by cases d <;> simp [Act.put]
theorem eval_tmp (a : Act) (t : Nat) : a.eval (.tmp t) = a.tmps.getD t undef := rfl
theorem nbeq {a b : Nat} (h : Nat.beq a b = true) : a = b := Nat.eq_of_beq_eq_true h
theorem wanted_none {o : Oper} (h : o.guard = none) (y : Nat → Option Bool) : Region.wanted o y = true := by simp [Region.wanted, h]
theorem tri_sound {P : Program} {Γ : TG} (hΓ : TGOk P Γ) {ops : Array Oper} {w0 : Base} {Q : Exit → Act → World → Prop} {rest : List Oper} {env : Nat → AV} {res : Res} {n tk sz i j : Nat} {o o2 o3 : Oper} {K : (Nat → AV) → Res → Prop} {g : G} {w : World} {a : Act}
    (ht : triB true env o = some (tk, sz, i, j)) (h : triA P Γ env res n tk sz i j o o2 o3 K) (hM : Models true w0 g res w) (henv : ∀ t, RepAV g w (env t) (a.tmps.getD t undef)) (hsize : a.tmps.size = n) (hdef : a.defers = [])
    (hQ : ∀ (env' : Nat → AV) (res' : Res) (g' : G) (w' : World) (a' : Act), K env' res' → Models true w0 g' res' w' → (∀ t, RepAV g' w' (env' t) (a'.tmps.getD t undef)) → a'.tmps.size = n → a'.defers = [] → Evo g g' w w' → (∀ x, g'.U x ↔ g.U x) → wpList P ops Q rest a' w') :
    wpList P ops Q (o :: o2 :: o3 :: rest) a w := by
  unfold triA at h
  split at h
  · rename_i t x d1 ho hd1 hg1
    split at h
    · rename_i y d2 ho2 hd2 hg2
      split at h
      · rename_i c d3 ho3 hd3 hg3
        split at h
        · rename_i ti sz' xs m hti hres hy
          split at h
          · rename_i f e1 e2 hcal hargs
            split at h
            · rename_i hb
              simp only [Bool.and_eq_true, Bool.not_eq_true'] at hb
              obtain ⟨⟨⟨⟨⟨⟨⟨hag, he1⟩, he2⟩, hne⟩, hl1⟩, hl2⟩, hl3⟩, hny⟩ := hb
              have he1 := nbeq he1
              have he2 := nbeq he2
              subst he1 he2
              have hne : e1 ≠ e2 := fun e => by subst e; simp at hne
              have hl1 : e1 < n := Nat.le_of_ble_eq_true hl1
              have hl2 : e2 < n := Nat.le_of_ble_eq_true hl2
              have hl3 : d3 < n := Nat.le_of_ble_eq_true hl3
              obtain ⟨s, ys, ys', m', _, ⟨⟨⟨rfl, hat⟩, hC⟩, rfl⟩, hK⟩ := h
              have hx : opv env x = .c (.rel tk sz i j) := by
                unfold triB at ht
                rw [ho] at ht
                dsimp only at ht
                split at ht
                · rename_i h1; simp at ht; obtain ⟨rfl, rfl, rfl, rfl⟩ := ht; exact h1
                · cases ht
              have ev0 : ∀ z, RepAV g w (opv env z) (a.eval z) := by
                intro z
                cases z with
                | tmp t => exact henv t
                | const v => exact constC_rep g w v
                | func f => exact .fn f
                | global n => trivial
              have h1 := ev0 x
              rw [hx] at h1
              obtain ⟨hU, b, q, nn, cc, hs, hv⟩ := h1
              have hyv : a.eval y = .int .i64 m := rep_int (hy ▸ ev0 y)
              have hrow : RowOk w g.S (g.D tk) true sz xs (g.σ tk) := (hM.tok tk _ hres).2
              have hrow0 := hrow
              rw [hs] at hrow
              rcases hrow with ⟨_, hbad⟩ | ⟨b', q', c', e, cs, us, Ds, hv', hg, hh, hsz, hc, hm, hz, ha, hDs, hdis, hrr⟩
              · cases hbad
              · simp at hv'
                obtain ⟨⟨rfl, rfl⟩, rfl, rfl⟩ := hv'
                have hown : Own w (Ds i j) (.sl s ys) (us i j) := hrr i j _ hat
                have hcell : w.cell? ⟨b, q + i * sz + j, none⟩ = some (us i j) := (CellsAt.cell hh).trans (ha i j _ hat)
                have hrun1 : (execOp a.eval o).run P w = .ok (.value (us i j)) w := by
                  have := run_load_one (w := w) (hΓ t ti hti) hag b (q + i * sz + j) (us i j) hcell
                  simp [execOp, ho, hv, this]
                -- one
                unfold wpList
                rw [if_pos (wanted_none hg1 _)]
                refine .inl ?_
                unfold Oper.wp
                rw [hrun1]
                show wpList P ops Q (o2 :: o3 :: rest) (a.put o.dst (us i j)) w
                rw [hd1]
                -- two
                have hy1 : (a.put (some e1) (us i j)).eval y = .int .i64 m := by
                  rw [← hyv]
                  cases y with
                  | tmp t => exact tmps_put (fun e => by subst e; simp [notTmp] at hny)
                  | const v => rfl
                  | func f => rfl
                  | global n => rfl
                have hrun2 : (execOp (a.put (some e1) (us i j)).eval o2).run P w = .ok (.value (.int .i64 m)) w := by simp [execOp, ho2, hy1]
                unfold wpList
                rw [if_pos (wanted_none hg2 _)]
                refine .inl ?_
                unfold Oper.wp
                rw [hrun2]
                show wpList P ops Q (o3 :: rest) ((a.put (some e1) (us i j)).put o2.dst (.int .i64 m)) w
                rw [hd2]
                -- three
                generalize ha2 : (a.put (some e1) (us i j)).put (some e2) (.int .i64 m) = a2
                have hv1 : a2.eval (.tmp e1) = us i j := by rw [← ha2, eval_tmp, tmps_put hne, tmps_put_same (by rw [hsize]; exact hl1)]
                have hv2 : a2.eval (.tmp e2) = .int .i64 m := by rw [← ha2, eval_tmp, tmps_put_same (by rw [put_size, hsize]; exact hl2)]
                obtain ⟨fn, hf, hname, hbody⟩ := hC.enter.enter
                have hargs0 : c.args = #[.tmp e1, .tmp e2] := arr1' hargs
                have hrun3 : (execOp a2.eval o3).run P w = .ok (.enter f #[us i j, .int .i64 m]) w := by
                  have hn : fn.body.isNone = false := by cases hb : fn.body <;> simp_all
                  have hfv : a2.eval (.func f) = .func (.func f) #[] #[] := rfl
                  simp only [execOp, ho3, resolve, hcal, invoke, hfv, Deferred.ofValue, callFunc, Sem.run_bind, Sem.run_pure, Result.andThen_ok, program, Sem.run, hf, hname, hn, hargs0]
                  simp [hv1, hv2]
                unfold wpList
                rw [if_pos (wanted_none hg3 _)]
                refine .inl ?_
                unfold Oper.wp
                rw [hrun3, Oper.upon_enter]
                have hcall := hC.calls w (us i j) (fun k => if k = 0 then Ds i j else fun _ => False) hM.below.laid (fun k x hx => by
                  split at hx
                  · exact hM.low hres (hDs i j x hx).1
                  · exact hx.elim) (by simpa [OwnVV] using hown) (fun k x hx => by
                  split at hx
                  · exact (hM.dNew tk _ x hres (hDs i j x hx).1).2
                  · exact hx.elim) (fun k l x hx hx' => by
                  split at hx
                  · split at hx'
                    · omega
                    · exact hx'.elim
                  · exact hx.elim)
                refine hcall.mono fun ee w' hpost => ?_
                obtain ⟨rfl, hKp, D', hown', hD', hdis'⟩ := hpost
                have hF : ∀ x, (∃ k : Nat, (if k = 0 then Ds i j else fun _ => False) x) ↔ Ds i j x := fun x => ⟨fun ⟨k, hx⟩ => by split at hx; exact hx; exact hx.elim, fun hx => ⟨0, by simpa using hx⟩⟩
                have hkeep : ∀ x, x < w.heap.size → ¬ Ds i j x → w'.heap[x]? = w.heap[x]? := fun x hx hn => hKp.block x hx (fun hh => hn ((hF x).1 hh))
                have hD0 : ∀ x, D' 0 x → Ds i j x ∨ (w.heap.size ≤ x ∧ x < w'.heap.size) := fun x hx => (hD' 0 x hx).imp (fun h => (hF x).1 h) id
                have hlt : ∀ x, g.D tk x → x < w.heap.size := fun x hx => (hM.dNew tk _ x hres hx).2
                have hown' : Own w' (D' 0) (.sl s ys') (us i j) := hown'
                let g' : G := { g with D := upd g.D tk fun x => g.D tk x ∨ D' 0 x }
                have hgD : g'.D tk = fun x => g.D tk x ∨ D' 0 x := upd_same _ _ _
                have hgo : ∀ t, t ≠ tk → g'.D t = g.D t := fun t h => upd_ne _ _ h
                have hSD : ∀ x, g.S x → ¬ g.D tk x := fun x hx hD => hM.sMut tk _ x hres hD (.inl rfl) hx
                have ev : Evo g g' w w' := ⟨fun _ h => h, fun _ _ => rfl, fun _ h => h, fun x hx => hkeep x (hM.sLt x hx) (fun hh => hSD x hx (hDs i j x hh).1), rfl⟩
                have hnewrow : RowOk w' g.S (fun x => g.D tk x ∨ D' 0 x) true sz (setAt xs i j (.sl s ys')) (g.σ tk) := by
                  have hlen : (setAt xs i j (.sl s ys')).length = xs.length := by simp [setAt]
                  rw [hs]
                  refine .inr ⟨b, q, cc, e, cs, us, fun i' j' => if i' = i ∧ j' = j then D' 0 else Ds i' j', by rw [hlen], .inl hg, hh.keep (hkeep b (hh.lt) (fun hx => (hDs i j b hx).2 rfl)), hsz, by rw [hlen]; exact hc, hm, ?_, ?_, ?_, ?_, ?_⟩
                  · intro el hel
                    unfold setAt at hel
                    obtain ⟨k, hk⟩ := List.getElem?_of_mem hel
                    rw [List.getElem?_modify] at hk
                    cases hx : xs[k]? with
                    | none => simp [hx] at hk
                    | some el0 =>
                      have hl := hz el0 (List.mem_of_getElem? hx)
                      simp only [hx, Option.map_eq_map, Option.map_some, Option.some.injEq] at hk
                      subst hk
                      split <;> simp [hl]
                  · intro i' j' p' h2
                    rcases at2_setAt h2 with ⟨rfl, rfl, rfl⟩ | ⟨hne, h2⟩
                    · exact ha _ _ _ hat
                    · exact ha i' j' p' h2
                  · intro i' j' x hx
                    have hx : (if i' = i ∧ j' = j then D' 0 else Ds i' j') x := hx
                    split at hx
                    · refine ⟨.inr hx, fun he => ?_⟩
                      subst he
                      rcases hD0 x hx with h3 | h3
                      · exact (hDs i j x h3).2 rfl
                      · have := hh.lt; omega
                    · exact ⟨.inl (hDs i' j' x hx).1, (hDs i' j' x hx).2⟩
                  · intro i1 j1 i2 j2 x h1 h2
                    have h1 : (if i1 = i ∧ j1 = j then D' 0 else Ds i1 j1) x := h1
                    have h2 : (if i2 = i ∧ j2 = j then D' 0 else Ds i2 j2) x := h2
                    split at h1 <;> split at h2
                    · omega
                    · rename_i c1 c2
                      rcases hD0 x h1 with h3 | h3
                      · have := hdis _ _ _ _ x h3 h2; omega
                      · have := hlt x (hDs _ _ x h2).1; omega
                    · rename_i c1 c2
                      rcases hD0 x h2 with h3 | h3
                      · have := hdis _ _ _ _ x h1 h3; omega
                      · have := hlt x (hDs _ _ x h1).1; omega
                    · exact hdis _ _ _ _ x h1 h2
                  · intro i' j' p' h2
                    show ElOk _ _ (if i' = i ∧ j' = j then D' 0 else Ds i' j') _ _ _
                    rcases at2_setAt h2 with ⟨rfl, rfl, rfl⟩ | ⟨hne, h2⟩
                    · rw [if_pos ⟨rfl, rfl⟩]
                      exact hown'
                    · rw [if_neg hne]
                      have : Own w (Ds i' j') p' (us i' j') := hrr i' j' p' h2
                      exact this.mono (fun x hx => hkeep x (hlt x (hDs i' j' x hx).1) (fun hh => hne (hdis _ _ _ _ x hx hh))) (fun _ h => h)
                have key : ∀ t r, upd res tk (some (.row true sz (setAt xs i j (.sl s ys')))) t = some r → (t = tk ∧ r = .row true sz (setAt xs i j (.sl s ys'))) ∨ (t ≠ tk ∧ res t = some r) := by
                  intro t r h1
                  rcases upd_cases h1 with ⟨rfl, h12⟩ | ⟨hn, h12⟩
                  · cases h12; exact .inl ⟨rfl, rfl⟩
                  · exact .inr ⟨hn, h12⟩
                have hM' : Models true w0 g' (upd res tk (some (.row true sz (setAt xs i j (.sl s ys'))))) w' := by
                  have hsz2 := hKp.size
                  have hsz3 := hM.below.size
                  refine ⟨hM.below.to hKp.os hKp.tape hKp.output hKp.size (fun k hk hE => hkeep k (by omega) (fun hx => ?_)), hM.sBase, fun x hx => by have := hM.sLt x hx; omega, ?_, ?_, ?_, ?_, fun h => by cases h⟩
                  · rcases (hM.dNew tk _ k hres (hDs i j k hx).1).1 with h1 | h1
                    · exact hE h1
                    · omega
                  · intro t r h1
                    rcases key t r h1 with ⟨rfl, rfl⟩ | ⟨hn, h1⟩
                    · refine ⟨hU, ?_⟩
                      show RowOk w' g.S (g'.D t) true sz _ (g.σ t)
                      rw [hgD]
                      exact hnewrow
                    · exact ⟨(hM.tok t r h1).1, (hM.tok t r h1).2.evo ev (hM.tok t r h1).1 (hgo t hn) fun x hx => hkeep x (hM.dNew t r x h1 hx).2 (fun hh => hn (hM.dApart t tk r _ x h1 hres hx (hDs i j x hh).1))⟩
                  · intro t r x h1 hx
                    rcases key t r h1 with ⟨rfl, rfl⟩ | ⟨hn, h1⟩
                    · rw [hgD] at hx
                      rcases hx with hx | hx
                      · have := hM.dNew t _ x hres hx; exact ⟨this.1, by omega⟩
                      · rcases hD0 x hx with h3 | h3
                        · have := hM.dNew t _ x hres (hDs i j x h3).1; exact ⟨this.1, by omega⟩
                        · exact ⟨.inr (by omega), h3.2⟩
                    · rw [hgo t hn] at hx
                      have := hM.dNew t r x h1 hx; exact ⟨this.1, by omega⟩
                  · have cross : ∀ t r x, t ≠ tk → res t = some r → (g.D tk x ∨ D' 0 x) → g.D t x → False := by
                      intro t r x hn hr hx hx'
                      rcases hx with hx | hx
                      · exact hn (hM.dApart t tk r _ x hr hres hx' hx)
                      · rcases hD0 x hx with h3 | h3
                        · exact hn (hM.dApart t tk r _ x hr hres hx' (hDs i j x h3).1)
                        · have := hM.dNew t r x hr hx'; omega
                    intro t1 t2 r1 r2 x k1 k2 hx1 hx2
                    rcases key t1 r1 k1 with ⟨e1', _⟩ | ⟨hn1, h1⟩ <;> rcases key t2 r2 k2 with ⟨e2', _⟩ | ⟨hn2, h2⟩
                    · rw [e1', e2']
                    · subst e1'
                      rw [hgD] at hx1
                      rw [hgo t2 hn2] at hx2
                      exact (cross t2 r2 x hn2 h2 hx1 hx2).elim
                    · subst e2'
                      rw [hgD] at hx2
                      rw [hgo t1 hn1] at hx1
                      exact (cross t1 r1 x hn1 h1 hx2 hx1).elim
                    · rw [hgo t1 hn1] at hx1
                      rw [hgo t2 hn2] at hx2
                      exact hM.dApart t1 t2 r1 r2 x h1 h2 hx1 hx2
                  · intro t r x h1 hx hmm hS
                    have hS : g.S x := hS
                    rcases key t r h1 with ⟨rfl, rfl⟩ | ⟨hn, h1⟩
                    · rw [hgD] at hx
                      rcases hx with hx | hx
                      · exact hSD x hS hx
                      · rcases hD0 x hx with h3 | h3
                        · exact hSD x hS (hDs i j x h3).1
                        · have := hM.sLt x hS; omega
                    · rw [hgo t hn] at hx
                      exact hM.sMut t r x h1 hx hmm hS
                refine hQ _ _ g' w' (a2.put o3.dst (.int .i64 m')) hK hM' (fun t => ?_) (by rw [put_size, ← ha2, put_size, put_size]; exact hsize) (by rw [← ha2, hd3]; exact hdef) ev (fun x => Iff.rfl)
                rw [hd3]
                have hs2 : a2.tmps.size = n := by rw [← ha2, put_size, put_size]; exact hsize
                by_cases ht3 : t = d3
                · subst ht3
                  rw [upd_same, tmps_put_same (by rw [hs2]; exact hl3)]
                  exact rav (.int _ _)
                · rw [upd_ne _ _ ht3, tmps_put ht3]
                  by_cases ht2 : t = e2
                  · subst ht2
                    rw [upd_same, ← eval_tmp, hv2]
                    exact rav (.int _ _)
                  · rw [upd_ne _ _ ht2]
                    by_cases ht1 : t = e1
                    · subst ht1
                      rw [upd_same]
                      trivial
                    · rw [upd_ne _ _ ht1, ← ha2, tmps_put ht2, tmps_put ht1]
                      exact (henv t).evo ev
            · exact h.elim
          · exact h.elim
        · exact h.elim
      · exact h.elim
    · exact h.elim
  · exact h.elim
end Go.Vi
