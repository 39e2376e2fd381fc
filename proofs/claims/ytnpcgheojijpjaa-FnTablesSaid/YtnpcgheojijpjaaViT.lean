/- A table of types, checked. -/
import Derived.Test.YtnpcgheojijpjaaViN
namespace Go.Vi
def lookT : List (Nat × TI) → Nat → Option TI
  | [], _ => none
  | (k, ti) :: l, t => match Nat.beq k t with
    | true => some ti
    | false => lookT l t
def tblB (P : Program) (l : List (Nat × TI)) : Bool := l.all fun x => tiB P x.1 x.2
theorem lookT_mem : ∀ {l : List (Nat × TI)} {t : Nat} {ti : TI}, lookT l t = some ti → (t, ti) ∈ l
  | [], _, _, h => by simp [lookT] at h
  | (k, x) :: l, t, ti, h => by
    unfold lookT at h
    split at h
    · rename_i hb
      cases h
      rw [Nat.eq_of_beq_eq_true hb]
      exact List.mem_cons_self ..
    · exact List.mem_cons_of_mem _ (lookT_mem h)
theorem tgok_of {P : Program} {l : List (Nat × TI)} (h : tblB P l = true) : TGOk P (lookT l) := by
  intro t ti ht
  exact TIOk.of (List.all_eq_true.1 h _ (lookT_mem ht))
/-- No region that draws. -/
def noDraw : Nat → Array Oper → AS → (AS → Prop) → Prop := fun _ _ _ _ => False
theorem noDraw_ok {P : Program} {Γ : TG} {dm : Bool} : DrawOk P Γ dm noDraw := fun _ _ _ _ h => h.elim
end Go.Vi
