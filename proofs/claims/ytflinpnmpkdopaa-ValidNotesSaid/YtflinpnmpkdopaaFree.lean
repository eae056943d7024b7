/- A region whose order is open, walked in the order of its text: where operations that the edges leave unordered commute (one of the two only computes, or both only read), every order comes to the same. No program in sight. -/
import Derived.Tactics
import Derived.WalkKit
namespace Go.Proofs.Ytflinpnmpkdopaa
set_option linter.unusedVariables false
set_option linter.unusedSimpArgs false
open Go.RowKit

/-! ### What does not look at the world -/
/-- Where it succeeds, the world is as it was, and it succeeds alike in every world. -/
def WF {α : Type} (P : Program) (s : Sem α) : Prop := ∀ w r w1, s.run P w = .ok r w1 → w1 = w ∧ ∀ w', s.run P w' = .ok r w'

section
variable {α β : Type} {P : Program}
theorem WF.pure (a : α) : WF P (Sem.pure a) := fun w r w1 h => by cases h; exact ⟨rfl, fun _ => rfl⟩
theorem WF.pure' (a : α) : WF P (Pure.pure a : Sem α) := WF.pure a
theorem WF.halt (h : Halt) : WF P (Sem.halt h : Sem α) := fun w r w1 e => by cases e
theorem WF.never {s : Sem α} (h : ∀ w r w1, s.run P w ≠ .ok r w1) : WF P s := fun w r w1 e => absurd e (h w r w1)
theorem WF.program {k : Program → Sem α} (h : WF P (k P)) : WF P (Sem.program k) := fun w r w1 e => h w r w1 e
theorem WF.bind {s : Sem α} {f : α → Sem β} (h : WF P s) (hf : ∀ a, WF P (f a)) : WF P (s >>= f) := by
  intro w r w1 e
  rw [Sem.run_bind] at e
  cases hs : s.run P w with
  | halt x w2 => rw [hs] at e; cases e
  | ok a w2 =>
    rw [hs] at e
    obtain ⟨rfl, h2⟩ := h w a w2 hs
    obtain ⟨rfl, h3⟩ := hf a w2 r w1 e
    exact ⟨rfl, fun w' => by rw [Sem.run_bind, h2 w']; exact h3 w'⟩
theorem WF.bind_of {s : Sem α} {f : α → Sem β} (h : WF P s) (hf : ∀ a w, s.run P w = .ok a w → WF P (f a)) : WF P (s >>= f) := by
  intro w r w1 e
  rw [Sem.run_bind] at e
  cases hs : s.run P w with
  | halt x w2 => rw [hs] at e; cases e
  | ok a w2 =>
    rw [hs] at e
    obtain ⟨rfl, h2⟩ := h w a w2 hs
    obtain ⟨rfl, h3⟩ := hf a w2 hs w2 r w1 e
    exact ⟨rfl, fun w' => by rw [Sem.run_bind, h2 w']; exact h3 w'⟩
theorem WF.ite {c : Prop} [Decidable c] {s t : Sem α} (hs : WF P s) (ht : WF P t) : WF P (if c then s else t) := by split <;> assumption
theorem WF.stuck (why : String) : WF P (Go.stuck why : Sem α) := WF.halt _
theorem WF.unsupported (u : Unsupported) : WF P (Go.unsupported u : Sem α) := WF.halt _
theorem WF.prog : WF P Go.program := WF.program (WF.pure _)
theorem WF.typeInfo (t : TypeId) : WF P (Go.typeInfo t) := WF.bind WF.prog fun p => by split <;> first | exact WF.pure' _ | exact WF.stuck _
theorem WF.underlying (t : TypeId) : WF P (Go.underlying t) := WF.bind WF.prog fun p => by split <;> first | exact WF.pure' _ | exact WF.stuck _
theorem WF.sizeOf (t : TypeId) : WF P (Go.sizeOf t) := WF.bind (WF.typeInfo t) fun _ => WF.pure' _
theorem WF.isAgg (t : TypeId) : WF P (Go.isAgg t) := WF.bind (WF.underlying t) fun _ => by split <;> exact WF.pure' _
theorem WF.part (t : TypeId) (cs : Array Value) (off : Nat) : WF P (Go.part t cs off) :=
  WF.bind (WF.isAgg t) fun b => by
    split
    · exact WF.bind (WF.sizeOf t) fun _ => WF.pure' _
    · split <;> first | exact WF.pure' _ | exact WF.stuck _
theorem WF.asAgg (v : Value) : WF P (Go.asAgg v) := by unfold Go.asAgg; split <;> first | exact WF.pure' _ | exact WF.stuck _
theorem WF.asBool (v : Value) : WF P (Go.asBool v) := by unfold Go.asBool; split <;> first | exact WF.pure' _ | exact WF.stuck _
theorem WF.asIntOf (v : Value) : WF P (Go.asIntOf v) := by unfold Go.asIntOf; split <;> first | exact WF.pure' _ | exact WF.stuck _ | exact WF.unsupported _
theorem WF.sureAddr (v : Value) : WF P (Instr.sureAddr v) := by unfold Instr.sureAddr; split <;> first | exact WF.pure' _ | exact WF.stuck _
theorem never_bind {s : Sem α} {f : α → Sem β} (hf : ∀ a w r w1, (f a).run P w ≠ .ok r w1) : ∀ w r w1, (s >>= f).run P w ≠ .ok r w1 := by
  intro w r w1 e
  rw [Sem.run_bind] at e
  cases hs : s.run P w with
  | halt x w2 => rw [hs] at e; cases e
  | ok a w2 => rw [hs] at e; exact hf a _ _ _ e
theorem never_panic (v : Value) : ∀ w r w1, (goPanic v : Sem α).run P w ≠ .ok r w1 := fun w r w1 e => by cases e
theorem never_runtime (x : RuntimeError) : ∀ w r w1, (runtimePanic x : Sem α).run P w ≠ .ok r w1 := by
  unfold runtimePanic
  refine never_bind fun p => ?_
  split
  all_goals first | exact never_panic _ | (refine never_bind fun _ => ?_; first | exact never_panic _ | (refine never_bind fun _ => ?_; first | exact never_panic _ | (refine never_bind fun _ => ?_; exact never_panic _)))
theorem never_bounds (k : IntKind) (x y : Int) (c : BoundsCode) : ∀ w r w1, (boundsPanic k x y c : Sem α).run P w ≠ .ok r w1 := by
  unfold boundsPanic
  dsimp only
  split
  · exact never_bind fun _ => never_runtime _
  · exact never_bind fun _ => never_runtime _
theorem WF.followBlind : ∀ (l : List FieldStep) (t : TypeId) (x : Option Value), WF P (Go.followBlind l t x)
  | [], _, _ => WF.pure' _
  | s :: rest, _, x => by
    unfold Go.followBlind
    refine WF.bind (WF.underlying _) fun d => ?_
    split
    · split
      · split
        all_goals first | exact WF.pure' _ | exact WF.stuck _ | exact WF.followBlind rest _ _ | exact WF.bind (WF.part _ _ _) fun _ => WF.followBlind rest _ _
      · exact WF.stuck _
    · exact WF.stuck _
theorem WF.nilAhead : ∀ (n : Nat) (t : TypeId) (v : Value) (m : String), WF P (Go.nilAhead n t v m)
  | 0, _, _, _ => WF.pure' _
  | n + 1, t, v, m => by
    unfold Go.nilAhead
    refine WF.bind (WF.typeInfo _) fun i => ?_
    split
    · refine WF.bind (WF.followBlind _ _ _) fun x => ?_
      split
      · exact WF.pure' _
      · split
        all_goals first | exact WF.pure' _ | exact WF.stuck _ | exact WF.nilAhead n _ _ _ | (refine WF.bind (WF.underlying _) fun _ => ?_; split <;> first | exact WF.pure' _ | exact WF.stuck _ | (split <;> first | exact WF.pure' _ | exact WF.stuck _))
    · exact WF.stuck _
end
end Go.Proofs.Ytflinpnmpkdopaa
