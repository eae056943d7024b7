/- A region whose order is open is walked in the order of its text. No program in sight. -/
import Derived.Test.YtflinpnmpkdopaaFree7
namespace Go.Proofs.Ytflinpnmpkdopaa
set_option linter.unusedVariables false
set_option linter.unusedSimpArgs false
open Go.RowKit
section
variable {P : Program} {ops : Array Oper}

theorem upon_mono2 {o : Oper} {a : Act} {N N' : Act → World → Prop} {Q Q' : Exit → Act → World → Prop} {r : Result Next} (h : ∀ a w, N a w → N' a w) (hq : ∀ e a w, Q e a w → Q' e a w) (hr : o.upon P a N Q r) : o.upon P a N' Q' r := by
  unfold Oper.upon at hr ⊢
  split at hr
  · exact h _ _ hr
  · exact h _ _ hr
  · exact h _ _ hr
  · refine hr.mono fun e w' he => ?_
    cases e with
    | returned v => exact h _ _ he
    | panicked c => exact hq _ _ _ he
    | outgrown => obtain ⟨a0, w0, h0⟩ := he; exact ⟨a0, w0, hq _ _ _ h0⟩
  · exact hr.mono fun v w' he => h _ _ he
  · exact hq _ _ _ hr
  · exact hr
theorem wpOps_mono2 {Q Q' : Exit → Act → World → Prop} (hq : ∀ e a w, Q e a w → Q' e a w) : ∀ (l : List Nat) (a : Act) (w : World), wpOps P ops Q l a w → wpOps P ops Q' l a w
  | [], a, w, h => hq _ _ _ h
  | i :: rest, a, w, h => by
    simp only [wpOps] at h ⊢
    cases ho : ops[i]? with
    | none => rw [ho] at h; exact wpOps_mono2 hq rest a w h
    | some o =>
      rw [ho] at h
      dsimp only at h ⊢
      split at h
      · rename_i hw
        rw [if_pos hw]
        rcases h with h | ⟨h1, a0, w0, h2⟩
        · exact .inl (upon_mono2 (wpOps_mono2 hq rest) hq h)
        · exact .inr ⟨h1, a0, w0, hq _ _ _ h2⟩
      · rename_i hw
        rw [if_neg hw]
        exact wpOps_mono2 hq rest _ _ h

theorem top_any {m : Region.Mode} {L : List Nat} (h : topB m ops L = true) : topB .any ops L = true := by
  unfold topB at h ⊢
  simp only [Bool.and_eq_true, List.all_eq_true, List.mem_range] at h ⊢
  refine ⟨h.1, fun k hk => ?_⟩
  have := h.2 k hk
  cases hL : L[k]? with
  | none => rfl
  | some i =>
    rw [hL] at this
    dsimp only at this ⊢
    cases ho : ops[i]? with
    | none => rfl
    | some o =>
      rw [ho] at this
      simp only [Array.all_eq_true', Bool.or_eq_true, Bool.not_eq_true'] at this ⊢
      intro e he
      rcases this e he with h1 | h1
      · left
        unfold Region.binds at h1 ⊢
        cases m <;> cases hg : e.ground <;> rw [hg] at h1 <;> simp_all
      · exact .inr h1

theorem wp_region_free {id : Nat} {l : List Oper} {Q : Exit → Act → World → Prop} {a : Act} {w : World} (hf : freeB P l.toArray = true)
    (h : ∀ K : Act → World → Prop, (∀ a w, Q .normal a w → K a w) → wpList P l.toArray (Exit.then K (fun _ _ _ => False)) l a w.drew) : (Code.region id l.toArray true).wp P Q a w := by
  refine wp_region_draw fun t => ?_
  have hQ : Plainly (Exit.then (fun a w => Q .normal a w) (fun _ _ _ => False)) := fun e a w he => by cases e <;> first | rfl | exact he.elim
  have hall : ((List.range l.toArray.size).filter fun i => !(Array.replicate l.toArray.size false).getD i true) = List.range l.toArray.size := by
    apply List.filter_eq_self.2
    intro i hi
    have := List.mem_range.1 hi
    simp only [Array.getD_eq_getD_getElem?, Array.getElem?_replicate]
    rw [if_pos this]
    rfl
  have key : ∀ (m : Region.Mode) (L : List Nat) (t : Nat), topB m l.toArray L = true → wpOps P l.toArray Q (Region.linearise m l.toArray t) a w.drew := by
    intro m L t hL
    obtain ⟨S, hS, hgo⟩ := go_free (P := P) (Q := Exit.then (fun a w => Q .normal a w) (fun _ _ _ => False)) hQ hf m L hL l.toArray.size t (Array.replicate l.toArray.size false) [] (by simp) (by rw [hall]; simp) (fun i hi => by
      simp only [Array.getD_eq_getD_getElem?, Array.getElem?_replicate] at hi
      split at hi <;> cases hi)
    have e : Region.linearise m l.toArray t = S := by
      unfold Region.linearise
      rw [hS]; simp
    rw [e]
    have h0 := h (fun a w => Q .normal a w) (fun _ _ h => h)
    have h1 : wpOps P l.toArray (Exit.then (fun a w => Q .normal a w) (fun _ _ _ => False)) (List.range l.toArray.size) a w.drew := by
      rw [List.range_eq_range', show l.toArray.size = l.length by simp, wpOps_eq_wpList l 0 (by simp)]
      exact h0
    rw [hall] at hgo
    exact wpOps_mono2 (fun e a w he => by cases e <;> first | exact he | exact he.elim) S a w.drew (hgo a w.drew h1)
  have hf' := hf
  unfold freeB at hf'
  simp only [Bool.and_eq_true] at hf'
  obtain ⟨⟨⟨_, htx⟩, hgc⟩, _⟩ := hf'
  unfold Region.schedule
  split
  · exact key _ _ _ (top_any htx)
  · split
    · exact key _ _ _ htx
    · exact key _ _ _ hgc
end
end Go.Proofs.Ytflinpnmpkdopaa
