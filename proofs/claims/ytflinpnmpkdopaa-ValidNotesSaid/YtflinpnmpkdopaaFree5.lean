/- A region whose order is open, walked in the order of its text. No program in sight. -/
import Derived.Test.YtflinpnmpkdopaaFree4
namespace Go.Proofs.Ytflinpnmpkdopaa
set_option linter.unusedVariables false
set_option linter.unusedSimpArgs false
open Go.RowKit

/-- One operation, with nothing but a plain end allowed. -/
def St (P : Program) (ops : Array Oper) (Q : Exit → Act → World → Prop) (o : Oper) (a : Act) (w : World) (N : Act → World → Prop) : Prop :=
  if Region.wanted o (yielded ops a.tmps) then o.wp P a w N Q else N (a.put o.dst undef) w

/-- Nothing but a plain end. -/
def Plainly (Q : Exit → Act → World → Prop) : Prop := ∀ e a w, Q e a w → e = .normal

/-- the temporaries that an operation looks at. -/
def looksAt (ops : Array Oper) (o : Oper) (t : Tmp) : Prop :=
  (.tmp t ∈ o.op.operands) ∨ (∃ j b, o.guard = some (j, b) ∧ (ops[j]?).bind (·.dst) = some t)

section
variable {P : Program} {ops : Array Oper} {Q : Exit → Act → World → Prop}

theorem getD_set_ne {α : Type} (xs : Array α) {i j : Nat} (v d : α) (h : i ≠ j) : (xs.setIfInBounds i v).getD j d = xs.getD j d := by
  simp only [Array.getD_eq_getD_getElem?, Array.getElem?_setIfInBounds, if_neg h]
theorem eval_put {a : Act} {d : Option Tmp} {v : Value} {x : Operand} (h : ∀ t, d = some t → x ≠ .tmp t) : (a.put d v).eval x = a.eval x := by
  cases d with
  | none => rfl
  | some t =>
    cases x with
    | tmp u =>
      have : t ≠ u := fun e => h t rfl (by rw [e])
      exact getD_set_ne _ _ _ this
    | const v => rfl
    | global g => rfl
    | func f => rfl
theorem exec_put {o : Oper} (hs : selB o = false) {a : Act} {d : Option Tmp} {v : Value} (h : ∀ t, d = some t → .tmp t ∉ o.op.operands) : execOp (a.put d v).eval o = execOp a.eval o :=
  exec_congr o hs fun x hx => eval_put fun t ht e => h t ht (e ▸ hx)
theorem wanted_put {o : Oper} {a : Act} {d : Option Tmp} {v : Value} (h : ∀ t j b, d = some t → o.guard = some (j, b) → (ops[j]?).bind (·.dst) ≠ some t) : Region.wanted o (yielded ops (a.put d v).tmps) = Region.wanted o (yielded ops a.tmps) := by
  unfold Region.wanted
  cases hg : o.guard with
  | none => rfl
  | some jb =>
    obtain ⟨j, b⟩ := jb
    have : yielded ops (a.put d v).tmps j = yielded ops a.tmps j := by
      unfold yielded
      cases hd : (ops[j]?).bind (·.dst) with
      | none => rfl
      | some t =>
        cases d with
        | none => rfl
        | some u =>
          have hne : u ≠ t := fun e => h u j b rfl hg (by rw [hd, e])
          simp only [Option.bind_some, Act.put, Array.getElem?_setIfInBounds, if_neg hne]
    dsimp only
    rw [this]
theorem put_comm {a : Act} {d e : Option Tmp} {u v : Value} (h : ∀ t, d = some t → e ≠ some t) : (a.put d u).put e v = (a.put e v).put d u := by
  cases d with
  | none => cases e <;> rfl
  | some t =>
    cases e with
    | none => rfl
    | some s =>
      have hne : t ≠ s := fun e => h t rfl (by rw [e])
      simp only [Act.put]
      rw [Array.setIfInBounds_comm _ _ hne]

/-- Two operations of which neither looks at what the other one leaves. -/
structure Apart2 (ops : Array Oper) (x y : Oper) : Prop where
  dst : ∀ t, x.dst = some t → y.dst ≠ some t
  xy : ∀ t, x.dst = some t → ¬ looksAt ops y t
  yx : ∀ t, y.dst = some t → ¬ looksAt ops x t

theorem Apart2.symm {x y : Oper} (h : Apart2 ops x y) : Apart2 ops y x := ⟨fun t h1 h2 => h.dst t h2 h1, h.yx, h.xy⟩

theorem upon_mono {o : Oper} {a : Act} {N N' : Act → World → Prop} {r : Result Next} (h : ∀ a w, N a w → N' a w) (hr : o.upon P a N Q r) : o.upon P a N' Q r := by
  unfold Oper.upon at hr ⊢
  split at hr
  · exact h _ _ hr
  · exact h _ _ hr
  · exact h _ _ hr
  · exact hr.mono fun e w' he => by cases e <;> first | exact h _ _ he | exact he
  · exact hr.mono fun v w' he => h _ _ he
  · exact hr
  · exact hr
theorem St.mono {o : Oper} {a : Act} {w : World} {N N' : Act → World → Prop} (h : ∀ a w, N a w → N' a w) (hs : St P ops Q o a w N) : St P ops Q o a w N' := by
  unfold St at hs ⊢
  split
  · rename_i hw; rw [if_pos hw] at hs; exact upon_mono h hs
  · rename_i hw; rw [if_neg hw] at hs; exact h _ _ hs

/-- What an operation does is the same where a temporary that it neither looks at nor writes holds another value. -/
theorem St.frame (hQ : Plainly Q) {o : Oper} (hs : selB o = false) {a : Act} {w : World} {d : Option Tmp} {v : Value} {N : Act → World → Prop} (hl : ∀ t, d = some t → ¬ looksAt ops o t) (hd : ∀ t, d = some t → o.dst ≠ some t) :
    St P ops Q o (a.put d v) w N ↔ St P ops Q o a w (fun b w' => N (b.put d v) w') := by
  have hw : Region.wanted o (yielded ops (a.put d v).tmps) = Region.wanted o (yielded ops a.tmps) := wanted_put fun t j b ht hg e => hl t ht (.inr ⟨j, b, hg, e⟩)
  have he : execOp (a.put d v).eval o = execOp a.eval o := exec_put hs fun t ht hm => hl t ht (.inl hm)
  have hc : ∀ (b : Act) (u : Value), (b.put d v).put o.dst u = (b.put o.dst u).put d v := fun b u => put_comm fun t ht => hd t ht
  unfold St
  rw [hw]
  split
  · unfold Oper.wp
    rw [he]
    cases hr : (execOp a.eval o).run P w with
    | ok x w1 =>
      cases x with
      | value u => simp only [Oper.upon_value, hc]
      | skip => simp only [Oper.upon_skip, hc]
      | defer dd =>
        have : ({ a.put d v with defers := dd :: (a.put d v).defers } : Act).put o.dst undef = (({ a with defers := dd :: a.defers } : Act).put o.dst undef).put d v := by
          rw [← hc]
          cases d <;> rfl
        simp only [Oper.upon_defer, this]
      | enter f args =>
        simp only [Oper.upon_enter]
        constructor
        · intro h
          refine h.mono fun e w' h' => ?_
          cases e with
          | returned u => dsimp only at h' ⊢; rw [hc] at h'; exact h'
          | panicked c => exact absurd (hQ _ _ _ h') (by simp)
          | outgrown => exact h'
        · intro h
          refine h.mono fun e w' h' => ?_
          cases e with
          | returned u => dsimp only at h' ⊢; rw [hc]; exact h'
          | panicked c => exact absurd (hQ _ _ _ h') (by simp)
          | outgrown => exact h'
      | row r args => simp only [Oper.upon_row, hc]
      | _ => exact Iff.rfl
    | halt x w1 =>
      cases x with
      | panic u =>
        simp only [Oper.upon_panic]
        exact ⟨fun h => absurd (hQ _ _ _ h) (by simp), fun h => absurd (hQ _ _ _ h) (by simp)⟩
      | _ => exact Iff.rfl
  · rw [hc]
end
end Go.Proofs.Ytflinpnmpkdopaa
