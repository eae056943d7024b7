/- Operations by class. No program in sight. -/
import Derived.Test.YtflinpnmpkdopaaFree2
namespace Go.Proofs.Ytflinpnmpkdopaa
set_option linter.unusedVariables false
set_option linter.unusedSimpArgs false
open Go.RowKit
section
variable {P : Program}

theorem binOp_eql {t : TypeId} {X v : Value} (hv : v = .pointer none ∨ v = .map none ∨ v = .nilFunc) : binOp .eql t X v = (do pure (.bool (← Op.equal t X v))) := by
  rcases hv with rfl | rfl | rfl <;> cases X <;> rfl
theorem binOp_neq {t : TypeId} {X v : Value} (hv : v = .pointer none ∨ v = .map none ∨ v = .nilFunc) : binOp .neq t X v = (do pure (.bool (!(← Op.equal t X v)))) := by
  rcases hv with rfl | rfl | rfl <;> cases X <;> rfl
theorem eqGuard_nil {op : BinOp} {t : TypeId} {x y : Operand} {X v : Value} (hop : op = .eql ∨ op = .neq) (hv : v = .pointer none ∨ v = .map none ∨ v = .nilFunc) : eqGuard op t x y X v = pure () := by
  rcases hop with rfl | rfl <;> rcases hv with rfl | rfl | rfl <;> cases X <;> rfl

theorem exec_pure {o : Oper} (h : pureB P o = true) (a : Act) : WFV P (execOp a.eval o) := by
  unfold pureB at h
  unfold execOp
  split at h
  case h_1 x he => rw [he]; exact WFV.val _
  case h_2 x he => rw [he]; exact WFV.val _
  case h_3 c a b he =>
    rw [he]
    refine WFV.bind (WF.asBool _) fun b => WFV.val _
  case h_4 x i he =>
    rw [he]
    refine WFV.v ?_
    unfold Instr.extract
    split
    · split <;> first | exact WF.pure' _ | exact WF.stuck _
    · exact WF.stuck _
  case h_5 f a b he => rw [he]; exact WFV.v (WF.pure' _)
  case h_6 t x he =>
    rw [he]
    refine WFV.v ?_
    unfold Instr.makeInterface
    refine WF.bind (WF.underlying _) fun d => ?_
    split <;> first | exact WF.pure' _ | exact WF.stuck _
  case h_7 x he =>
    rw [he]
    dsimp only
    split
    · exact WFV.never (never_runtime _)
    · exact WFV.never (never_runtime _)
    · exact WFV.never (never_runtime _)
    · split
      · exact WFV.never (never_runtime _)
      · refine WFV.bind WF.prog fun p => WFV.bind (WF.nilAhead _ _ _ _) fun r => ?_
        split
        · exact WFV.bind (WF.unsupported _) fun _ => WFV.val _
        · exact WFV.val _
      · exact WFV.val _
    · exact WFV.val _
  case h_8 t x f he => rw [he]; exact WFV.v (wf_field _ _ _)
  case h_9 t x i he => rw [he]; exact WFV.v (wf_indexAt _ _ _)
  case h_10 t x he =>
    rw [he]
    refine WFV.v ?_
    unfold Op.unary
    split
    all_goals first | exact WF.pure' _ | exact WF.unsupported _ | exact WF.stuck _ | (exfalso; simp_all; done)
  case h_11 s x f he => rw [he]; exact WFV.v (wf_fieldAt h)
  case h_12 as ts he =>
    rw [he]
    simp only [resolve, invoke]
    exact WFV.v (wf_len h)
  case h_13 op t x y yt he =>
    rw [he]
    simp only [Bool.and_eq_true, Bool.or_eq_true, beq_iff_eq] at h
    obtain ⟨⟨hop, hy⟩, ht⟩ := h
    have hyv : ∃ v, y = .const v ∧ (v = .pointer none ∨ v = .map none ∨ v = .nilFunc) := by
      unfold nilB at hy
      split at hy
      · exact ⟨_, rfl, .inl rfl⟩
      · exact ⟨_, rfl, .inr (.inl rfl)⟩
      · exact ⟨_, rfl, .inr (.inr rfl)⟩
      · cases hy
    obtain ⟨v, rfl, hv⟩ := hyv
    have he1 : a.eval (.const v) = v := rfl
    refine WFV.v ?_
    rw [he1, eqGuard_nil hop hv]
    refine WF.bind (WF.pure' _) fun _ => ?_
    rcases hop with rfl | rfl
    · rw [binOp_eql hv]; exact WF.bind (wf_eqNil hv ht) fun _ => WF.pure' _
    · rw [binOp_neq hv]; exact WF.bind (wf_eqNil hv ht) fun _ => WF.pure' _
  case h_14 => cases h
end
end Go.Proofs.Ytflinpnmpkdopaa
