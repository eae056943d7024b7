/- Two neighbours in a region change places. No program in sight. -/
import Derived.Test.YtflinpnmpkdopaaFree5
namespace Go.Proofs.Ytflinpnmpkdopaa
set_option linter.unusedVariables false
set_option linter.unusedSimpArgs false
open Go.RowKit

def commB (P : Program) (x y : Oper) : Bool := pureB P x || pureB P y || (readB x && readB y) || (readB x && newB y)

section
variable {P : Program} {ops : Array Oper} {Q : Exit → Act → World → Prop}

def Reached (a : Act) (o : Oper) (b : Act) : Prop := ∃ u ds, b = ({ a with defers := ds } : Act).put o.dst u

theorem St.with (hQ : Plainly Q) {o : Oper} {a : Act} {w : World} {N : Act → World → Prop} (h : St P ops Q o a w N) : St P ops Q o a w (fun b w' => Reached a o b ∧ N b w') := by
  unfold St at h ⊢
  split
  · rename_i hw
    rw [if_pos hw] at h
    unfold Oper.wp Oper.upon at h ⊢
    split at h
    · exact ⟨⟨_, _, rfl⟩, h⟩
    · exact ⟨⟨_, _, rfl⟩, h⟩
    · exact ⟨⟨_, _, rfl⟩, h⟩
    · exact h.mono fun e w' he => by cases e <;> first | exact ⟨⟨_, _, rfl⟩, he⟩ | exact he
    · exact h.mono fun v w' he => ⟨⟨_, _, rfl⟩, he⟩
    · exact h
    · exact h
  · rename_i hw
    rw [if_neg hw] at h
    exact ⟨⟨_, _, rfl⟩, h⟩
theorem St.some (hQ : Plainly Q) {o : Oper} {a : Act} {w : World} {N : Act → World → Prop} (h : St P ops Q o a w N) : ∃ b w', Reached a o b ∧ N b w' := by
  have h := h.with hQ
  unfold St at h
  split at h
  · unfold Oper.wp Oper.upon at h
    split at h
    · exact ⟨_, _, h⟩
    · exact ⟨_, _, h⟩
    · exact ⟨_, _, h⟩
    · obtain ⟨e, w', fr, hr, _⟩ := h []
      cases e with
      | returned v => exact ⟨_, _, hr⟩
      | panicked c => exact absurd (hQ _ _ _ hr) (by simp)
      | outgrown => obtain ⟨a0, w0, hq⟩ := hr; exact absurd (hQ _ _ _ hq) (by simp)
    · obtain ⟨v, w', hr, _⟩ := h default []
      exact ⟨_, _, hr⟩
    · exact absurd (hQ _ _ _ h) (by simp)
    · exact h.elim
  · exact ⟨_, _, h⟩

theorem reached_exec {x y : Oper} (hs : selB y = false) {a b : Act} (hr : Reached a x b) (h : ∀ t, x.dst = some t → ¬ looksAt ops y t) : execOp b.eval y = execOp a.eval y ∧ Region.wanted y (yielded ops b.tmps) = Region.wanted y (yielded ops a.tmps) := by
  obtain ⟨u, ds, rfl⟩ := hr
  have e1 : execOp (({ a with defers := ds } : Act).put x.dst u).eval y = execOp ({ a with defers := ds } : Act).eval y := exec_put hs fun t ht hm => h t ht (.inl hm)
  have e2 : execOp ({ a with defers := ds } : Act).eval y = execOp a.eval y := exec_congr y hs fun x _ => by cases x <;> rfl
  have e3 : Region.wanted y (yielded ops (({ a with defers := ds } : Act).put x.dst u).tmps) = Region.wanted y (yielded ops ({ a with defers := ds } : Act).tmps) := wanted_put fun t j b ht hg e => h t ht (.inr ⟨j, b, hg, e⟩)
  exact ⟨e1.trans e2, e3⟩

/-- What an operation that answers a value comes to: the temporary, and the world. -/
def Val (P : Program) (ops : Array Oper) (o : Oper) (a : Act) (w : World) (v : Value) (w1 : World) : Prop :=
  if Region.wanted o (yielded ops a.tmps) then (execOp a.eval o).run P w = .ok (.value v) w1 else v = undef ∧ w1 = w

theorem Val.st {o : Oper} {a : Act} {w w1 : World} {v : Value} {N : Act → World → Prop} (h : Val P ops o a w v w1) : St P ops Q o a w N ↔ N (a.put o.dst v) w1 := by
  unfold Val at h
  unfold St
  split
  · rename_i hw
    rw [if_pos hw] at h
    unfold Oper.wp
    rw [h]
    exact Iff.rfl
  · rename_i hw
    rw [if_neg hw] at h
    obtain ⟨rfl, rfl⟩ := h
    exact Iff.rfl
theorem Val.of_st (hQ : Plainly Q) {o : Oper} {a : Act} {w : World} {N : Act → World → Prop} (hv : ∀ w r w1, (execOp a.eval o).run P w = .ok r w1 → ∃ v, r = .value v) (h : St P ops Q o a w N) : ∃ v w1, Val P ops o a w v w1 := by
  unfold St at h
  unfold Val
  split at h
  · rename_i hw
    simp only [hw, if_true]
    unfold Oper.wp at h
    cases hr : (execOp a.eval o).run P w with
    | ok r w1 =>
      obtain ⟨v, rfl⟩ := hv _ _ _ hr
      exact ⟨v, w1, rfl⟩
    | halt x w1 =>
      rw [hr] at h
      cases x with
      | panic u => exact absurd (hQ _ _ _ h) (by simp)
      | _ => exact h.elim
  · rename_i hw
    simp only [hw]
    exact ⟨undef, w, rfl, rfl⟩
theorem Val.move {x o : Oper} (hs : selB o = false) {a b : Act} {w w1 : World} {v : Value} (hr : Reached a x b) (hl : ∀ t, x.dst = some t → ¬ looksAt ops o t) : Val P ops o b w v w1 ↔ Val P ops o a w v w1 := by
  obtain ⟨h1, h2⟩ := reached_exec hs hr hl
  unfold Val
  rw [h1, h2]
theorem Val.pure {o : Oper} (h : pureB P o = true) {a : Act} {w w1 : World} {v : Value} (hv : Val P ops o a w v w1) : w1 = w ∧ ∀ w', Val P ops o a w' v w' := by
  unfold Val at hv ⊢
  split at hv
  · rename_i hw
    obtain ⟨h1, _, h3⟩ := exec_pure h a w _ w1 hv
    exact ⟨h1, fun w' => by rw [if_pos hw]; exact h3 w'⟩
  · rename_i hw
    exact ⟨hv.2, fun w' => by rw [if_neg hw]; exact ⟨hv.1, rfl⟩⟩
theorem Val.read {o : Oper} (h : readB o = true) {a : Act} {w w1 : World} {v : Value} (hv : Val P ops o a w v w1) : w1 = w ∧ ∀ o', Val P ops o a (w.alloc o') v (w.alloc o') := by
  unfold Val at hv ⊢
  split at hv
  · rename_i hw
    obtain ⟨h1, _, h3⟩ := exec_read h a.eval w _ w1 hv
    exact ⟨h1, fun o' => by rw [if_pos hw]; exact h3 o'⟩
  · rename_i hw
    exact ⟨hv.2, fun w' => by rw [if_neg hw]; exact ⟨hv.1, rfl⟩⟩
theorem Val.new {o : Oper} (h : newB o = true) {a : Act} {w w1 : World} {v : Value} (hv : Val P ops o a w v w1) : w1 = w ∨ ∃ o', w1 = w.alloc o' := by
  unfold Val at hv
  split at hv
  · exact .inr (exec_new h a.eval w _ w1 hv).1
  · exact .inl hv.2

theorem reached_put (a : Act) (o : Oper) (v : Value) : Reached a o (a.put o.dst v) := ⟨v, a.defers, rfl⟩

theorem St.swap (hQ : Plainly Q) {x y : Oper} (hx : selB x = false) (hy : selB y = false) (hap : Apart2 ops x y) (hc : commB P x y = true) {a : Act} {w : World} {N : Act → World → Prop}
    (h : St P ops Q x a w (fun b w' => St P ops Q y b w' N)) : St P ops Q y a w (fun b w' => St P ops Q x b w' N) := by
  unfold commB at hc
  simp only [Bool.or_eq_true, Bool.and_eq_true] at hc
  rcases hc with ((hp | hp) | ⟨hr1, hr2⟩) | ⟨hr1, hr2⟩
  · -- x only computes
    obtain ⟨v, w1, hv⟩ := Val.of_st hQ (fun w r w1 e => (exec_pure hp a w r w1 e).2.1) h
    obtain ⟨rfl, hall⟩ := hv.pure hp
    have h1 := (hv.st (Q := Q)).1 h
    have h2 := (St.frame hQ hy (fun t ht => hap.xy t ht) (fun t ht => hap.symm.dst t |> fun f e => f e ht)).1 h1
    refine (h2.with hQ).mono fun b w' ⟨hb, hn⟩ => ?_
    exact ((Val.move hx hb (fun t ht => hap.yx t ht)).2 (hall w')).st.2 hn
  · -- y only computes
    obtain ⟨b, w', hb, hn⟩ := h.some hQ
    obtain ⟨v, w1, hv⟩ := Val.of_st hQ (fun w r w1 e => (exec_pure hp b w r w1 e).2.1) hn
    have hva := (Val.move hy hb (fun t ht => hap.xy t ht)).1 hv
    obtain ⟨_, hall⟩ := hva.pure hp
    refine (hall w).st.2 ?_
    refine (St.frame hQ hx (fun t ht => hap.yx t ht) (fun t ht e => hap.dst t e ht)).2 ?_
    refine (h.with hQ).mono fun b' w'' ⟨hb', hn'⟩ => ?_
    exact ((Val.move hy hb' (fun t ht => hap.xy t ht)).2 (hall w'')).st.1 hn'
  · -- both only read
    obtain ⟨v, w1, hv⟩ := Val.of_st hQ (fun w r w1 e => (exec_read hr1 a.eval w r w1 e).2.1) h
    obtain ⟨rfl, _⟩ := hv.read hr1
    have h1 := (hv.st (Q := Q)).1 h
    obtain ⟨u, w2, hu⟩ := Val.of_st hQ (fun w r w1 e => (exec_read hr2 _ w r w1 e).2.1) h1
    obtain ⟨rfl, _⟩ := hu.read hr2
    have h2 := (hu.st (Q := Q)).1 h1
    have hua := (Val.move hy (reached_put a x v) (fun t ht => hap.xy t ht)).1 hu
    refine hua.st.2 ?_
    refine ((Val.move hx (reached_put a y u) (fun t ht => hap.yx t ht)).2 hv).st.2 ?_
    rw [put_comm fun t ht => hap.symm.dst t ht]
    exact h2
  · -- one reads, the other makes a block
    obtain ⟨v, w1, hv⟩ := Val.of_st hQ (fun w r w1 e => (exec_read hr1 a.eval w r w1 e).2.1) h
    obtain ⟨rfl, hnew⟩ := hv.read hr1
    have h1 := (hv.st (Q := Q)).1 h
    obtain ⟨u, w2, hu⟩ := Val.of_st hQ (fun w r w1 e => (exec_new hr2 _ w r w1 e).2) h1
    have h2 := (hu.st (Q := Q)).1 h1
    have hua := (Val.move hy (reached_put a x v) (fun t ht => hap.xy t ht)).1 hu
    refine hua.st.2 ?_
    have hvv : Val P ops x a w2 v w2 := by
      rcases hu.new hr2 with rfl | ⟨o', rfl⟩
      · exact hv
      · exact hnew o'
    refine ((Val.move hx (reached_put a y u) (fun t ht => hap.yx t ht)).2 hvv).st.2 ?_
    rw [put_comm fun t ht => hap.symm.dst t ht]
    exact h2
end
end Go.Proofs.Ytflinpnmpkdopaa
