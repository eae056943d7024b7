/- Operations that only read, or only make a block. No program in sight. -/
import Derived.Test.YtflinpnmpkdopaaFree3
namespace Go.Proofs.Ytflinpnmpkdopaa
set_option linter.unusedVariables false
set_option linter.unusedSimpArgs false
open Go.RowKit
section
variable {P : Program} {α β : Type}

/-- It only reads: the world is as it was, and behind one new block it answers the same. -/
def RD (P : Program) (s : Sem α) : Prop := ∀ w r w1, s.run P w = .ok r w1 → w1 = w ∧ ∀ o, s.run P (w.alloc o) = .ok r (w.alloc o)
theorem RD.of_wf {s : Sem α} (h : WF P s) : RD P s := fun w r w1 e => ⟨(h w r w1 e).1, fun o => (h w r w1 e).2 _⟩
theorem RD.bind {s : Sem α} {f : α → Sem β} (h : RD P s) (hf : ∀ a, RD P (f a)) : RD P (s >>= f) := by
  intro w r w1 e
  rw [Sem.run_bind] at e
  cases hs : s.run P w with
  | halt x w2 => rw [hs] at e; cases e
  | ok a w2 =>
    rw [hs] at e
    obtain ⟨rfl, h2⟩ := h w a w2 hs
    obtain ⟨rfl, h3⟩ := hf a w2 r w1 e
    exact ⟨rfl, fun o => by rw [Sem.run_bind, h2 o]; exact h3 o⟩
theorem heap_none_of_ge {w : World} {i : Nat} (h : ¬ i < w.heap.size) : w.heap[i]? = none := Array.getElem?_eq_none (by omega)
theorem seen_alloc {w : World} {at_ : Addr} {u : TypeId} {k : Addr} {b : Bool} (o : Obj) {r} (h : w.seen P at_ u k b = .ok r) : (w.alloc o).seen P at_ u k b = .ok r := by
  by_cases hb : at_.block < w.heap.size
  · have he : (w.alloc o).heap[at_.block]? = w.heap[at_.block]? := heap_alloc_old w o hb
    rw [← h]
    unfold World.seen
    rw [he]
  · exfalso
    unfold World.seen at h
    rw [heap_none_of_ge hb] at h
    simp only [bind, Except.bind, pure, Except.pure, throw, throwThe, MonadExceptOf.throw] at h
    repeat' split at h
    all_goals first | cases h | (simp_all; done)
theorem farLoad_alloc {w : World} {a : Addr} {b : Bool} (o : Obj) {r} (h : w.farLoad P a b = .ok r) : (w.alloc o).cell? a = none ∧ (w.alloc o).farLoad P a b = .ok r := by
  by_cases hb : a.block < w.heap.size
  · have he : (w.alloc o).heap[a.block]? = w.heap[a.block]? := heap_alloc_old w o hb
    unfold World.farLoad at h ⊢
    unfold World.cell?
    rw [he]
    split at h
    · rename_i at_ u hv
      rw [hv]
      refine ⟨rfl, ?_⟩
      unfold World.viewLoad at h ⊢
      cases hs : w.seen P at_ u a b with
      | error e =>
        rw [hs] at h
        simp only [bind, Except.bind] at h
        cases h
      | ok x =>
        rw [hs] at h
        rw [seen_alloc o hs]
        exact h
    · cases h
  · exfalso
    unfold World.farLoad at h
    rw [heap_none_of_ge hb] at h
    cases h
theorem RD.load (a : Addr) : RD P (Go.load a) := by
  intro w r w1 e
  have e' : (Sem.load .plain a Sem.pure : Sem Value).run P w = .ok r w1 := e
  simp only [Sem.run] at e'
  cases hc : w.cell? a with
  | some v =>
    rw [hc] at e'
    cases e'
    refine ⟨rfl, fun o => ?_⟩
    have hb : a.block < w.heap.size := by
      rcases Nat.lt_or_ge a.block w.heap.size with h | h
      · exact h
      · unfold World.cell? at hc
        rw [heap_none_of_ge (by omega)] at hc
        cases hc
    show (Sem.load .plain a Sem.pure : Sem Value).run P (w.alloc o) = _
    simp only [Sem.run]
    rw [World.cell?_alloc_lt w o a hb, hc]
  | none =>
    rw [hc] at e'
    dsimp only at e'
    split at e'
    · rename_i v t hv
      cases e'
      refine ⟨rfl, fun o => ?_⟩
      obtain ⟨h1, h2⟩ := farLoad_alloc o hv
      show (Sem.load .plain a Sem.pure : Sem Value).run P (w.alloc o) = _
      simp only [Sem.run]
      rw [h1]
      dsimp only
      rw [h2]
    · cases e'
theorem RD.loadCellsFrom (a : Addr) : ∀ (n i : Nat) (acc : Array Value), RD P (Go.loadCellsFrom a i n acc)
  | 0, _, _ => RD.of_wf (WF.pure' _)
  | n + 1, i, acc => RD.bind (RD.load _) fun v => RD.loadCellsFrom a n (i + 1) (acc.push v)
theorem RD.loadVar (t : TypeId) (a : Addr) : RD P (Go.loadVar t a) := by
  unfold Go.loadVar
  refine RD.bind (RD.of_wf (WF.isAgg _)) fun b => ?_
  split
  · exact RD.bind (RD.of_wf (WF.sizeOf _)) fun n => RD.bind (RD.loadCellsFrom a n 0 #[]) fun c => RD.of_wf (WF.pure' _)
  · exact RD.load _
/-- A load, as an operation. -/
theorem exec_read {o : Oper} (h : readB o = true) (ρ : Operand → Value) : ∀ w r w1, (execOp ρ o).run P w = .ok r w1 → w1 = w ∧ (∃ v, r = .value v) ∧ ∀ o', (execOp ρ o).run P (w.alloc o') = .ok r (w.alloc o') := by
  unfold readB at h
  split at h
  · rename_i t x he
    unfold execOp
    rw [he]
    have hr : RD P (Instr.loadAt t (ρ x)) := RD.bind (RD.of_wf (WF.sureAddr _)) fun a => RD.loadVar t a
    have hr2 : RD P (do pure (Next.value (← Instr.loadAt t (ρ x)))) := RD.bind hr fun _ => RD.of_wf (WF.pure' _)
    intro w r w1 e
    refine ⟨(hr2 w r w1 e).1, ?_, (hr2 w r w1 e).2⟩
    rw [Sem.run_bind] at e
    cases hs : (Instr.loadAt t (ρ x)).run P w with
    | halt x w2 => rw [hs] at e; cases e
    | ok a w2 => rw [hs] at e; cases e; exact ⟨a, rfl⟩
  · cases h

/-- It makes one block. -/
def NW (P : Program) (s : Sem α) : Prop := ∀ w r w1, s.run P w = .ok r w1 → ∃ o, w1 = w.alloc o
theorem NW.bind_wf {s : Sem α} {f : α → Sem β} (h : WF P s) (hf : ∀ a, NW P (f a)) : NW P (s >>= f) := by
  intro w r w1 e
  rw [Sem.run_bind] at e
  cases hs : s.run P w with
  | halt x w2 => rw [hs] at e; cases e
  | ok a w2 =>
    rw [hs] at e
    obtain ⟨rfl, h2⟩ := h w a w2 hs
    exact hf a w2 r w1 e
theorem NW.then_wf {s : Sem α} {f : α → Sem β} (h : NW P s) (hf : ∀ a, WF P (f a)) : NW P (s >>= f) := by
  intro w r w1 e
  rw [Sem.run_bind] at e
  cases hs : s.run P w with
  | halt x w2 => rw [hs] at e; cases e
  | ok a w2 =>
    rw [hs] at e
    obtain ⟨o, rfl⟩ := h w a w2 hs
    obtain ⟨rfl, _⟩ := hf a _ r w1 e
    exact ⟨o, rfl⟩
theorem NW.newObj (o : Obj) : NW P (Go.newObj o) := fun w r w1 e => by
  have e' : Result.ok w.heap.size { w with heap := w.heap.push o } = Result.ok r w1 := e
  cases e'
  exact ⟨o, rfl⟩
theorem NW.newRow (t : TypeId) (cs : Array Value) : NW P (Go.newRow t cs) := NW.then_wf (NW.newObj _) fun _ => WF.pure' _
theorem WF.zeroValue (t : TypeId) : WF P (Go.zeroValue t) := WF.bind (WF.typeInfo t) fun i => by split <;> first | exact WF.pure' _ | exact WF.unsupported _
theorem nw_buildSlice (t : TypeId) (n : Nat) (ps : Array (Nat × Value)) : NW P (Instr.buildSlice t n ps) := by
  unfold Instr.buildSlice
  refine NW.bind_wf (WF.underlying _) fun d => ?_
  split
  · refine NW.bind_wf (WF.sizeOf _) fun s => ?_
    dsimp only
    split
    · exact NW.bind_wf (WF.unsupported _) fun _ => by
        split
        · refine NW.bind_wf (WF.pure' _) fun z => ?_
          split
          · exact NW.then_wf (NW.newRow _ _) fun _ => WF.pure' _
          · exact fun w r w1 e => by cases e
        · refine NW.bind_wf (WF.zeroValue _) fun z0 => NW.bind_wf (WF.pure' _) fun z => ?_
          split
          · exact NW.then_wf (NW.newRow _ _) fun _ => WF.pure' _
          · exact fun w r w1 e => by cases e
    · split
      · refine NW.bind_wf (WF.pure' _) fun z => ?_
        split
        · exact NW.then_wf (NW.newRow _ _) fun _ => WF.pure' _
        · exact fun w r w1 e => by cases e
      · refine NW.bind_wf (WF.zeroValue _) fun z0 => NW.bind_wf (WF.pure' _) fun z => ?_
        split
        · exact NW.then_wf (NW.newRow _ _) fun _ => WF.pure' _
        · exact fun w r w1 e => by cases e
  · exact fun w r w1 e => by cases e
theorem exec_new {o : Oper} (h : newB o = true) (ρ : Operand → Value) : ∀ w r w1, (execOp ρ o).run P w = .ok r w1 → (∃ o', w1 = w.alloc o') ∧ ∃ v, r = .value v := by
  unfold newB at h
  split at h
  · rename_i t x he
    unfold execOp
    rw [he]
    have hr : NW P (Instr.box t (ρ x)) := NW.then_wf (NW.newRow _ _) fun _ => WF.pure' _
    intro w r w1 e
    refine ⟨(NW.then_wf hr fun _ => WF.pure' _) w r w1 e, ?_⟩
    rw [Sem.run_bind] at e
    cases hs : (Instr.box t (ρ x)).run P w with
    | halt x w2 => rw [hs] at e; cases e
    | ok a w2 => rw [hs] at e; cases e; exact ⟨a, rfl⟩
  · rename_i t n ps he
    unfold execOp
    rw [he]
    intro w r w1 e
    refine ⟨(NW.then_wf (nw_buildSlice _ _ _) fun _ => WF.pure' _) w r w1 e, ?_⟩
    dsimp only at e
    rw [Sem.run_bind] at e
    cases hs : (Instr.buildSlice t n (ps.map fun x => (x.1, ρ x.2))).run P w with
    | halt x w2 => rw [hs] at e; cases e
    | ok a w2 => rw [hs] at e; cases e; exact ⟨a, rfl⟩
  · rename_i t he
    unfold execOp
    rw [he]
    have hr : NW P (Instr.alloc t true (.tuple #[])) := by
      unfold Instr.alloc
      exact NW.bind_wf (WF.zeroValue _) fun z => NW.then_wf (NW.newRow _ _) fun _ => WF.pure' _
    intro w r w1 e
    refine ⟨(NW.then_wf hr fun _ => WF.pure' _) w r w1 e, ?_⟩
    rw [Sem.run_bind] at e
    cases hs : (Instr.alloc t true (.tuple #[])).run P w with
    | halt x w2 => rw [hs] at e; cases e
    | ok a w2 => rw [hs] at e; cases e; exact ⟨a, rfl⟩
  · cases h
end
end Go.Proofs.Ytflinpnmpkdopaa
