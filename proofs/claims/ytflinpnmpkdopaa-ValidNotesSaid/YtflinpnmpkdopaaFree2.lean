/- Which operations only compute, which only read, which only make a block; operands. No program in sight. -/
import Derived.Test.YtflinpnmpkdopaaFree
namespace Go.Proofs.Ytflinpnmpkdopaa
set_option linter.unusedVariables false
set_option linter.unusedSimpArgs false
open Go.RowKit

def selB (o : Oper) : Bool := match o.op with | .select _ _ => true | _ => false

/-- What an operation answers hangs on its operands alone. -/
theorem exec_congr {ρ σ : Operand → Value} (o : Oper) (hs : selB o = false) (h : ∀ x ∈ o.op.operands, ρ x = σ x) : execOp ρ o = execOp σ o := by
  unfold execOp
  cases ho : o.op with
  | call c =>
    rw [ho] at h
    simp only [Op.operands, Call.operands] at h
    have ha : c.args.map ρ = c.args.map σ := Array.map_congr_left fun x hx => h x (by simp [hx])
    have hr : resolve ρ c o.type = resolve σ c o.type := by
      unfold resolve
      cases hc : c.callee with
      | builtin b => simp only [ha]
      | invoke r n => simp only [ha, h r (by simp [hc])]
      | value f => simp only [ha, h f (by simp [hc])]
    simp only [hr]
  | go c =>
    rw [ho] at h
    simp only [Op.operands, Call.operands] at h
    have ha : c.args.map ρ = c.args.map σ := Array.map_congr_left fun x hx => h x (by simp [hx])
    have hr : resolve ρ c o.type = resolve σ c o.type := by
      unfold resolve
      cases hc : c.callee with
      | builtin b => simp only [ha]
      | invoke r n => simp only [ha, h r (by simp [hc])]
      | value f => simp only [ha, h f (by simp [hc])]
    simp only [hr]
  | defer c =>
    rw [ho] at h
    simp only [Op.operands, Call.operands] at h
    have ha : c.args.map ρ = c.args.map σ := Array.map_congr_left fun x hx => h x (by simp [hx])
    have hr : resolve ρ c o.type = resolve σ c o.type := by
      unfold resolve
      cases hc : c.callee with
      | builtin b => simp only [ha]
      | invoke r n => simp only [ha, h r (by simp [hc])]
      | value f => simp only [ha, h f (by simp [hc])]
    simp only [hr]
  | build t ps =>
    rw [ho] at h
    have : ps.map (fun x => (x.1, ρ x.2)) = ps.map (fun x => (x.1, σ x.2)) := Array.map_congr_left fun x hx => by
      rw [h x.2 (by simp only [Op.operands]; simp only [List.mem_toArray, List.mem_map]; exact ⟨x, by simpa using hx, rfl⟩)]
    simp only [this]
  | buildSlice t n ps =>
    rw [ho] at h
    have : ps.map (fun x => (x.1, ρ x.2)) = ps.map (fun x => (x.1, σ x.2)) := Array.map_congr_left fun x hx => by
      rw [h x.2 (by simp only [Op.operands]; simp only [List.mem_toArray, List.mem_map]; exact ⟨x, by simpa using hx, rfl⟩)]
    simp only [this]
  | makeFunc f a b =>
    rw [ho] at h
    simp only [Op.operands] at h
    have h1 : a.map ρ = a.map σ := Array.map_congr_left fun x hx => h x (by simp [hx])
    have h2 : b.map ρ = b.map σ := Array.map_congr_left fun x hx => h x (by simp [hx])
    simp only [h1, h2]
  | makeMap t r =>
    rw [ho] at h
    cases r with
    | none => rfl
    | some x => simp only [Option.map_some, h x (by simp [Op.operands])]
  | slice t x lo hi mx =>
    rw [ho] at h
    have h0 := h x (by simp [Op.operands])
    have h1 : lo.map ρ = lo.map σ := by cases lo with | none => rfl | some y => simp only [Option.map_some, h y (by simp [Op.operands])]
    have h2 : hi.map ρ = hi.map σ := by cases hi with | none => rfl | some y => simp only [Option.map_some, h y (by simp [Op.operands])]
    have h3 : mx.map ρ = mx.map σ := by cases mx with | none => rfl | some y => simp only [Option.map_some, h y (by simp [Op.operands])]
    simp only [h0, h1, h2, h3]
  | select cs b =>
    simp [selB, ho] at hs
  | pick c a b =>
    rw [ho] at h
    simp only [h c (by simp [Op.operands]), h a (by simp [Op.operands]), h b (by simp [Op.operands])]
  | insert t m k v | mapUpdate t m k v | entryStore t m k v =>
    rw [ho] at h
    simp only [h m (by simp [Op.operands]), h k (by simp [Op.operands]), h v (by simp [Op.operands])]
  | store t a v | binOp op t a v yt | makeSlice t a v | indexAddr t a v | index t a v | lookup t a v c | mapEntry t a v =>
    rw [ho] at h
    simp only [h a (by simp [Op.operands]), h v (by simp [Op.operands])]
  | send a v =>
    rw [ho] at h
    simp only [h a (by simp [Op.operands]), h v (by simp [Op.operands])]
  | alloc e | ready g | waits g => rfl
  | move x | assign x | box e x | load t x | nilCheck x | unOp op t x | convert s d x | sliceToArrayPointer d x | makeInterface t x | makeChan t x | fieldAddr t x f | field t x f | range t x | next x b | entry x | typeAssert x s d c | extract x i | panic x | recv t x c =>
    rw [ho] at h
    simp only [h x (by simp [Op.operands])]

/-! ### The classes -/
def nilB : Operand → Bool
  | .const (.pointer none) | .const (.map none) | .const .nilFunc => true
  | _ => false
def plainPtr (P : Program) (t : TypeId) : Bool := match P.underlying t with | some (.pointer _) | some (.map _ _) | some (.func _ _ _) => true | _ => false
def fieldSizedB (P : Program) (s : TypeId) (f : Nat) : Bool :=
  match P.underlying s with
  | some (.struct fs) => match fs[f]? with | some fd => (match P.info? fd.type with | some i => i.size != 0 | none => true) | none => true
  | _ => true
def lenB (P : Program) (ts : Array TypeId) : Bool := match ts[0]? with | some t => (match P.underlying t with | some (.slice _) | some .string => true | _ => false) | none => false
/-- It only computes. -/
def pureB (P : Program) (o : Oper) : Bool :=
  match o.op with
  | .move _ | .assign _ | .pick _ _ _ | .extract _ _ | .makeFunc _ _ _ | .makeInterface _ _ | .nilCheck _ | .field _ _ _ | .indexAddr _ _ _ => true
  | .unOp .not _ _ => true
  | .fieldAddr s _ f => fieldSizedB P s f
  | .call { callee := .builtin .len, args := _, argTypes := ts } => lenB P ts
  | .binOp op t _ y _ => (op == .eql || op == .neq) && nilB y && plainPtr P t
  | _ => false
/-- It only reads. -/
def readB (o : Oper) : Bool := match o.op with | .load _ _ => true | _ => false
/-- It only makes a block. -/
def newB (o : Oper) : Bool := match o.op with | .box _ _ | .buildSlice _ _ _ | .alloc _ => true | _ => false

section
variable {P : Program}
/-- It answers a value, the world is as it was, and it answers alike in every world. -/
def WFV (P : Program) (s : Sem Next) : Prop := ∀ w r w1, s.run P w = .ok r w1 → w1 = w ∧ (∃ v, r = .value v) ∧ ∀ w', s.run P w' = .ok r w'
theorem WFV.v {s : Sem Value} (h : WF P s) : WFV P (do pure (Next.value (← s))) := by
  intro w r w1 e
  have hb : WF P (do pure (Next.value (← s))) := WF.bind h fun _ => WF.pure' _
  obtain ⟨h1, h2⟩ := hb w r w1 e
  refine ⟨h1, ?_, h2⟩
  rw [Sem.run_bind] at e
  cases hs : s.run P w with
  | halt x w2 => rw [hs] at e; cases e
  | ok a w2 => rw [hs] at e; cases e; exact ⟨a, rfl⟩
theorem WFV.val (v : Value) : WFV P (pure (Next.value v)) := fun w r w1 e => by cases e; exact ⟨rfl, ⟨v, rfl⟩, fun _ => rfl⟩
theorem WFV.never {s : Sem Next} (h : ∀ w r w1, s.run P w ≠ .ok r w1) : WFV P s := fun w r w1 e => absurd e (h w r w1)
theorem WFV.bind {α : Type} {s : Sem α} {f : α → Sem Next} (h : WF P s) (hf : ∀ a, WFV P (f a)) : WFV P (s >>= f) := by
  intro w r w1 e
  have h2 := WF.bind h (fun a => (fun w r w1 e => ⟨(hf a w r w1 e).1, (hf a w r w1 e).2.2⟩ : WF P (f a))) w r w1 e
  refine ⟨h2.1, ?_, h2.2⟩
  rw [Sem.run_bind] at e
  cases hs : s.run P w with
  | halt x w2 => rw [hs] at e; cases e
  | ok a w2 => rw [hs] at e; exact (hf a w2 r w1 e).2.1

theorem wf_field (t : TypeId) (x : Value) (f : Nat) : WF P (Instr.field t x f) := by
  unfold Instr.field
  refine WF.bind (WF.underlying _) fun d => ?_
  split
  · split
    · exact WF.bind (WF.asAgg _) fun _ => WF.part _ _ _
    · exact WF.stuck _
  · exact WF.stuck _
theorem underlying_ok {t : TypeId} {d : TypeDesc} {w w1 : World} (h : (underlying t).run P w = .ok d w1) : P.underlying t = some d := by
  cases hu : P.underlying t with
  | none => simp [underlying, hu] at h
  | some d' => simp [underlying, hu] at h; rw [h.1]
theorem sizeOf_ok {t n : Nat} {w w1 : World} (h : (sizeOf t).run P w = .ok n w1) : ∃ i, P.info? t = some i ∧ i.size = n := by
  cases hu : P.info? t with
  | none => simp [sizeOf, typeInfo, hu] at h
  | some i => simp [sizeOf, typeInfo, hu] at h; exact ⟨i, rfl, h.1⟩
theorem wf_fieldPlace {a : Addr} {f : Field} (h : ∀ i, P.info? f.type = some i → i.size ≠ 0) : WF P (fieldPlace a f) := by
  unfold fieldPlace
  refine WF.bind_of (WF.sizeOf _) fun n w hn => ?_
  obtain ⟨i, hi, rfl⟩ := sizeOf_ok hn
  rw [if_neg (h i hi)]
  exact WF.pure' _
theorem wf_fieldAt {s : TypeId} {x : Value} {f : Nat} (h : fieldSizedB P s f = true) : WF P (Instr.fieldAt s x f) := by
  unfold Instr.fieldAt
  refine WF.bind_of (WF.underlying _) fun d w hd => ?_
  have hu := underlying_ok hd
  split
  · split
    · rename_i fs fd hfd
      refine WF.bind (WF.sureAddr _) fun a => WF.bind (wf_fieldPlace fun i hi => ?_) fun _ => WF.pure' _
      simpa [fieldSizedB, hu, hfd, hi] using h
    · exact WF.stuck _
  · exact WF.stuck _
theorem wf_indexAt (t : TypeId) (x i : Value) : WF P (Instr.indexAt t x i) := by
  unfold Instr.indexAt
  refine WF.bind (WF.asIntOf _) fun ki => WF.bind (WF.underlying _) fun d => ?_
  dsimp only
  split
  · refine WF.bind (WF.sureAddr _) fun a => WF.bind (WF.pure' _) fun y => WF.bind (WF.underlying _) fun d2 => ?_
    split
    · exact WF.ite (WF.bind (WF.sizeOf _) fun _ => WF.pure' _) (WF.ite (WF.unsupported _) (WF.never (never_bounds _ _ _ _)))
    · exact WF.never (never_bounds _ _ _ _)
  · refine WF.bind (WF.pure' _) fun y => WF.bind (WF.underlying _) fun d2 => ?_
    split
    · exact WF.ite (WF.bind (WF.sizeOf _) fun _ => WF.pure' _) (WF.ite (WF.unsupported _) (WF.never (never_bounds _ _ _ _)))
    · exact WF.never (never_bounds _ _ _ _)
  · exact WF.bind (WF.stuck _) fun _ => WF.bind (WF.underlying _) fun d2 => by
      split
      · exact WF.ite (WF.bind (WF.sizeOf _) fun _ => WF.pure' _) (WF.ite (WF.unsupported _) (WF.never (never_bounds _ _ _ _)))
      · exact WF.never (never_bounds _ _ _ _)
theorem wf_len {ts : Array TypeId} {ty : TypeId} {args : Array Value} (h : lenB P ts = true) : WF P (Builtin.len_ ts ty args) := by
  unfold lenB at h
  split at h
  · rename_i t ht
    split at h
    · rename_i e he
      unfold Builtin.len_
      rw [ht]
      split
      · rename_i x1 x2 heq
        simp only [Prod.mk.injEq, Option.some.injEq] at heq
        obtain ⟨rfl, _⟩ := heq
        refine WF.bind_of (WF.underlying _) fun d w hd => ?_
        obtain rfl := Option.some.inj (he.symm.trans (underlying_ok hd))
        split
        all_goals first | exact WF.pure' _ | exact WF.stuck _ | (exfalso; simp_all; done)
      · exact WF.stuck _
    · rename_i he
      unfold Builtin.len_
      rw [ht]
      split
      · rename_i x1 x2 heq
        simp only [Prod.mk.injEq, Option.some.injEq] at heq
        obtain ⟨rfl, _⟩ := heq
        refine WF.bind_of (WF.underlying _) fun d w hd => ?_
        obtain rfl := Option.some.inj (he.symm.trans (underlying_ok hd))
        split
        all_goals first | exact WF.pure' _ | exact WF.stuck _ | (exfalso; simp_all; done)
      · exact WF.stuck _
    · cases h
  · cases h
theorem wf_eqNil {t : TypeId} {x y : Value} (hy : y = .pointer none ∨ y = .map none ∨ y = .nilFunc) (ht : plainPtr P t = true) : WF P (Op.equal t x y) := by
  unfold plainPtr at ht
  unfold Op.equal
  show WF P (Op.equalIn (9999 + 1) t x y)
  unfold Op.equalIn
  refine WF.bind_of (WF.underlying _) fun d w hd => ?_
  rw [underlying_ok hd] at ht
  rcases hy with rfl | rfl | rfl
  all_goals
    cases d <;> simp only [Bool.false_eq_true] at ht <;> cases x <;> first | exact WF.pure' _ | exact WF.stuck _ | (split <;> first | exact WF.pure' _ | exact WF.stuck _ | (exfalso; simp_all; done))
end
end Go.Proofs.Ytflinpnmpkdopaa
