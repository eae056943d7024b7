/- Own texts of this claim, joined in build order: Free, Free2, Free3, Free4, Free5. -/
import Derived.Tactics
import Derived.WalkKit
set_option linter.all false
namespace Go.Proofs.YtooigfkjdemnlaaGreatDoor
open Go.RowKit

/-! ### What does not look at the world -/
def WF {α : Type} (P : Program) (s : Sem α) : Prop := ∀ w r w1, s.run P w = .ok r w1 → w1 = w ∧ ∀ w', s.run P w' = .ok r w'

section
variable {α β : Type} {P : Program}
theorem WF.pure (a : α) : WF P (Sem.pure a) := fun w r w1 h => by cases h; exact ⟨rfl, fun _ => rfl⟩
theorem WF.pure' (a : α) : WF P (Pure.pure a : Sem α) := WF.pure a
theorem WF.halt (h : Halt) : WF P (Sem.halt h : Sem α) := fun w r w1 e => by cases e
theorem WF.never {s : Sem α} (h : ∀ w r w1, s.run P w ≠ .ok r w1) : WF P s := fun w r w1 e => absurd e (h w r w1)
theorem WF.program {k : Program → Sem α} (h : WF P (k P)) : WF P (Sem.program k) := fun w r w1 e => h w r w1 e
theorem WF.bind {s : Sem α} {f : α → Sem β} (h : WF P s) (hf : ∀ a, WF P (f a)) : WF P (s >>= f) := by
  intro w r w1 e
  rw [Sem.run_bind] at e
  cases hs : s.run P w with
  | halt x w2 => rw [hs] at e; cases e
  | ok a w2 =>
    rw [hs] at e
    obtain ⟨rfl, h2⟩ := h w a w2 hs
    obtain ⟨rfl, h3⟩ := hf a w2 r w1 e
    exact ⟨rfl, fun w' => by rw [Sem.run_bind, h2 w']; exact h3 w'⟩
theorem WF.bind_of {s : Sem α} {f : α → Sem β} (h : WF P s) (hf : ∀ a w, s.run P w = .ok a w → WF P (f a)) : WF P (s >>= f) := by
  intro w r w1 e
  rw [Sem.run_bind] at e
  cases hs : s.run P w with
  | halt x w2 => rw [hs] at e; cases e
  | ok a w2 =>
    rw [hs] at e
    obtain ⟨rfl, h2⟩ := h w a w2 hs
    obtain ⟨rfl, h3⟩ := hf a w2 hs w2 r w1 e
    exact ⟨rfl, fun w' => by rw [Sem.run_bind, h2 w']; exact h3 w'⟩
theorem WF.ite {c : Prop} [Decidable c] {s t : Sem α} (hs : WF P s) (ht : WF P t) : WF P (if c then s else t) := by split <;> assumption
theorem WF.stuck (why : String) : WF P (Go.stuck why : Sem α) := WF.halt _
theorem WF.unsupported (u : Unsupported) : WF P (Go.unsupported u : Sem α) := WF.halt _
theorem WF.prog : WF P Go.program := WF.program (WF.pure _)
theorem WF.typeInfo (t : TypeId) : WF P (Go.typeInfo t) := WF.bind WF.prog fun p => by split <;> first | exact WF.pure' _ | exact WF.stuck _
theorem WF.underlying (t : TypeId) : WF P (Go.underlying t) := WF.bind WF.prog fun p => by split <;> first | exact WF.pure' _ | exact WF.stuck _
theorem WF.sizeOf (t : TypeId) : WF P (Go.sizeOf t) := WF.bind (WF.typeInfo t) fun _ => WF.pure' _
theorem WF.isAgg (t : TypeId) : WF P (Go.isAgg t) := WF.bind (WF.underlying t) fun _ => by split <;> exact WF.pure' _
theorem WF.part (t : TypeId) (cs : Array Value) (off : Nat) : WF P (Go.part t cs off) :=
  WF.bind (WF.isAgg t) fun b => by
    split
    · exact WF.bind (WF.sizeOf t) fun _ => WF.pure' _
    · split <;> first | exact WF.pure' _ | exact WF.stuck _
theorem WF.asAgg (v : Value) : WF P (Go.asAgg v) := by unfold Go.asAgg; split <;> first | exact WF.pure' _ | exact WF.stuck _
theorem WF.asBool (v : Value) : WF P (Go.asBool v) := by unfold Go.asBool; split <;> first | exact WF.pure' _ | exact WF.stuck _
theorem WF.asIntOf (v : Value) : WF P (Go.asIntOf v) := by unfold Go.asIntOf; split <;> first | exact WF.pure' _ | exact WF.stuck _ | exact WF.unsupported _
theorem WF.sureAddr (v : Value) : WF P (Instr.sureAddr v) := by unfold Instr.sureAddr; split <;> first | exact WF.pure' _ | exact WF.stuck _
theorem never_bind {s : Sem α} {f : α → Sem β} (hf : ∀ a w r w1, (f a).run P w ≠ .ok r w1) : ∀ w r w1, (s >>= f).run P w ≠ .ok r w1 := by
  intro w r w1 e
  rw [Sem.run_bind] at e
  cases hs : s.run P w with
  | halt x w2 => rw [hs] at e; cases e
  | ok a w2 => rw [hs] at e; exact hf a _ _ _ e
theorem never_panic (v : Value) : ∀ w r w1, (goPanic v : Sem α).run P w ≠ .ok r w1 := fun w r w1 e => by cases e
theorem never_runtime (x : RuntimeError) : ∀ w r w1, (runtimePanic x : Sem α).run P w ≠ .ok r w1 := by
  unfold runtimePanic
  refine never_bind fun p => ?_
  split
  all_goals first | exact never_panic _ | (refine never_bind fun _ => ?_; first | exact never_panic _ | (refine never_bind fun _ => ?_; first | exact never_panic _ | (refine never_bind fun _ => ?_; exact never_panic _)))
theorem never_bounds (k : IntKind) (x y : Int) (c : BoundsCode) : ∀ w r w1, (boundsPanic k x y c : Sem α).run P w ≠ .ok r w1 := by
  unfold boundsPanic
  dsimp only
  split
  · exact never_bind fun _ => never_runtime _
  · exact never_bind fun _ => never_runtime _
theorem WF.followBlind : ∀ (l : List FieldStep) (t : TypeId) (x : Option Value), WF P (Go.followBlind l t x)
  | [], _, _ => WF.pure' _
  | s :: rest, _, x => by
    unfold Go.followBlind
    refine WF.bind (WF.underlying _) fun d => ?_
    split
    · split
      · split
        all_goals first | exact WF.pure' _ | exact WF.stuck _ | exact WF.followBlind rest _ _ | exact WF.bind (WF.part _ _ _) fun _ => WF.followBlind rest _ _
      · exact WF.stuck _
    · exact WF.stuck _
theorem WF.nilAhead : ∀ (n : Nat) (t : TypeId) (v : Value) (m : String), WF P (Go.nilAhead n t v m)
  | 0, _, _, _ => WF.pure' _
  | n + 1, t, v, m => by
    unfold Go.nilAhead
    refine WF.bind (WF.typeInfo _) fun i => ?_
    split
    · refine WF.bind (WF.followBlind _ _ _) fun x => ?_
      split
      · exact WF.pure' _
      · split
        all_goals first | exact WF.pure' _ | exact WF.stuck _ | exact WF.nilAhead n _ _ _ | (refine WF.bind (WF.underlying _) fun _ => ?_; split <;> first | exact WF.pure' _ | exact WF.stuck _ | (split <;> first | exact WF.pure' _ | exact WF.stuck _))
    · exact WF.stuck _
end
end Go.Proofs.YtooigfkjdemnlaaGreatDoor

namespace Go.Proofs.YtooigfkjdemnlaaGreatDoor
open Go.RowKit

def selB (o : Oper) : Bool := match o.op with | .select _ _ => true | _ => false

theorem exec_congr {ρ σ : Operand → Value} (o : Oper) (hs : selB o = false) (h : ∀ x ∈ o.op.operands, ρ x = σ x) : execOp ρ o = execOp σ o := by
  unfold execOp
  cases ho : o.op with
  | call c =>
    rw [ho] at h
    simp only [Op.operands, Call.operands] at h
    have ha : c.args.map ρ = c.args.map σ := Array.map_congr_left fun x hx => h x (by simp [hx])
    have hr : resolve ρ c o.type = resolve σ c o.type := by
      unfold resolve
      cases hc : c.callee with
      | builtin b => simp only [ha]
      | invoke r n => simp only [ha, h r (by simp [hc])]
      | value f => simp only [ha, h f (by simp [hc])]
    simp only [hr]
  | go c =>
    rw [ho] at h
    simp only [Op.operands, Call.operands] at h
    have ha : c.args.map ρ = c.args.map σ := Array.map_congr_left fun x hx => h x (by simp [hx])
    have hr : resolve ρ c o.type = resolve σ c o.type := by
      unfold resolve
      cases hc : c.callee with
      | builtin b => simp only [ha]
      | invoke r n => simp only [ha, h r (by simp [hc])]
      | value f => simp only [ha, h f (by simp [hc])]
    simp only [hr]
  | defer c =>
    rw [ho] at h
    simp only [Op.operands, Call.operands] at h
    have ha : c.args.map ρ = c.args.map σ := Array.map_congr_left fun x hx => h x (by simp [hx])
    have hr : resolve ρ c o.type = resolve σ c o.type := by
      unfold resolve
      cases hc : c.callee with
      | builtin b => simp only [ha]
      | invoke r n => simp only [ha, h r (by simp [hc])]
      | value f => simp only [ha, h f (by simp [hc])]
    simp only [hr]
  | build t ps =>
    rw [ho] at h
    have : ps.map (fun x => (x.1, ρ x.2)) = ps.map (fun x => (x.1, σ x.2)) := Array.map_congr_left fun x hx => by
      rw [h x.2 (by simp only [Op.operands]; simp only [List.mem_toArray, List.mem_map]; exact ⟨x, by simpa using hx, rfl⟩)]
    simp only [this]
  | buildSlice t n ps =>
    rw [ho] at h
    have : ps.map (fun x => (x.1, ρ x.2)) = ps.map (fun x => (x.1, σ x.2)) := Array.map_congr_left fun x hx => by
      rw [h x.2 (by simp only [Op.operands]; simp only [List.mem_toArray, List.mem_map]; exact ⟨x, by simpa using hx, rfl⟩)]
    simp only [this]
  | makeFunc f a b =>
    rw [ho] at h
    simp only [Op.operands] at h
    have h1 : a.map ρ = a.map σ := Array.map_congr_left fun x hx => h x (by simp [hx])
    have h2 : b.map ρ = b.map σ := Array.map_congr_left fun x hx => h x (by simp [hx])
    simp only [h1, h2]
  | makeMap t r =>
    rw [ho] at h
    cases r with
    | none => rfl
    | some x => simp only [Option.map_some, h x (by simp [Op.operands])]
  | slice t x lo hi mx =>
    rw [ho] at h
    have h0 := h x (by simp [Op.operands])
    have h1 : lo.map ρ = lo.map σ := by cases lo with | none => rfl | some y => simp only [Option.map_some, h y (by simp [Op.operands])]
    have h2 : hi.map ρ = hi.map σ := by cases hi with | none => rfl | some y => simp only [Option.map_some, h y (by simp [Op.operands])]
    have h3 : mx.map ρ = mx.map σ := by cases mx with | none => rfl | some y => simp only [Option.map_some, h y (by simp [Op.operands])]
    simp only [h0, h1, h2, h3]
  | select cs b =>
    simp [selB, ho] at hs
  | pick c a b =>
    rw [ho] at h
    simp only [h c (by simp [Op.operands]), h a (by simp [Op.operands]), h b (by simp [Op.operands])]
  | insert t m k v | mapUpdate t m k v | entryStore t m k v =>
    rw [ho] at h
    simp only [h m (by simp [Op.operands]), h k (by simp [Op.operands]), h v (by simp [Op.operands])]
  | store t a v | binOp op t a v yt | makeSlice t a v | indexAddr t a v | index t a v | lookup t a v c | mapEntry t a v =>
    rw [ho] at h
    simp only [h a (by simp [Op.operands]), h v (by simp [Op.operands])]
  | send a v =>
    rw [ho] at h
    simp only [h a (by simp [Op.operands]), h v (by simp [Op.operands])]
  | alloc e | ready g | waits g => rfl
  | move x | assign x | box e x | load t x | nilCheck x | unOp op t x | convert s d x | sliceToArrayPointer d x | makeInterface t x | makeChan t x | fieldAddr t x f | field t x f | range t x | next x b | entry x | typeAssert x s d c | extract x i | panic x | recv t x c =>
    rw [ho] at h
    simp only [h x (by simp [Op.operands])]

/-! ### The classes -/
def nilB : Operand → Bool
  | .const (.pointer none) | .const (.map none) | .const .nilFunc => true
  | _ => false
def plainPtr (P : Program) (t : TypeId) : Bool := match P.underlying t with | some (.pointer _) | some (.map _ _) | some (.func _ _ _) => true | _ => false
def fieldSizedB (P : Program) (s : TypeId) (f : Nat) : Bool :=
  match P.underlying s with
  | some (.struct fs) => match fs[f]? with | some fd => (match P.info? fd.type with | some i => i.size != 0 | none => true) | none => true
  | _ => true
def lenB (P : Program) (ts : Array TypeId) : Bool := match ts[0]? with | some t => (match P.underlying t with | some (.slice _) | some .string => true | _ => false) | none => false
def pureB (P : Program) (o : Oper) : Bool :=
  match o.op with
  | .move _ | .assign _ | .pick _ _ _ | .extract _ _ | .makeFunc _ _ _ | .makeInterface _ _ | .nilCheck _ | .field _ _ _ | .indexAddr _ _ _ => true
  | .unOp .not _ _ => true
  | .fieldAddr s _ f => fieldSizedB P s f
  | .call { callee := .builtin .len, args := _, argTypes := ts } => lenB P ts
  | .binOp op t _ y _ => (op == .eql || op == .neq) && nilB y && plainPtr P t
  | _ => false
def strMapB (P : Program) (t : TypeId) : Bool := match P.underlying t with
  | some (.map k _) => (match P.underlying k with | some .string => true | _ => false)
  | _ => false
def readB (P : Program) (o : Oper) : Bool := match o.op with | .load _ _ => true | .lookup t _ _ _ => strMapB P t | _ => false
def newB (o : Oper) : Bool := match o.op with | .box _ _ | .buildSlice _ _ _ | .alloc _ => true | _ => false

section
variable {P : Program}
def WFV (P : Program) (s : Sem Next) : Prop := ∀ w r w1, s.run P w = .ok r w1 → w1 = w ∧ (∃ v, r = .value v) ∧ ∀ w', s.run P w' = .ok r w'
theorem WFV.v {s : Sem Value} (h : WF P s) : WFV P (do pure (Next.value (← s))) := by
  intro w r w1 e
  have hb : WF P (do pure (Next.value (← s))) := WF.bind h fun _ => WF.pure' _
  obtain ⟨h1, h2⟩ := hb w r w1 e
  refine ⟨h1, ?_, h2⟩
  rw [Sem.run_bind] at e
  cases hs : s.run P w with
  | halt x w2 => rw [hs] at e; cases e
  | ok a w2 => rw [hs] at e; cases e; exact ⟨a, rfl⟩
theorem WFV.val (v : Value) : WFV P (pure (Next.value v)) := fun w r w1 e => by cases e; exact ⟨rfl, ⟨v, rfl⟩, fun _ => rfl⟩
theorem WFV.never {s : Sem Next} (h : ∀ w r w1, s.run P w ≠ .ok r w1) : WFV P s := fun w r w1 e => absurd e (h w r w1)
theorem WFV.bind {α : Type} {s : Sem α} {f : α → Sem Next} (h : WF P s) (hf : ∀ a, WFV P (f a)) : WFV P (s >>= f) := by
  intro w r w1 e
  have h2 := WF.bind h (fun a => (fun w r w1 e => ⟨(hf a w r w1 e).1, (hf a w r w1 e).2.2⟩ : WF P (f a))) w r w1 e
  refine ⟨h2.1, ?_, h2.2⟩
  rw [Sem.run_bind] at e
  cases hs : s.run P w with
  | halt x w2 => rw [hs] at e; cases e
  | ok a w2 => rw [hs] at e; exact (hf a w2 r w1 e).2.1

theorem wf_field (t : TypeId) (x : Value) (f : Nat) : WF P (Instr.field t x f) := by
  unfold Instr.field
  refine WF.bind (WF.underlying _) fun d => ?_
  split
  · split
    · exact WF.bind (WF.asAgg _) fun _ => WF.part _ _ _
    · exact WF.stuck _
  · exact WF.stuck _
theorem underlying_ok {t : TypeId} {d : TypeDesc} {w w1 : World} (h : (underlying t).run P w = .ok d w1) : P.underlying t = some d := by
  cases hu : P.underlying t with
  | none => simp [underlying, hu] at h
  | some d' => simp [underlying, hu] at h; rw [h.1]
theorem sizeOf_ok {t n : Nat} {w w1 : World} (h : (sizeOf t).run P w = .ok n w1) : ∃ i, P.info? t = some i ∧ i.size = n := by
  cases hu : P.info? t with
  | none => simp [sizeOf, typeInfo, hu] at h
  | some i => simp [sizeOf, typeInfo, hu] at h; exact ⟨i, rfl, h.1⟩
theorem wf_fieldPlace {a : Addr} {f : Field} (h : ∀ i, P.info? f.type = some i → i.size ≠ 0) : WF P (fieldPlace a f) := by
  unfold fieldPlace
  refine WF.bind_of (WF.sizeOf _) fun n w hn => ?_
  obtain ⟨i, hi, rfl⟩ := sizeOf_ok hn
  rw [if_neg (h i hi)]
  exact WF.pure' _
theorem wf_fieldAt {s : TypeId} {x : Value} {f : Nat} (h : fieldSizedB P s f = true) : WF P (Instr.fieldAt s x f) := by
  unfold Instr.fieldAt
  refine WF.bind_of (WF.underlying _) fun d w hd => ?_
  have hu := underlying_ok hd
  split
  · split
    · rename_i fs fd hfd
      refine WF.bind (WF.sureAddr _) fun a => WF.bind (wf_fieldPlace fun i hi => ?_) fun _ => WF.pure' _
      simpa [fieldSizedB, hu, hfd, hi] using h
    · exact WF.stuck _
  · exact WF.stuck _
theorem wf_indexAt (t : TypeId) (x i : Value) : WF P (Instr.indexAt t x i) := by
  unfold Instr.indexAt
  refine WF.bind (WF.asIntOf _) fun ki => WF.bind (WF.underlying _) fun d => ?_
  dsimp only
  split
  · refine WF.bind (WF.sureAddr _) fun a => WF.bind (WF.pure' _) fun y => WF.bind (WF.underlying _) fun d2 => ?_
    split
    · exact WF.ite (WF.bind (WF.sizeOf _) fun _ => WF.pure' _) (WF.ite (WF.unsupported _) (WF.never (never_bounds _ _ _ _)))
    · exact WF.never (never_bounds _ _ _ _)
  · refine WF.bind (WF.pure' _) fun y => WF.bind (WF.underlying _) fun d2 => ?_
    split
    · exact WF.ite (WF.bind (WF.sizeOf _) fun _ => WF.pure' _) (WF.ite (WF.unsupported _) (WF.never (never_bounds _ _ _ _)))
    · exact WF.never (never_bounds _ _ _ _)
  · exact WF.bind (WF.stuck _) fun _ => WF.bind (WF.underlying _) fun d2 => by
      split
      · exact WF.ite (WF.bind (WF.sizeOf _) fun _ => WF.pure' _) (WF.ite (WF.unsupported _) (WF.never (never_bounds _ _ _ _)))
      · exact WF.never (never_bounds _ _ _ _)
theorem wf_len {ts : Array TypeId} {ty : TypeId} {args : Array Value} (h : lenB P ts = true) : WF P (Builtin.len_ ts ty args) := by
  unfold lenB at h
  split at h
  · rename_i t ht
    split at h
    · rename_i e he
      unfold Builtin.len_
      rw [ht]
      split
      · rename_i x1 x2 heq
        simp only [Prod.mk.injEq, Option.some.injEq] at heq
        obtain ⟨rfl, _⟩ := heq
        refine WF.bind_of (WF.underlying _) fun d w hd => ?_
        obtain rfl := Option.some.inj (he.symm.trans (underlying_ok hd))
        split
        all_goals first | exact WF.pure' _ | exact WF.stuck _ | (exfalso; simp_all; done)
      · exact WF.stuck _
    · rename_i he
      unfold Builtin.len_
      rw [ht]
      split
      · rename_i x1 x2 heq
        simp only [Prod.mk.injEq, Option.some.injEq] at heq
        obtain ⟨rfl, _⟩ := heq
        refine WF.bind_of (WF.underlying _) fun d w hd => ?_
        obtain rfl := Option.some.inj (he.symm.trans (underlying_ok hd))
        split
        all_goals first | exact WF.pure' _ | exact WF.stuck _ | (exfalso; simp_all; done)
      · exact WF.stuck _
    · cases h
  · cases h
theorem wf_eqNil {t : TypeId} {x y : Value} (hy : y = .pointer none ∨ y = .map none ∨ y = .nilFunc) (ht : plainPtr P t = true) : WF P (Op.equal t x y) := by
  unfold plainPtr at ht
  unfold Op.equal
  show WF P (Op.equalIn (9999 + 1) t x y)
  unfold Op.equalIn
  refine WF.bind_of (WF.underlying _) fun d w hd => ?_
  rw [underlying_ok hd] at ht
  rcases hy with rfl | rfl | rfl
  all_goals
    cases d <;> simp only [Bool.false_eq_true] at ht <;> cases x <;> first | exact WF.pure' _ | exact WF.stuck _ | (split <;> first | exact WF.pure' _ | exact WF.stuck _ | (exfalso; simp_all; done))
end
end Go.Proofs.YtooigfkjdemnlaaGreatDoor

namespace Go.Proofs.YtooigfkjdemnlaaGreatDoor
open Go.RowKit
section
variable {P : Program}

theorem binOp_eql {t : TypeId} {X v : Value} (hv : v = .pointer none ∨ v = .map none ∨ v = .nilFunc) : binOp .eql t X v = (do pure (.bool (← Op.equal t X v))) := by
  rcases hv with rfl | rfl | rfl <;> cases X <;> rfl
theorem binOp_neq {t : TypeId} {X v : Value} (hv : v = .pointer none ∨ v = .map none ∨ v = .nilFunc) : binOp .neq t X v = (do pure (.bool (!(← Op.equal t X v)))) := by
  rcases hv with rfl | rfl | rfl <;> cases X <;> rfl
theorem eqGuard_nil {op : BinOp} {t : TypeId} {x y : Operand} {X v : Value} (hop : op = .eql ∨ op = .neq) (hv : v = .pointer none ∨ v = .map none ∨ v = .nilFunc) : eqGuard op t x y X v = pure () := by
  rcases hop with rfl | rfl <;> rcases hv with rfl | rfl | rfl <;> cases X <;> rfl

theorem exec_pure {o : Oper} (h : pureB P o = true) (a : Act) : WFV P (execOp a.eval o) := by
  unfold pureB at h
  unfold execOp
  split at h
  case h_1 x he => rw [he]; exact WFV.val _
  case h_2 x he => rw [he]; exact WFV.val _
  case h_3 c a b he =>
    rw [he]
    refine WFV.bind (WF.asBool _) fun b => WFV.val _
  case h_4 x i he =>
    rw [he]
    refine WFV.v ?_
    unfold Instr.extract
    split
    · split <;> first | exact WF.pure' _ | exact WF.stuck _
    · exact WF.stuck _
  case h_5 f a b he => rw [he]; exact WFV.v (WF.pure' _)
  case h_6 t x he =>
    rw [he]
    refine WFV.v ?_
    unfold Instr.makeInterface
    refine WF.bind (WF.underlying _) fun d => ?_
    split <;> first | exact WF.pure' _ | exact WF.stuck _
  case h_7 x he =>
    rw [he]
    dsimp only
    split
    · exact WFV.never (never_runtime _)
    · exact WFV.never (never_runtime _)
    · exact WFV.never (never_runtime _)
    · split
      · exact WFV.never (never_runtime _)
      · refine WFV.bind WF.prog fun p => WFV.bind (WF.nilAhead _ _ _ _) fun r => ?_
        split
        · exact WFV.bind (WF.unsupported _) fun _ => WFV.val _
        · exact WFV.val _
      · exact WFV.val _
    · exact WFV.val _
  case h_8 t x f he => rw [he]; exact WFV.v (wf_field _ _ _)
  case h_9 t x i he => rw [he]; exact WFV.v (wf_indexAt _ _ _)
  case h_10 t x he =>
    rw [he]
    refine WFV.v ?_
    unfold Op.unary
    split
    all_goals first | exact WF.pure' _ | exact WF.unsupported _ | exact WF.stuck _ | (exfalso; simp_all; done)
  case h_11 s x f he => rw [he]; exact WFV.v (wf_fieldAt h)
  case h_12 as ts he =>
    rw [he]
    simp only [resolve, invoke]
    exact WFV.v (wf_len h)
  case h_13 op t x y yt he =>
    rw [he]
    simp only [Bool.and_eq_true, Bool.or_eq_true, beq_iff_eq] at h
    obtain ⟨⟨hop, hy⟩, ht⟩ := h
    have hyv : ∃ v, y = .const v ∧ (v = .pointer none ∨ v = .map none ∨ v = .nilFunc) := by
      unfold nilB at hy
      split at hy
      · exact ⟨_, rfl, .inl rfl⟩
      · exact ⟨_, rfl, .inr (.inl rfl)⟩
      · exact ⟨_, rfl, .inr (.inr rfl)⟩
      · cases hy
    obtain ⟨v, rfl, hv⟩ := hyv
    have he1 : a.eval (.const v) = v := rfl
    refine WFV.v ?_
    rw [he1, eqGuard_nil hop hv]
    refine WF.bind (WF.pure' _) fun _ => ?_
    rcases hop with rfl | rfl
    · rw [binOp_eql hv]; exact WF.bind (wf_eqNil hv ht) fun _ => WF.pure' _
    · rw [binOp_neq hv]; exact WF.bind (wf_eqNil hv ht) fun _ => WF.pure' _
  case h_14 => cases h
end
end Go.Proofs.YtooigfkjdemnlaaGreatDoor

namespace Go.Proofs.YtooigfkjdemnlaaGreatDoor
open Go.RowKit
section
variable {P : Program} {α β : Type}

def RD (P : Program) (s : Sem α) : Prop := ∀ w r w1, s.run P w = .ok r w1 → w1 = w ∧ ∀ o, s.run P (w.alloc o) = .ok r (w.alloc o)
theorem RD.of_wf {s : Sem α} (h : WF P s) : RD P s := fun w r w1 e => ⟨(h w r w1 e).1, fun o => (h w r w1 e).2 _⟩
theorem RD.bind {s : Sem α} {f : α → Sem β} (h : RD P s) (hf : ∀ a, RD P (f a)) : RD P (s >>= f) := by
  intro w r w1 e
  rw [Sem.run_bind] at e
  cases hs : s.run P w with
  | halt x w2 => rw [hs] at e; cases e
  | ok a w2 =>
    rw [hs] at e
    obtain ⟨rfl, h2⟩ := h w a w2 hs
    obtain ⟨rfl, h3⟩ := hf a w2 r w1 e
    exact ⟨rfl, fun o => by rw [Sem.run_bind, h2 o]; exact h3 o⟩
theorem heap_none_of_ge {w : World} {i : Nat} (h : ¬ i < w.heap.size) : w.heap[i]? = none := Array.getElem?_eq_none (by omega)
theorem seen_alloc {w : World} {at_ : Addr} {u : TypeId} {k : Addr} {b : Bool} (o : Obj) {r} (h : w.seen P at_ u k b = .ok r) : (w.alloc o).seen P at_ u k b = .ok r := by
  by_cases hb : at_.block < w.heap.size
  · have he : (w.alloc o).heap[at_.block]? = w.heap[at_.block]? := heap_alloc_old w o hb
    rw [← h]
    unfold World.seen
    rw [he]
  · exfalso
    unfold World.seen at h
    rw [heap_none_of_ge hb] at h
    simp only [bind, Except.bind, pure, Except.pure, throw, throwThe, MonadExceptOf.throw] at h
    repeat' split at h
    all_goals first | cases h | (simp_all; done)
theorem farLoad_alloc {w : World} {a : Addr} {b : Bool} (o : Obj) {r} (h : w.farLoad P a b = .ok r) : (w.alloc o).cell? a = none ∧ (w.alloc o).farLoad P a b = .ok r := by
  by_cases hb : a.block < w.heap.size
  · have he : (w.alloc o).heap[a.block]? = w.heap[a.block]? := heap_alloc_old w o hb
    unfold World.farLoad at h ⊢
    unfold World.cell?
    rw [he]
    split at h
    · rename_i at_ u hv
      rw [hv]
      refine ⟨rfl, ?_⟩
      unfold World.viewLoad at h ⊢
      cases hs : w.seen P at_ u a b with
      | error e =>
        rw [hs] at h
        simp only [bind, Except.bind] at h
        cases h
      | ok x =>
        rw [hs] at h
        rw [seen_alloc o hs]
        exact h
    · cases h
  · exfalso
    unfold World.farLoad at h
    rw [heap_none_of_ge hb] at h
    cases h
theorem RD.load (a : Addr) : RD P (Go.load a) := by
  intro w r w1 e
  have e' : (Sem.load .plain a Sem.pure : Sem Value).run P w = .ok r w1 := e
  simp only [Sem.run] at e'
  cases hc : w.cell? a with
  | some v =>
    rw [hc] at e'
    cases e'
    refine ⟨rfl, fun o => ?_⟩
    have hb : a.block < w.heap.size := by
      rcases Nat.lt_or_ge a.block w.heap.size with h | h
      · exact h
      · unfold World.cell? at hc
        rw [heap_none_of_ge (by omega)] at hc
        cases hc
    show (Sem.load .plain a Sem.pure : Sem Value).run P (w.alloc o) = _
    simp only [Sem.run]
    rw [World.cell?_alloc_lt w o a hb, hc]
  | none =>
    rw [hc] at e'
    dsimp only at e'
    split at e'
    · rename_i v t hv
      cases e'
      refine ⟨rfl, fun o => ?_⟩
      obtain ⟨h1, h2⟩ := farLoad_alloc o hv
      show (Sem.load .plain a Sem.pure : Sem Value).run P (w.alloc o) = _
      simp only [Sem.run]
      rw [h1]
      dsimp only
      rw [h2]
    · cases e'
theorem RD.loadCellsFrom (a : Addr) : ∀ (n i : Nat) (acc : Array Value), RD P (Go.loadCellsFrom a i n acc)
  | 0, _, _ => RD.of_wf (WF.pure' _)
  | n + 1, i, acc => RD.bind (RD.load _) fun v => RD.loadCellsFrom a n (i + 1) (acc.push v)
theorem RD.loadVar (t : TypeId) (a : Addr) : RD P (Go.loadVar t a) := by
  unfold Go.loadVar
  refine RD.bind (RD.of_wf (WF.isAgg _)) fun b => ?_
  split
  · exact RD.bind (RD.of_wf (WF.sizeOf _)) fun n => RD.bind (RD.loadCellsFrom a n 0 #[]) fun c => RD.of_wf (WF.pure' _)
  · exact RD.load _
theorem RD.getObj (r : Nat) : RD P (Go.getObj r) := by
  intro w x w1 e
  simp only [Go.getObj, Sem.run] at e ⊢
  cases hh : w.heap[r]? with
  | none => rw [hh] at e; cases e
  | some o =>
    rw [hh] at e
    have hlt : r < w.heap.size := by
      rcases Nat.lt_or_ge r w.heap.size with h | h
      · exact h
      · rw [Array.getElem?_eq_none h] at hh; cases hh
    have ha : ∀ o', (w.alloc o').heap[r]? = some o := fun o' => by rw [← hh]; exact heap_alloc_old w o' hlt
    cases o <;> first | (cases e; exact ⟨rfl, fun o' => by rw [ha o']⟩) | cases e
theorem wf_checkKey_str {t : TypeId} (h : P.underlying t = some .string) (e : Bool) (n : Nat) (v : Value) : WF P (Instr.checkKey e (n + 1) t v) := by
  intro w r w1 hr
  have : ∀ w, (Instr.checkKey e (n + 1) t v).run P w = .ok () w := fun w => by
    unfold Instr.checkKey
    simp only [Sem.run_bind, run_underlying h, Result.andThen]
    rfl
  rw [this] at hr
  cases hr
  exact ⟨rfl, fun w' => this w'⟩
def equalStr (x y : Value) : Sem Bool := match x, y with
  | .string a, .string b => pure (a == b)
  | _, _ => stuck "==: the operands do not fit the type, or the type is not comparable"
theorem equalIn_str {t : TypeId} (h : P.underlying t = some .string) (x y : Value) (n : Nat) (w : World) : (Op.equalIn (n + 1) t x y).run P w = (equalStr x y).run P w := by
  rw [Op.equalIn, Sem.run_bind, run_underlying h w]
  cases x <;> first | rfl | (cases y <;> rfl)
theorem wf_equal_str {t : TypeId} (h : P.underlying t = some .string) (x y : Value) : WF P (Op.equal t x y) := by
  intro w r w1 hr
  have h2 : ∀ w, (Op.equal t x y).run P w = (equalStr x y).run P w := fun w => equalIn_str h x y 9999 w
  rw [h2] at hr
  have hw : WF P (equalStr x y) := by unfold equalStr; split <;> first | exact WF.pure' _ | exact WF.stuck _
  obtain ⟨h3, h4⟩ := hw w r w1 hr
  exact ⟨h3, fun w' => by rw [h2]; exact h4 w'⟩
theorem wf_findAsking_str {t : TypeId} (h : P.underlying t = some .string) (k : Value) : ∀ (es : List MapEntry) (i : Nat), WF P (Instr.findAsking t k es i)
  | [], i => WF.pure' _
  | e :: es, i => by
    unfold Instr.findAsking
    exact WF.bind (wf_equal_str h _ _) fun b => by split <;> first | exact WF.pure' _ | exact wf_findAsking_str h k es (i + 1)
theorem wf_findKey_str {t : TypeId} (h : P.underlying t = some .string) (k : Value) (es : List MapEntry) : WF P (Instr.findKey t k es) := by
  unfold Instr.findKey
  exact WF.bind (WF.underlying _) fun d => by split <;> first | exact WF.pure' _ | exact wf_findAsking_str h k es 0
theorem wf_zeroValue (t : TypeId) : WF P (Go.zeroValue t) := WF.bind (WF.typeInfo t) fun i => by split <;> first | exact WF.pure' _ | exact WF.unsupported _
theorem rd_lookup {t : TypeId} (h : strMapB P t = true) (m k : Value) (ok : Bool) : RD P (Instr.lookup t m k ok) := by
  unfold strMapB at h
  split at h
  · rename_i kt et hm
    split at h
    · rename_i hs
      have body : ∀ es : Array MapEntry, RD P (do
          Instr.checkKey es.isEmpty 10000 kt k
          let (v, ok') ← match ← Instr.findKey kt k es.toList with
            | some (_, v) => pure (v, true)
            | none => pure (← Go.zeroValue et, false)
          pure (if ok then .tuple #[v, .bool ok'] else v)) := by
        intro es
        refine RD.bind (RD.of_wf (wf_checkKey_str hs _ 9999 _)) fun _ => RD.bind (RD.of_wf (wf_findKey_str hs _ _)) fun r => ?_
        cases r with
        | some iv => cases ok <;> exact RD.of_wf (WF.pure' _)
        | none => cases ok <;> exact RD.bind (RD.of_wf (wf_zeroValue _)) fun _ => RD.of_wf (WF.pure' _)
      have hrw : ∀ (f : TypeDesc → Sem Value) (w : World), (underlying t >>= f).run P w = (f (.map kt et)).run P w := fun f w => by
        rw [Sem.run_bind, run_underlying hm]; rfl
      intro w r w1 e
      unfold Instr.lookup at e ⊢
      rw [hrw] at e
      have goal : RD P ((fun d : TypeDesc => (do
          let .map key elem := d | stuck "Lookup: map type expected"
          let es ← match m with
            | .map none => pure #[]
            | .map (some r) => do
              let .map es _ ← Go.getObj r | stuck "Lookup: map expected"
              pure es
            | _ => stuck "Lookup: map expected"
          Instr.checkKey es.isEmpty 10000 key k
          let (v, ok') ← match ← Instr.findKey key k es.toList with
            | some (_, v) => pure (v, true)
            | none => pure (← Go.zeroValue elem, false)
          pure (if ok then .tuple #[v, .bool ok'] else v) : Sem Value)) (.map kt et)) := by
        dsimp only
        split
        · exact body #[]
        · refine RD.bind (RD.getObj _) fun o => ?_
          split
          · exact body _
          · exact fun w r w1 e => by cases e
        · exact fun w r w1 e => by cases e
      obtain ⟨h1, h2⟩ := goal w r w1 e
      exact ⟨h1, fun o => by rw [hrw]; exact h2 o⟩
    · cases h
  · cases h
theorem rd_next {s : Sem Value} (hr : RD P s) : ∀ w r w1, (do pure (Next.value (← s)) : Sem Next).run P w = .ok r w1 → w1 = w ∧ (∃ v, r = .value v) ∧ ∀ o', (do pure (Next.value (← s)) : Sem Next).run P (w.alloc o') = .ok r (w.alloc o') := by
  have hr2 : RD P (do pure (Next.value (← s)) : Sem Next) := RD.bind hr fun _ => RD.of_wf (WF.pure' _)
  intro w r w1 e
  refine ⟨(hr2 w r w1 e).1, ?_, (hr2 w r w1 e).2⟩
  rw [Sem.run_bind] at e
  cases hs : s.run P w with
  | halt x w2 => rw [hs] at e; cases e
  | ok a w2 => rw [hs] at e; cases e; exact ⟨a, rfl⟩
theorem exec_read {o : Oper} (h : readB P o = true) (ρ : Operand → Value) : ∀ w r w1, (execOp ρ o).run P w = .ok r w1 → w1 = w ∧ (∃ v, r = .value v) ∧ ∀ o', (execOp ρ o).run P (w.alloc o') = .ok r (w.alloc o') := by
  unfold readB at h
  split at h
  · rename_i t x he
    unfold execOp
    rw [he]
    exact rd_next (RD.bind (RD.of_wf (WF.sureAddr _)) fun a => RD.loadVar t a)
  · rename_i t x k ok he
    unfold execOp
    rw [he]
    exact rd_next (rd_lookup h _ _ _)
  · cases h

def NW (P : Program) (s : Sem α) : Prop := ∀ w r w1, s.run P w = .ok r w1 → ∃ o, w1 = w.alloc o
theorem NW.bind_wf {s : Sem α} {f : α → Sem β} (h : WF P s) (hf : ∀ a, NW P (f a)) : NW P (s >>= f) := by
  intro w r w1 e
  rw [Sem.run_bind] at e
  cases hs : s.run P w with
  | halt x w2 => rw [hs] at e; cases e
  | ok a w2 =>
    rw [hs] at e
    obtain ⟨rfl, h2⟩ := h w a w2 hs
    exact hf a w2 r w1 e
theorem NW.then_wf {s : Sem α} {f : α → Sem β} (h : NW P s) (hf : ∀ a, WF P (f a)) : NW P (s >>= f) := by
  intro w r w1 e
  rw [Sem.run_bind] at e
  cases hs : s.run P w with
  | halt x w2 => rw [hs] at e; cases e
  | ok a w2 =>
    rw [hs] at e
    obtain ⟨o, rfl⟩ := h w a w2 hs
    obtain ⟨rfl, _⟩ := hf a _ r w1 e
    exact ⟨o, rfl⟩
theorem NW.newObj (o : Obj) : NW P (Go.newObj o) := fun w r w1 e => by
  have e' : Result.ok w.heap.size { w with heap := w.heap.push o } = Result.ok r w1 := e
  cases e'
  exact ⟨o, rfl⟩
theorem NW.newRow (t : TypeId) (cs : Array Value) : NW P (Go.newRow t cs) := NW.then_wf (NW.newObj _) fun _ => WF.pure' _
theorem WF.zeroValue (t : TypeId) : WF P (Go.zeroValue t) := WF.bind (WF.typeInfo t) fun i => by split <;> first | exact WF.pure' _ | exact WF.unsupported _
theorem nw_buildSlice (t : TypeId) (n : Nat) (ps : Array (Nat × Value)) : NW P (Instr.buildSlice t n ps) := by
  unfold Instr.buildSlice
  refine NW.bind_wf (WF.underlying _) fun d => ?_
  split
  · refine NW.bind_wf (WF.sizeOf _) fun s => ?_
    dsimp only
    split
    · exact NW.bind_wf (WF.unsupported _) fun _ => by
        split
        · refine NW.bind_wf (WF.pure' _) fun z => ?_
          split
          · exact NW.then_wf (NW.newRow _ _) fun _ => WF.pure' _
          · exact fun w r w1 e => by cases e
        · refine NW.bind_wf (WF.zeroValue _) fun z0 => NW.bind_wf (WF.pure' _) fun z => ?_
          split
          · exact NW.then_wf (NW.newRow _ _) fun _ => WF.pure' _
          · exact fun w r w1 e => by cases e
    · split
      · refine NW.bind_wf (WF.pure' _) fun z => ?_
        split
        · exact NW.then_wf (NW.newRow _ _) fun _ => WF.pure' _
        · exact fun w r w1 e => by cases e
      · refine NW.bind_wf (WF.zeroValue _) fun z0 => NW.bind_wf (WF.pure' _) fun z => ?_
        split
        · exact NW.then_wf (NW.newRow _ _) fun _ => WF.pure' _
        · exact fun w r w1 e => by cases e
  · exact fun w r w1 e => by cases e
theorem exec_new {o : Oper} (h : newB o = true) (ρ : Operand → Value) : ∀ w r w1, (execOp ρ o).run P w = .ok r w1 → (∃ o', w1 = w.alloc o') ∧ ∃ v, r = .value v := by
  unfold newB at h
  split at h
  · rename_i t x he
    unfold execOp
    rw [he]
    have hr : NW P (Instr.box t (ρ x)) := NW.then_wf (NW.newRow _ _) fun _ => WF.pure' _
    intro w r w1 e
    refine ⟨(NW.then_wf hr fun _ => WF.pure' _) w r w1 e, ?_⟩
    rw [Sem.run_bind] at e
    cases hs : (Instr.box t (ρ x)).run P w with
    | halt x w2 => rw [hs] at e; cases e
    | ok a w2 => rw [hs] at e; cases e; exact ⟨a, rfl⟩
  · rename_i t n ps he
    unfold execOp
    rw [he]
    intro w r w1 e
    refine ⟨(NW.then_wf (nw_buildSlice _ _ _) fun _ => WF.pure' _) w r w1 e, ?_⟩
    dsimp only at e
    rw [Sem.run_bind] at e
    cases hs : (Instr.buildSlice t n (ps.map fun x => (x.1, ρ x.2))).run P w with
    | halt x w2 => rw [hs] at e; cases e
    | ok a w2 => rw [hs] at e; cases e; exact ⟨a, rfl⟩
  · rename_i t he
    unfold execOp
    rw [he]
    have hr : NW P (Instr.alloc t true (.tuple #[])) := by
      unfold Instr.alloc
      exact NW.bind_wf (WF.zeroValue _) fun z => NW.then_wf (NW.newRow _ _) fun _ => WF.pure' _
    intro w r w1 e
    refine ⟨(NW.then_wf hr fun _ => WF.pure' _) w r w1 e, ?_⟩
    rw [Sem.run_bind] at e
    cases hs : (Instr.alloc t true (.tuple #[])).run P w with
    | halt x w2 => rw [hs] at e; cases e
    | ok a w2 => rw [hs] at e; cases e; exact ⟨a, rfl⟩
  · cases h
end
end Go.Proofs.YtooigfkjdemnlaaGreatDoor

namespace Go.Proofs.YtooigfkjdemnlaaGreatDoor
open Go.RowKit

def St (P : Program) (ops : Array Oper) (Q : Exit → Act → World → Prop) (o : Oper) (a : Act) (w : World) (N : Act → World → Prop) : Prop :=
  if Region.wanted o (yielded ops a.tmps) then o.wp P a w N Q else N (a.put o.dst undef) w

def Plainly (Q : Exit → Act → World → Prop) : Prop := ∀ e a w, Q e a w → e = .normal

def looksAt (ops : Array Oper) (o : Oper) (t : Tmp) : Prop :=
  (.tmp t ∈ o.op.operands) ∨ (∃ j b, o.guard = some (j, b) ∧ (ops[j]?).bind (·.dst) = some t)

section
variable {P : Program} {ops : Array Oper} {Q : Exit → Act → World → Prop}

theorem getD_set_ne {α : Type} (xs : Array α) {i j : Nat} (v d : α) (h : i ≠ j) : (xs.setIfInBounds i v).getD j d = xs.getD j d := by
  simp only [Array.getD_eq_getD_getElem?, Array.getElem?_setIfInBounds, if_neg h]
theorem eval_put {a : Act} {d : Option Tmp} {v : Value} {x : Operand} (h : ∀ t, d = some t → x ≠ .tmp t) : (a.put d v).eval x = a.eval x := by
  cases d with
  | none => rfl
  | some t =>
    cases x with
    | tmp u =>
      have : t ≠ u := fun e => h t rfl (by rw [e])
      exact getD_set_ne _ _ _ this
    | const v => rfl
    | global g => rfl
    | func f => rfl
theorem exec_put {o : Oper} (hs : selB o = false) {a : Act} {d : Option Tmp} {v : Value} (h : ∀ t, d = some t → .tmp t ∉ o.op.operands) : execOp (a.put d v).eval o = execOp a.eval o :=
  exec_congr o hs fun x hx => eval_put fun t ht e => h t ht (e ▸ hx)
theorem wanted_put {o : Oper} {a : Act} {d : Option Tmp} {v : Value} (h : ∀ t j b, d = some t → o.guard = some (j, b) → (ops[j]?).bind (·.dst) ≠ some t) : Region.wanted o (yielded ops (a.put d v).tmps) = Region.wanted o (yielded ops a.tmps) := by
  unfold Region.wanted
  cases hg : o.guard with
  | none => rfl
  | some jb =>
    obtain ⟨j, b⟩ := jb
    have : yielded ops (a.put d v).tmps j = yielded ops a.tmps j := by
      unfold yielded
      cases hd : (ops[j]?).bind (·.dst) with
      | none => rfl
      | some t =>
        cases d with
        | none => rfl
        | some u =>
          have hne : u ≠ t := fun e => h u j b rfl hg (by rw [hd, e])
          simp only [Option.bind_some, Act.put, Array.getElem?_setIfInBounds, if_neg hne]
    dsimp only
    rw [this]
theorem put_comm {a : Act} {d e : Option Tmp} {u v : Value} (h : ∀ t, d = some t → e ≠ some t) : (a.put d u).put e v = (a.put e v).put d u := by
  cases d with
  | none => cases e <;> rfl
  | some t =>
    cases e with
    | none => rfl
    | some s =>
      have hne : t ≠ s := fun e => h t rfl (by rw [e])
      simp only [Act.put]
      rw [Array.setIfInBounds_comm _ _ hne]

structure Apart2 (ops : Array Oper) (x y : Oper) : Prop where
  dst : ∀ t, x.dst = some t → y.dst ≠ some t
  xy : ∀ t, x.dst = some t → ¬ looksAt ops y t
  yx : ∀ t, y.dst = some t → ¬ looksAt ops x t

theorem Apart2.symm {x y : Oper} (h : Apart2 ops x y) : Apart2 ops y x := ⟨fun t h1 h2 => h.dst t h2 h1, h.yx, h.xy⟩

theorem upon_mono {o : Oper} {a : Act} {N N' : Act → World → Prop} {r : Result Next} (h : ∀ a w, N a w → N' a w) (hr : o.upon P a N Q r) : o.upon P a N' Q r := by
  unfold Oper.upon at hr ⊢
  split at hr
  · exact h _ _ hr
  · exact h _ _ hr
  · exact h _ _ hr
  · exact hr.mono fun e w' he => by cases e <;> first | exact h _ _ he | exact he
  · exact hr.mono fun v w' he => h _ _ he
  · exact hr
  · exact hr
theorem St.mono {o : Oper} {a : Act} {w : World} {N N' : Act → World → Prop} (h : ∀ a w, N a w → N' a w) (hs : St P ops Q o a w N) : St P ops Q o a w N' := by
  unfold St at hs ⊢
  split
  · rename_i hw; rw [if_pos hw] at hs; exact upon_mono h hs
  · rename_i hw; rw [if_neg hw] at hs; exact h _ _ hs

theorem St.frame (hQ : Plainly Q) {o : Oper} (hs : selB o = false) {a : Act} {w : World} {d : Option Tmp} {v : Value} {N : Act → World → Prop} (hl : ∀ t, d = some t → ¬ looksAt ops o t) (hd : ∀ t, d = some t → o.dst ≠ some t) :
    St P ops Q o (a.put d v) w N ↔ St P ops Q o a w (fun b w' => N (b.put d v) w') := by
  have hw : Region.wanted o (yielded ops (a.put d v).tmps) = Region.wanted o (yielded ops a.tmps) := wanted_put fun t j b ht hg e => hl t ht (.inr ⟨j, b, hg, e⟩)
  have he : execOp (a.put d v).eval o = execOp a.eval o := exec_put hs fun t ht hm => hl t ht (.inl hm)
  have hc : ∀ (b : Act) (u : Value), (b.put d v).put o.dst u = (b.put o.dst u).put d v := fun b u => put_comm fun t ht => hd t ht
  unfold St
  rw [hw]
  split
  · unfold Oper.wp
    rw [he]
    cases hr : (execOp a.eval o).run P w with
    | ok x w1 =>
      cases x with
      | value u => simp only [Oper.upon_value, hc]
      | skip => simp only [Oper.upon_skip, hc]
      | defer dd =>
        have : ({ a.put d v with defers := dd :: (a.put d v).defers } : Act).put o.dst undef = (({ a with defers := dd :: a.defers } : Act).put o.dst undef).put d v := by
          rw [← hc]
          cases d <;> rfl
        simp only [Oper.upon_defer, this]
      | enter f args =>
        simp only [Oper.upon_enter]
        constructor
        · intro h
          refine h.mono fun e w' h' => ?_
          cases e with
          | returned u => dsimp only at h' ⊢; rw [hc] at h'; exact h'
          | panicked c => exact absurd (hQ _ _ _ h') (by simp)
          | outgrown => exact h'
        · intro h
          refine h.mono fun e w' h' => ?_
          cases e with
          | returned u => dsimp only at h' ⊢; rw [hc]; exact h'
          | panicked c => exact absurd (hQ _ _ _ h') (by simp)
          | outgrown => exact h'
      | row r args => simp only [Oper.upon_row, hc]
      | _ => exact Iff.rfl
    | halt x w1 =>
      cases x with
      | panic u =>
        simp only [Oper.upon_panic]
        exact ⟨fun h => absurd (hQ _ _ _ h) (by simp), fun h => absurd (hQ _ _ _ h) (by simp)⟩
      | _ => exact Iff.rfl
  · rw [hc]
end
end Go.Proofs.YtooigfkjdemnlaaGreatDoor
