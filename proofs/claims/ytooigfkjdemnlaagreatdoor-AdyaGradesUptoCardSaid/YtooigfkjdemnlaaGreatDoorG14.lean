/- Own texts of this claim, joined in build order: Rf, Fr. -/
import Derived.Test.YtooigfkjdemnlaaGreatDoorG03
import Derived.RangeFuncNested
import Derived.RangeFuncBound
import Derived.RangeFuncCalls
import Derived.RangeFuncLeaves
import Derived.RangeFuncWrites
import Derived.Shelf.Abstract
import Derived.Shelf.RegionOpen
import Derived.OwnWalkIn
import Derived.TacticsInMore
import Derived.LoopNIn
import Derived.LoopIn
import Derived.Maps.OwnIn
import Derived.Test.YtooigfkjdemnlaaGreatDoorG05
set_option linter.all false
namespace Go.Proofs.YtooigfkjdemnlaaGreatDoor
open Go.RowKit Xw Go.Shelf
attribute [local go_sem] Oper.semAt_some

@[go_sem, simp] theorem wide_fn (f : FuncId) : Fence.wide.fn f = True := rfl
@[go_sem, simp] theorem wide_round_fn (l : Nat) (f : FuncId) : (Fence.wide.inRound l).fn f = True := rfl
def roundPost {α : Type} (B : Nat) (I0 : List α → Prop) (Ix : Code → List α → World → Prop) (xs : List α) (W : World) : Exit → Act → World → Prop
  | .normal, _, W' => Below W.heap.size W W' ∧ I0 xs
  | .ret, _, W' => KeepsFrom B W W' ∧ Ix .ret xs W'
  | .exit id, _, W' => KeepsFrom B W W' ∧ Ix (.exit id) xs W'
  | .goto t, _, W' => KeepsFrom B W W' ∧ Ix (.goto t) xs W'
  | .panic _, _, _ => False
  | .outgrown, _, _ => False

theorem keepsFrom_below {B : Nat} {W W' : World} (h : Below W.heap.size W W') : KeepsFrom B W W' :=
  ⟨h.size, fun k o _ hk _ => (h.block k (lt_of_heap hk)).trans hk⟩
theorem round_own {α : Type} {B : Nat} {w : World} {I0 : List α → Prop} {Ix : Code → List α → World → Prop} {xs : List α} {W : World} (hW : Below w.heap.size w W) :
    ∀ (e : Exit) (a : Act) (W' : World), roundPost B I0 Ix xs W e a W' → ownPostG B (Below w.heap.size) (fun pre W => I0 pre ∧ Below w.heap.size w W) Ix xs W e a W'
  | .normal, _, _, h => ⟨keepsFrom_below h.1, h.1.mono hW.size, h.2, hW.trans (h.1.mono hW.size)⟩
  | .ret, _, _, h => h
  | .exit _, _, _, h => h
  | .goto _, _, _, h => h
  | .panic _, _, _, h => h
  | .outgrown, _, _, h => h

theorem wp_range_fn {α : Type} {P : Program} {n : Nat} {g : Operand} {p d id : Nat} {ty : TypeId} {pos : String} {body : Code} {Q : Exit → Act → World → Prop} {a : Act} {w : World} (h1 : 1 ≤ n) {gf : Nat} {lb : Array Value}
    (hp : p < a.tmps.size) (hg : a.eval g = .func (.func gf) #[] lb) (eg : ∀ args w, (callFunc gf args).run P w = .ok (.enter gf args) w) {enc : α → Value} {S Sp : List α → Prop} {N : Nat}
    (hseq : SeqStopsK Fence.wide (n - 1) P gf lb (fun x => #[enc x]) (Below w.heap.size) S Sp N w)
    (I0 : List α → Prop) (Ix : Code → List α → World → Prop) (hIx : ∀ c, OwnFrom w.heap.size (Ix c)) (h0 : I0 [])
    (hbody : ∀ (l : Nat) (pre : List α) (x : α) (W : World), I0 pre → Below w.heap.size w W → pre.length < N →
      body.wpIn (Fence.wide.inRound l) (n - 1 - 1) P (roundPost w.heap.size I0 Ix (pre ++ [x]) W) { tmps := (a.tmps.setIfInBounds p (enc x)).setIfInBounds d (enc x), defers := [] } W)
    (hdone : ∀ (D : Nat) (xs : List α) (W : World), w.heap.size ≤ D → S xs → I0 xs → Below w.heap.size w W → W.heap[D]? = some (.deferred (some [])) → Q .normal { a with defers := { target := .collected D, args := #[] } :: a.defers } W)
    (hstop : ∀ (D : Nat) (c : Code) (pre : List α) (W : World), w.heap.size ≤ D → Sp pre → Ix c pre W → W.heap[D]? = some (.deferred (some [])) → c.wpIn Fence.wide n P Q { a with defers := { target := .collected D, args := #[] } :: a.defers } W) :
    (Code.rangeFunc g #[p] (.region id #[{ dst := some d, op := .assign (.tmp p), type := ty, pos := pos, after := #[], guard := none }] false) body).wpIn Fence.wide n P Q a w := by
  refine wpIn_rangeFunc_ownG rfl h1 hg trivial eg hseq belowK_t (belowK_b (Nat.le_refl _)) (Below.refl _ _) (fun _ => rfl)
    (fun pre W => I0 pre ∧ Below w.heap.size w W) Ix ?_ hIx ⟨h0, Below.refl _ _⟩
    (fun x => { tmps := (a.tmps.setIfInBounds p (enc x)).setIfInBounds d (enc x), defers := [] }) ?assign ?body ?done hstop
  · intro s W W' row hs hg hr
    refine ⟨hs.1, hs.2.trans ((Below.refl _ W).grown hg hs.2.size (fun k e => (hr k e).1))⟩
  case assign =>
    intro l x W K hK
    refine wpIn_region_lit ?_
    gi_wp2
    first | exact hK | (all_goals first | exact hK | (exfalso; omega))
  case body =>
    rintro l pre x W ⟨hi, hB⟩ hl
    exact Code.wpIn_mono (round_own hB) (hbody l pre x W hi hB hl)
  case done =>
    rintro D xs W hD hS ⟨hi, hB⟩ hK
    exact hdone D xs W hD hS hi hB hK

section
variable {K : Type} [DecidableEq K] {P : Program} {kt : TypeId} {L : List (K × Value)} {w : World} {b : Nat} {ops : Array Oper} {rest : List Oper} {o : Oper} {a : Act} {Q : Exit → Act → World → Prop} {F : Fence} {n : Nat}
theorem wpListIn_lookup_k (E : KeyEnc P kt K) (m x : Operand) (t et : TypeId) (hop : o.op = .lookup t m x false) (hw : Region.wanted o (yielded ops a.tmps) = true) (ht : P.underlying t = some (.map kt et)) (z : Value) (hz : ∀ w, (zeroValue et).run P w = .ok z w)
    (b : Nat) (k : K) (hm : a.eval m = .map (some b)) (hx : a.eval x = E.enc k) (h : KMap E.enc w b L) (hK : wpListIn F n P ops Q rest (a.put o.dst ((kget L k).getD z)) w) : wpListIn F n P ops Q (o :: rest) a w := by
  refine wpListIn_step fun K' hK' => ?_
  rw [if_pos hw]
  have hrun := run_lookup_kmap E ht (hz w) h k false
  unfold Oper.wpIn
  refine ⟨by simp [Oper.about, hop], ?_⟩
  rw [Oper.semAt_plain F _ _ (by rw [hop]; intro c hc'; cases hc')]
  simp [execOp, hop, hm, hx, hrun, Result.andThen]
  exact hK' _ _ hK
end
end Go.Proofs.YtooigfkjdemnlaaGreatDoor

namespace Go.Proofs.YtooigfkjdemnlaaGreatDoor
open Go.RowKit Go.Shelf
theorem rowsIn_round {P : Program} {row : String} {args : Array Value} {w : World} {R : Value → World → Prop} {n k : Nat} (h : _root_.Go.Rows P row args w R) : RowsIn (Fence.wide.inRound k) n P row args w R :=
  fun c cs _ => let ⟨v, w', r, s⟩ := h c cs; ⟨v, w', r, stepsIn_wide.2 s⟩
section
variable {P : Program} {ops : Array Oper} {Q Q0 : Exit → Act → World → Prop} {n k : Nat}
theorem wpOpsIn_of (hq : ∀ e a w, Q0 e a w → Q e a w) (hl : ¬ LetsOut Q0) (hd : ∀ (i : Nat) (o : Oper), ops[i]? = some o → ∀ c, o.op ≠ Op.defer c) :
    ∀ (L : List Nat) (a : Act) (w : World), wpOps P ops Q0 L a w → wpOpsIn (Fence.wide.inRound k) n P ops Q L a w
  | [], a, w, h => hq _ _ _ h
  | i :: rest, a, w, h => by
    simp only [wpOps] at h
    simp only [wpOpsIn]
    cases ho : ops[i]? with
    | none => rw [ho] at h; exact wpOpsIn_of hq hl hd rest a w h
    | some o =>
      rw [ho] at h
      dsimp only at h ⊢
      split at h
      · rename_i hw
        rw [if_pos hw]
        rcases h with h | ⟨_, h⟩
        · unfold Oper.wp at h
          refine ⟨fun f _ => trivial, ?_⟩
          rw [Oper.semAt_eq _ _ _ (hd i o ho)]
          cases hs : (execOp a.eval o).run P w with
          | halt x w' =>
            rw [hs] at h
            cases x <;> simp only [Oper.upon] at h
            exact hq _ _ _ h
          | ok nx w' =>
            rw [hs] at h
            cases nx <;> simp only [Oper.upon] at h
            case value v => exact wpOpsIn_of hq hl hd rest _ _ h
            case skip => exact wpOpsIn_of hq hl hd rest _ _ h
            case defer d => exact wpOpsIn_of hq hl hd rest _ _ h
            case enter f args =>
              refine ⟨fun h => (by cases h), CallsIn.inRound k (callsIn_wide.2 (h.mono fun e w'' he => ?_))⟩
              cases e with
              | returned v => exact wpOpsIn_of hq hl hd rest _ _ he
              | panicked c => exact hq _ _ _ he
              | outgrown => exact absurd he hl
            case row r args =>
              refine ⟨fun h => (by cases h), ?_⟩
              exact (rowsIn_round h).mono fun v w'' he => wpOpsIn_of hq hl hd rest _ _ he
        · exact absurd h hl
      · rename_i hw
        rw [if_neg hw]
        exact ⟨fun f _ => trivial, wpOpsIn_of hq hl hd rest _ _ h⟩
def noDeferB (ops : Array Oper) : Bool := ops.all fun o => match o.op with | .defer _ => false | _ => true
theorem noDefer_of (h : noDeferB ops = true) : ∀ (i : Nat) (o : Oper), ops[i]? = some o → ∀ c, o.op ≠ Op.defer c := by
  intro i o ho c hc
  unfold noDeferB at h
  rw [Array.all_eq_true'] at h
  have := h o (Array.mem_of_getElem? ho)
  rw [hc] at this
  cases this
theorem wpIn_region_free {id : Nat} {l : List Oper} {a : Act} {w : World} (hf : freeB P l.toArray = true) (hd : noDeferB l.toArray = true)
    (h : ∀ K : Act → World → Prop, (∀ a w, Q .normal a w → K a w) → wpList P l.toArray (Exit.then K (fun _ _ _ => False)) l a w.drew) : (Code.region id l.toArray true).wpIn (Fence.wide.inRound k) n P Q a w := by
  refine wpIn_region_draw fun t => ?_
  exact wpOpsIn_of (Q0 := Exit.then (fun a w => Q .normal a w) (fun _ _ _ => False)) (fun e a w he => by cases e <;> first | exact he | exact he.elim) (fun ⟨a0, w0, h0⟩ => h0.elim) (noDefer_of hd) _ _ _ (wpOps_free hf (fun K hK => h K hK) t)
end
theorem wp_range_brk {α : Type} {P : Program} {n : Nat} {g : Operand} {p d id bid : Nat} {ty : TypeId} {pos : String} {body : Code} {Q : Exit → Act → World → Prop} {a : Act} {w : World} (h1 : 1 ≤ n) {gf : Nat} {lb : Array Value}
    (hp : p < a.tmps.size) (hg : a.eval g = .func (.func gf) #[] lb) (eg : ∀ args w, (callFunc gf args).run P w = .ok (.enter gf args) w) {enc : α → Value} {S Sp : List α → Prop} {N : Nat}
    (hseq : SeqStopsK Fence.wide (n - 1) P gf lb (fun x => #[enc x]) (Below w.heap.size) S Sp N w)
    (I0 : List α → Prop) (Ix : List α → World → Prop) (mid : Nat → World → Prop) (hIx : OwnFrom w.heap.size Ix) (h0 : I0 [])
    (hbody : ∀ (l : Nat) (pre : List α) (x : α) (W : World), I0 pre → Below w.heap.size w W → pre.length < N →
      body.wpIn (Fence.wide.inRound l) (n - 1 - 1) P (roundPost w.heap.size I0 (fun c xs W => c = .exit bid ∧ Ix xs W) (pre ++ [x]) W) { tmps := (a.tmps.setIfInBounds p (enc x)).setIfInBounds d (enc x), defers := [] } W)
    (hdone : ∀ (D : Nat) (xs : List α) (W : World), w.heap.size ≤ D → S xs → I0 xs → Below w.heap.size w W → W.heap[D]? = some (.deferred (some [])) → mid D W)
    (hstop : ∀ (D : Nat) (pre : List α) (W : World), w.heap.size ≤ D → Sp pre → Ix pre W → W.heap[D]? = some (.deferred (some [])) → mid D W)
    (hQ : ∀ a W, Q .normal a W → Q (.exit bid) a W)
    (hrest : ∀ (D : Nat) (W : World), mid D W → Q .normal { a with defers := { target := .collected D, args := #[] } :: a.defers } W) :
    (Code.rangeFunc g #[p] (.region id #[{ dst := some d, op := .assign (.tmp p), type := ty, pos := pos, after := #[], guard := none }] false) body).wpIn Fence.wide n P Q a w := by
  refine wp_range_fn h1 hp hg eg hseq I0 (fun c xs W => c = .exit bid ∧ Ix xs W) (fun c => ?_) h0 hbody (fun D xs W hD hS hI hB hK => hrest D W (hdone D xs W hD hS hI hB hK)) (fun D c pre W hD hS hI hK => ?_)
  · rintro s W W' row ⟨hc, hx⟩ hg hr
    exact ⟨hc, hIx s W W' row hx hg hr⟩
  · obtain ⟨rfl, hx⟩ := hI
    exact wpIn_wide.2 (wp_exit (hQ _ _ (hrest D W (hstop D pre W hD hS hx hK))))
end Go.Proofs.YtooigfkjdemnlaaGreatDoor
