/- Own texts of this claim, joined in build order: Free6, Free7, Free8, Free8b, Pp. -/
import Derived.Test.YtooigfkjdemnlaaGreatDoorG04
import Derived.Test.YtooigfkjdemnlaaGreatDoorG02
set_option linter.all false
namespace Go.Proofs.YtooigfkjdemnlaaGreatDoor
open Go.RowKit

def commB (P : Program) (x y : Oper) : Bool := pureB P x || pureB P y || (readB P x && readB P y) || (readB P x && newB y)

section
variable {P : Program} {ops : Array Oper} {Q : Exit → Act → World → Prop}

def Reached (a : Act) (o : Oper) (b : Act) : Prop := ∃ u ds, b = ({ a with defers := ds } : Act).put o.dst u

theorem St.with (hQ : Plainly Q) {o : Oper} {a : Act} {w : World} {N : Act → World → Prop} (h : St P ops Q o a w N) : St P ops Q o a w (fun b w' => Reached a o b ∧ N b w') := by
  unfold St at h ⊢
  split
  · rename_i hw
    rw [if_pos hw] at h
    unfold Oper.wp Oper.upon at h ⊢
    split at h
    · exact ⟨⟨_, _, rfl⟩, h⟩
    · exact ⟨⟨_, _, rfl⟩, h⟩
    · exact ⟨⟨_, _, rfl⟩, h⟩
    · exact h.mono fun e w' he => by cases e <;> first | exact ⟨⟨_, _, rfl⟩, he⟩ | exact he
    · exact h.mono fun v w' he => ⟨⟨_, _, rfl⟩, he⟩
    · exact h
    · exact h
  · rename_i hw
    rw [if_neg hw] at h
    exact ⟨⟨_, _, rfl⟩, h⟩
theorem St.some (hQ : Plainly Q) {o : Oper} {a : Act} {w : World} {N : Act → World → Prop} (h : St P ops Q o a w N) : ∃ b w', Reached a o b ∧ N b w' := by
  have h := h.with hQ
  unfold St at h
  split at h
  · unfold Oper.wp Oper.upon at h
    split at h
    · exact ⟨_, _, h⟩
    · exact ⟨_, _, h⟩
    · exact ⟨_, _, h⟩
    · obtain ⟨e, w', fr, hr, _⟩ := h []
      cases e with
      | returned v => exact ⟨_, _, hr⟩
      | panicked c => exact absurd (hQ _ _ _ hr) (by simp)
      | outgrown => obtain ⟨a0, w0, hq⟩ := hr; exact absurd (hQ _ _ _ hq) (by simp)
    · obtain ⟨v, w', hr, _⟩ := h default []
      exact ⟨_, _, hr⟩
    · exact absurd (hQ _ _ _ h) (by simp)
    · exact h.elim
  · exact ⟨_, _, h⟩

theorem reached_exec {x y : Oper} (hs : selB y = false) {a b : Act} (hr : Reached a x b) (h : ∀ t, x.dst = some t → ¬ looksAt ops y t) : execOp b.eval y = execOp a.eval y ∧ Region.wanted y (yielded ops b.tmps) = Region.wanted y (yielded ops a.tmps) := by
  obtain ⟨u, ds, rfl⟩ := hr
  have e1 : execOp (({ a with defers := ds } : Act).put x.dst u).eval y = execOp ({ a with defers := ds } : Act).eval y := exec_put hs fun t ht hm => h t ht (.inl hm)
  have e2 : execOp ({ a with defers := ds } : Act).eval y = execOp a.eval y := exec_congr y hs fun x _ => by cases x <;> rfl
  have e3 : Region.wanted y (yielded ops (({ a with defers := ds } : Act).put x.dst u).tmps) = Region.wanted y (yielded ops ({ a with defers := ds } : Act).tmps) := wanted_put fun t j b ht hg e => h t ht (.inr ⟨j, b, hg, e⟩)
  exact ⟨e1.trans e2, e3⟩

def Val (P : Program) (ops : Array Oper) (o : Oper) (a : Act) (w : World) (v : Value) (w1 : World) : Prop :=
  if Region.wanted o (yielded ops a.tmps) then (execOp a.eval o).run P w = .ok (.value v) w1 else v = undef ∧ w1 = w

theorem Val.st {o : Oper} {a : Act} {w w1 : World} {v : Value} {N : Act → World → Prop} (h : Val P ops o a w v w1) : St P ops Q o a w N ↔ N (a.put o.dst v) w1 := by
  unfold Val at h
  unfold St
  split
  · rename_i hw
    rw [if_pos hw] at h
    unfold Oper.wp
    rw [h]
    exact Iff.rfl
  · rename_i hw
    rw [if_neg hw] at h
    obtain ⟨rfl, rfl⟩ := h
    exact Iff.rfl
theorem Val.of_st (hQ : Plainly Q) {o : Oper} {a : Act} {w : World} {N : Act → World → Prop} (hv : ∀ w r w1, (execOp a.eval o).run P w = .ok r w1 → ∃ v, r = .value v) (h : St P ops Q o a w N) : ∃ v w1, Val P ops o a w v w1 := by
  unfold St at h
  unfold Val
  split at h
  · rename_i hw
    simp only [hw, if_true]
    unfold Oper.wp at h
    cases hr : (execOp a.eval o).run P w with
    | ok r w1 =>
      obtain ⟨v, rfl⟩ := hv _ _ _ hr
      exact ⟨v, w1, rfl⟩
    | halt x w1 =>
      rw [hr] at h
      cases x with
      | panic u => exact absurd (hQ _ _ _ h) (by simp)
      | _ => exact h.elim
  · rename_i hw
    simp only [hw]
    exact ⟨undef, w, rfl, rfl⟩
theorem Val.move {x o : Oper} (hs : selB o = false) {a b : Act} {w w1 : World} {v : Value} (hr : Reached a x b) (hl : ∀ t, x.dst = some t → ¬ looksAt ops o t) : Val P ops o b w v w1 ↔ Val P ops o a w v w1 := by
  obtain ⟨h1, h2⟩ := reached_exec hs hr hl
  unfold Val
  rw [h1, h2]
theorem Val.pure {o : Oper} (h : pureB P o = true) {a : Act} {w w1 : World} {v : Value} (hv : Val P ops o a w v w1) : w1 = w ∧ ∀ w', Val P ops o a w' v w' := by
  unfold Val at hv ⊢
  split at hv
  · rename_i hw
    obtain ⟨h1, _, h3⟩ := exec_pure h a w _ w1 hv
    exact ⟨h1, fun w' => by rw [if_pos hw]; exact h3 w'⟩
  · rename_i hw
    exact ⟨hv.2, fun w' => by rw [if_neg hw]; exact ⟨hv.1, rfl⟩⟩
theorem Val.read {o : Oper} (h : readB P o = true) {a : Act} {w w1 : World} {v : Value} (hv : Val P ops o a w v w1) : w1 = w ∧ ∀ o', Val P ops o a (w.alloc o') v (w.alloc o') := by
  unfold Val at hv ⊢
  split at hv
  · rename_i hw
    obtain ⟨h1, _, h3⟩ := exec_read h a.eval w _ w1 hv
    exact ⟨h1, fun o' => by rw [if_pos hw]; exact h3 o'⟩
  · rename_i hw
    exact ⟨hv.2, fun w' => by rw [if_neg hw]; exact ⟨hv.1, rfl⟩⟩
theorem Val.new {o : Oper} (h : newB o = true) {a : Act} {w w1 : World} {v : Value} (hv : Val P ops o a w v w1) : w1 = w ∨ ∃ o', w1 = w.alloc o' := by
  unfold Val at hv
  split at hv
  · exact .inr (exec_new h a.eval w _ w1 hv).1
  · exact .inl hv.2

theorem reached_put (a : Act) (o : Oper) (v : Value) : Reached a o (a.put o.dst v) := ⟨v, a.defers, rfl⟩

theorem St.swap (hQ : Plainly Q) {x y : Oper} (hx : selB x = false) (hy : selB y = false) (hap : Apart2 ops x y) (hc : commB P x y = true) {a : Act} {w : World} {N : Act → World → Prop}
    (h : St P ops Q x a w (fun b w' => St P ops Q y b w' N)) : St P ops Q y a w (fun b w' => St P ops Q x b w' N) := by
  unfold commB at hc
  simp only [Bool.or_eq_true, Bool.and_eq_true] at hc
  rcases hc with ((hp | hp) | ⟨hr1, hr2⟩) | ⟨hr1, hr2⟩
  · -- x only computes
    obtain ⟨v, w1, hv⟩ := Val.of_st hQ (fun w r w1 e => (exec_pure hp a w r w1 e).2.1) h
    obtain ⟨rfl, hall⟩ := hv.pure hp
    have h1 := (hv.st (Q := Q)).1 h
    have h2 := (St.frame hQ hy (fun t ht => hap.xy t ht) (fun t ht => hap.symm.dst t |> fun f e => f e ht)).1 h1
    refine (h2.with hQ).mono fun b w' ⟨hb, hn⟩ => ?_
    exact ((Val.move hx hb (fun t ht => hap.yx t ht)).2 (hall w')).st.2 hn
  · -- y only computes
    obtain ⟨b, w', hb, hn⟩ := h.some hQ
    obtain ⟨v, w1, hv⟩ := Val.of_st hQ (fun w r w1 e => (exec_pure hp b w r w1 e).2.1) hn
    have hva := (Val.move hy hb (fun t ht => hap.xy t ht)).1 hv
    obtain ⟨_, hall⟩ := hva.pure hp
    refine (hall w).st.2 ?_
    refine (St.frame hQ hx (fun t ht => hap.yx t ht) (fun t ht e => hap.dst t e ht)).2 ?_
    refine (h.with hQ).mono fun b' w'' ⟨hb', hn'⟩ => ?_
    exact ((Val.move hy hb' (fun t ht => hap.xy t ht)).2 (hall w'')).st.1 hn'
  · -- both only read
    obtain ⟨v, w1, hv⟩ := Val.of_st hQ (fun w r w1 e => (exec_read hr1 a.eval w r w1 e).2.1) h
    obtain ⟨rfl, _⟩ := hv.read hr1
    have h1 := (hv.st (Q := Q)).1 h
    obtain ⟨u, w2, hu⟩ := Val.of_st hQ (fun w r w1 e => (exec_read hr2 _ w r w1 e).2.1) h1
    obtain ⟨rfl, _⟩ := hu.read hr2
    have h2 := (hu.st (Q := Q)).1 h1
    have hua := (Val.move hy (reached_put a x v) (fun t ht => hap.xy t ht)).1 hu
    refine hua.st.2 ?_
    refine ((Val.move hx (reached_put a y u) (fun t ht => hap.yx t ht)).2 hv).st.2 ?_
    rw [put_comm fun t ht => hap.symm.dst t ht]
    exact h2
  · -- one reads, the other makes a block
    obtain ⟨v, w1, hv⟩ := Val.of_st hQ (fun w r w1 e => (exec_read hr1 a.eval w r w1 e).2.1) h
    obtain ⟨rfl, hnew⟩ := hv.read hr1
    have h1 := (hv.st (Q := Q)).1 h
    obtain ⟨u, w2, hu⟩ := Val.of_st hQ (fun w r w1 e => (exec_new hr2 _ w r w1 e).2) h1
    have h2 := (hu.st (Q := Q)).1 h1
    have hua := (Val.move hy (reached_put a x v) (fun t ht => hap.xy t ht)).1 hu
    refine hua.st.2 ?_
    have hvv : Val P ops x a w2 v w2 := by
      rcases hu.new hr2 with rfl | ⟨o', rfl⟩
      · exact hv
      · exact hnew o'
    refine ((Val.move hx (reached_put a y u) (fun t ht => hap.yx t ht)).2 hvv).st.2 ?_
    rw [put_comm fun t ht => hap.symm.dst t ht]
    exact h2
end
end Go.Proofs.YtooigfkjdemnlaaGreatDoor

namespace Go.Proofs.YtooigfkjdemnlaaGreatDoor
open Go.RowKit

def looksB (ops : Array Oper) (o : Oper) (t : Tmp) : Bool :=
  o.op.operands.any (fun x => match x with | .tmp u => u == t | _ => false) || (match o.guard with | some (j, _) => (ops[j]?).bind (·.dst) == some t | none => false)
def apartB (ops : Array Oper) (x y : Oper) : Bool :=
  (match x.dst with | some t => y.dst != some t && !looksB ops y t | none => true) && (match y.dst with | some t => !looksB ops x t | none => true)
def preB (ops : Array Oper) : Nat → Nat → Nat → Bool
  | 0, _, _ => false
  | k + 1, i, x => match ops[i]? with | some o => o.after.any fun e => Region.binds .any e && (e.on == x || preB ops k e.on x) | none => false
def topB (m : Region.Mode) (ops : Array Oper) (L : List Nat) : Bool :=
  (List.range ops.size).all (fun i => L.contains i) && L.all (fun i => decide (i < ops.size)) &&
  (List.range L.length).all fun k => match L[k]? with
    | some i => (match ops[i]? with | some o => o.after.all fun e => !Region.binds m e || (L.take k).contains e.on | none => true)
    | none => true
def freeB (P : Program) (ops : Array Oper) : Bool :=
  ops.all (fun o => !selB o) && topB .text ops (List.range ops.size) && topB .gc ops (Region.linearise .gc ops 0) &&
  (List.range ops.size).all fun i => match ops[i]? with
    | some o => (List.range i).all fun x => match ops[x]? with
      | some p => preB ops i i x || (commB P p o && apartB ops p o)
      | none => true
    | none => true

section
variable {P : Program} {ops : Array Oper} {Q : Exit → Act → World → Prop}

theorem looks_of {o : Oper} {t : Tmp} (h : looksAt ops o t) : looksB ops o t = true := by
  unfold looksB
  rw [Bool.or_eq_true]
  rcases h with h | ⟨j, b, hg, hd⟩
  · left
    rw [Array.any_eq_true']
    exact ⟨_, h, by simp⟩
  · right
    rw [hg]
    simp [hd]
theorem apart_of {x y : Oper} (h : apartB ops x y = true) : Apart2 ops x y := by
  unfold apartB at h
  rw [Bool.and_eq_true] at h
  obtain ⟨h1, h2⟩ := h
  refine ⟨fun t ht he => ?_, fun t ht hl => ?_, fun t ht hl => ?_⟩
  · rw [ht] at h1; simp [he] at h1
  · rw [ht] at h1; simp [looks_of hl] at h1
  · rw [ht] at h2; simp [looks_of hl] at h2

theorem wpOps_cons (hQ : Plainly Q) {i : Nat} {o : Oper} (ho : ops[i]? = some o) (rest : List Nat) (a : Act) (w : World) : wpOps P ops Q (i :: rest) a w ↔ St P ops Q o a w (wpOps P ops Q rest) := by
  unfold St
  simp only [wpOps, ho]
  split
  · constructor
    · rintro (h | ⟨_, a0, w0, hq⟩)
      · exact h
      · exact absurd (hQ _ _ _ hq) (by simp)
    · exact fun h => .inl h
  · exact Iff.rfl

theorem moveFront (hQ : Plainly Q) {i : Nat} {o : Oper} (ho : ops[i]? = some o) (hs : selB o = false) (B : List Nat) : ∀ (A : List Nat), (∀ x ∈ A, ∃ p, ops[x]? = some p ∧ selB p = false ∧ commB P p o = true ∧ Apart2 ops p o) → ∀ a w,
    wpOps P ops Q (A ++ i :: B) a w → wpOps P ops Q (i :: (A ++ B)) a w
  | [], _, _, _, h => h
  | x :: A, hA, a, w, h => by
    obtain ⟨p, hp, hps, hc, hap⟩ := hA x (List.mem_cons_self ..)
    have h1 := (wpOps_cons hQ hp _ a w).1 h
    have h2 : St P ops Q p a w (fun b w' => St P ops Q o b w' (wpOps P ops Q (A ++ B))) :=
      h1.mono fun b w' hb => (wpOps_cons hQ ho _ b w').1 (moveFront hQ ho hs B A (fun y hy => hA y (List.mem_cons_of_mem _ hy)) b w' hb)
    have h3 := St.swap hQ hps hs hap hc h2
    refine (wpOps_cons hQ ho _ a w).2 (h3.mono fun b w' hb => ?_)
    exact (wpOps_cons hQ hp _ b w').2 hb

def readyB (m : Region.Mode) (ops : Array Oper) (listed : Array Bool) (i : Nat) : Bool := ((ops[i]?).map (·.after.all fun e => !Region.binds m e || listed.getD e.on false)).getD false

theorem ready_any {m : Region.Mode} {listed : Array Bool} {i : Nat} (h : readyB m ops listed i = true) : readyB .any ops listed i = true := by
  unfold readyB at h ⊢
  cases ho : ops[i]? with
  | none => rw [ho] at h; exact h
  | some o =>
    rw [ho] at h
    simp only [Option.map_some, Option.getD_some, Array.all_eq_true', Bool.or_eq_true, Bool.not_eq_true'] at h ⊢
    intro e he
    rcases h e he with h1 | h1
    · left
      unfold Region.binds at h1 ⊢
      cases m <;> cases hg : e.ground <;> rw [hg] at h1 <;> simp_all
    · exact .inr h1

theorem pre_listed {listed : Array Bool} (hd : ∀ i, listed.getD i false = true → readyB .any ops listed i = true) : ∀ (k i x : Nat), readyB .any ops listed i = true → preB ops k i x = true → listed.getD x false = true
  | 0, _, _, _, h => by cases h
  | k + 1, i, x, hr, h => by
    unfold preB at h
    unfold readyB at hr
    cases ho : ops[i]? with
    | none => rw [ho] at h; cases h
    | some o =>
      rw [ho] at h hr
      simp only [Option.map_some, Option.getD_some, Array.all_eq_true', Array.any_eq_true', Bool.or_eq_true, Bool.and_eq_true, Bool.not_eq_true', beq_iff_eq] at h hr
      obtain ⟨e, he, hb, hx⟩ := h
      have hl : listed.getD e.on false = true := by
        rcases hr e he with h1 | h1
        · rw [hb] at h1; cases h1
        · exact h1
      rcases hx with rfl | hx
      · exact hl
      · exact pre_listed hd k e.on x (hd _ hl) hx

theorem first_unlisted (listed : Array Bool) : ∀ (L : List Nat) (r : Nat), r ∈ L → listed.getD r true = false → ∃ k, k < L.length ∧ ∃ x, L[k]? = some x ∧ listed.getD x true = false ∧ ∀ y ∈ L.take k, listed.getD y true = true
  | x :: L, r, hr, hu => by
    by_cases hx : listed.getD x true = false
    · exact ⟨0, by simp, x, rfl, hx, by simp⟩
    · have hx' : listed.getD x true = true := by simpa using hx
      rcases List.mem_cons.1 hr with rfl | hr
      · exact absurd hu hx
      · obtain ⟨k, hk, y, hy, hyu, hm⟩ := first_unlisted listed L r hr hu
        exact ⟨k + 1, by simpa using hk, y, hy, hyu, by
          intro z hz
          rw [List.take_succ_cons] at hz
          rcases List.mem_cons.1 hz with rfl | hz
          · exact hx'
          · exact hm z hz⟩

theorem go_free (hQ : Plainly Q) (hf : freeB P ops = true) (m : Region.Mode) (L : List Nat) (hL : topB m ops L = true) : ∀ (fuel t : Nat) (listed : Array Bool) (acc : List Nat), listed.size = ops.size →
    ((List.range ops.size).filter fun i => !listed.getD i true).length = fuel → (∀ i, listed.getD i false = true → readyB .any ops listed i = true) →
    ∃ S, Region.linearise.go m ops fuel t listed acc = acc.reverse ++ S ∧ ∀ a w, wpOps P ops Q ((List.range ops.size).filter fun i => !listed.getD i true) a w → wpOps P ops Q S a w
  | 0, t, listed, acc, hsz, hlen, hd => by
    refine ⟨[], by simp [Region.linearise.go], fun a w h => ?_⟩
    rw [List.eq_nil_of_length_eq_zero hlen] at h
    exact h
  | fuel + 1, t, listed, acc, hsz, hlen, hd => by
    generalize hR : ((List.range ops.size).filter fun i => !listed.getD i true) = R at hlen
    have hmem : ∀ i, i ∈ R ↔ i < ops.size ∧ listed.getD i true = false := by intro i; rw [← hR]; simp
    have hpw : R.Pairwise (· < ·) := by rw [← hR]; exact List.Pairwise.filter _ List.pairwise_lt_range
    unfold freeB at hf
    simp only [Bool.and_eq_true, List.all_eq_true, List.mem_range, Array.all_eq_true', Bool.not_eq_true'] at hf
    obtain ⟨⟨⟨hsel, htx⟩, hgc⟩, hpair⟩ := hf
    have hsel' : ∀ {i o}, ops[i]? = some o → selB o = false := fun {i o} h => hsel o (Array.mem_of_getElem? h)
    -- something is ready
    obtain ⟨i, hi⟩ : ∃ i, ((List.range ops.size).filter fun i => !listed.getD i true && readyB m ops listed i)[t % ((List.range ops.size).filter fun i => !listed.getD i true && readyB m ops listed i).length]? = some i := by
      have hne : 0 < ((List.range ops.size).filter fun i => !listed.getD i true && readyB m ops listed i).length := by
        obtain ⟨r0, hr0⟩ : ∃ r, r ∈ R := by
          match R, hlen with
          | r :: R', _ => exact ⟨r, List.mem_cons_self ..⟩
        unfold topB at hL
        simp only [Bool.and_eq_true, List.all_eq_true, List.mem_range, List.contains_iff_mem, decide_eq_true_eq] at hL
        obtain ⟨⟨hLall, hLlt⟩, hLtop⟩ := hL
        obtain ⟨k, hk, r, hkr, hru, hmin⟩ := first_unlisted listed L r0 (hLall r0 ((hmem r0).1 hr0).1) ((hmem r0).1 hr0).2
        have hrn : r < ops.size := hLlt r (List.mem_of_getElem? hkr)
        have hor : ops[r]? = some ops[r] := Array.getElem?_eq_getElem hrn
        have hp := hLtop k hk
        rw [hkr] at hp
        dsimp only at hp
        rw [hor] at hp
        simp only [Array.all_eq_true', Bool.or_eq_true, List.contains_iff_mem] at hp
        refine List.length_pos_of_mem (a := r) ?_
        simp only [List.mem_filter, List.mem_range, Bool.and_eq_true, Bool.not_eq_true']
        refine ⟨hrn, hru, ?_⟩
        unfold readyB
        rw [hor]
        simp only [Option.map_some, Option.getD_some, Array.all_eq_true', Bool.or_eq_true]
        intro e he
        rcases hp e he with h1 | h1
        · exact .inl h1
        · right
          have hlt2 : e.on < ops.size := hLlt _ (List.mem_of_mem_take h1)
          have hle := hmin e.on h1
          have h2 : e.on < listed.size := by omega
          simp only [Array.getD_eq_getD_getElem?, Array.getElem?_eq_getElem h2, Option.getD_some] at hle ⊢
          exact hle
      exact ⟨_, List.getElem?_eq_getElem (Nat.mod_lt _ hne)⟩
    have him := List.mem_of_getElem? hi
    simp only [List.mem_filter, List.mem_range, Bool.and_eq_true, Bool.not_eq_true'] at him
    obtain ⟨hin, hiu, hir⟩ := him
    have hoi : ops[i]? = some ops[i] := Array.getElem?_eq_getElem hin
    obtain ⟨A, B, hAB⟩ := List.append_of_mem ((hmem i).2 ⟨hin, hiu⟩)
    have hAi : ∀ x ∈ A, x < i := fun x hx => by
      rw [hAB] at hpw
      exact (List.pairwise_append.1 hpw).2.2 x hx i (List.mem_cons_self ..)
    have hBi : ∀ x ∈ B, i < x := fun x hx => by
      rw [hAB] at hpw
      exact (List.pairwise_cons.1 (List.pairwise_append.1 hpw).2.1).1 x hx
    have hfil : ((List.range ops.size).filter fun j => !(listed.setIfInBounds i true).getD j true) = A ++ B := by
      have e1 : ((List.range ops.size).filter fun j => !(listed.setIfInBounds i true).getD j true) = R.filter (fun j => decide (j ≠ i)) := by
        rw [← hR, List.filter_filter]
        apply List.filter_congr
        intro j hj
        by_cases hji : i = j
        · subst hji
          have : i < listed.size := by omega
          simp [Array.getD_eq_getD_getElem?, Array.getElem?_setIfInBounds, this]
        · rw [getD_set_ne _ _ _ hji]
          simp [Ne.symm hji]
      rw [e1, hAB, List.filter_append, List.filter_cons]
      have fA : A.filter (fun j => decide (j ≠ i)) = A := List.filter_eq_self.2 fun x hx => by have := hAi x hx; simp; omega
      have fB : B.filter (fun j => decide (j ≠ i)) = B := List.filter_eq_self.2 fun x hx => by have := hBi x hx; simp; omega
      rw [fA, fB]
      simp
    have hd' : ∀ j, (listed.setIfInBounds i true).getD j false = true → readyB .any ops (listed.setIfInBounds i true) j = true := by
      have up : ∀ j, listed.getD j false = true → (listed.setIfInBounds i true).getD j false = true := fun j hj => by
        by_cases hji : i = j
        · subst hji
          have : i < listed.size := by omega
          simp [Array.getD_eq_getD_getElem?, Array.getElem?_setIfInBounds, this]
        · rw [getD_set_ne _ _ _ hji]; exact hj
      have up2 : ∀ j, readyB .any ops listed j = true → readyB .any ops (listed.setIfInBounds i true) j = true := fun j hj => by
        unfold readyB at hj ⊢
        cases ho : ops[j]? with
        | none => rw [ho] at hj; exact hj
        | some o =>
          rw [ho] at hj
          simp only [Option.map_some, Option.getD_some, Array.all_eq_true', Bool.or_eq_true] at hj ⊢
          exact fun e he => (hj e he).imp id (up _)
      intro j hj
      by_cases hji : i = j
      · subst hji; exact up2 _ (ready_any hir)
      · rw [getD_set_ne _ _ _ hji] at hj
        exact up2 _ (hd j hj)
    obtain ⟨S, hS, hgo⟩ := go_free hQ (by unfold freeB; simp only [Bool.and_eq_true, List.all_eq_true, List.mem_range, Array.all_eq_true', Bool.not_eq_true']; exact ⟨⟨⟨hsel, htx⟩, hgc⟩, hpair⟩) m L hL fuel (t / ((List.range ops.size).filter fun i => !listed.getD i true && readyB m ops listed i).length) (listed.setIfInBounds i true) (i :: acc) (by simpa using hsz)
      (by rw [hfil]; rw [hAB] at hlen; simp only [List.length_append, List.length_cons] at hlen ⊢; omega) hd'
    refine ⟨i :: S, ?_, fun a w h => ?_⟩
    · rw [show acc.reverse ++ i :: S = (i :: acc).reverse ++ S by simp, ← hS]
      conv => lhs; unfold Region.linearise.go
      have : ((List.range ops.size).filter fun i => !listed.getD i true && ((ops[i]?).map (·.after.all fun e => !Region.binds m e || listed.getD e.on false)).getD false) = ((List.range ops.size).filter fun i => !listed.getD i true && readyB m ops listed i) := rfl
      simp only [this, hi]
    · rw [hAB] at h
      have hcomm : ∀ x ∈ A, ∃ p, ops[x]? = some p ∧ selB p = false ∧ commB P p ops[i] = true ∧ Apart2 ops p ops[i] := by
        intro x hx
        have hxi := hAi x hx
        have hxm := (hmem x).1 (by rw [hAB]; exact List.mem_append_left _ hx)
        have hox : ops[x]? = some ops[x] := Array.getElem?_eq_getElem hxm.1
        have hp := hpair i hin
        rw [hoi] at hp
        simp only [List.all_eq_true, List.mem_range] at hp
        have hp2 := hp x hxi
        rw [hox] at hp2
        simp only [Bool.or_eq_true, Bool.and_eq_true] at hp2
        refine ⟨_, hox, hsel' hox, ?_⟩
        rcases hp2 with hpre | ⟨h1, h2⟩
        · have := pre_listed hd _ _ _ (ready_any hir) hpre
          have h1 : x < listed.size := by omega
          have h2 := hxm.2
          simp only [Array.getD_eq_getD_getElem?, Array.getElem?_eq_getElem h1, Option.getD_some] at this h2
          rw [this] at h2
          cases h2
        · exact ⟨h1, apart_of h2⟩
      have h1 := moveFront hQ hoi (hsel' hoi) B A hcomm a w h
      rw [← hfil] at h1
      exact (wpOps_cons hQ hoi _ a w).2 (((wpOps_cons hQ hoi _ a w).1 h1).mono hgo)
end
end Go.Proofs.YtooigfkjdemnlaaGreatDoor

namespace Go.Proofs.YtooigfkjdemnlaaGreatDoor
open Go.RowKit
section
variable {P : Program} {ops : Array Oper}

theorem upon_mono2 {o : Oper} {a : Act} {N N' : Act → World → Prop} {Q Q' : Exit → Act → World → Prop} {r : Result Next} (h : ∀ a w, N a w → N' a w) (hq : ∀ e a w, Q e a w → Q' e a w) (hr : o.upon P a N Q r) : o.upon P a N' Q' r := by
  unfold Oper.upon at hr ⊢
  split at hr
  · exact h _ _ hr
  · exact h _ _ hr
  · exact h _ _ hr
  · refine hr.mono fun e w' he => ?_
    cases e with
    | returned v => exact h _ _ he
    | panicked c => exact hq _ _ _ he
    | outgrown => obtain ⟨a0, w0, h0⟩ := he; exact ⟨a0, w0, hq _ _ _ h0⟩
  · exact hr.mono fun v w' he => h _ _ he
  · exact hq _ _ _ hr
  · exact hr
theorem wpOps_mono2 {Q Q' : Exit → Act → World → Prop} (hq : ∀ e a w, Q e a w → Q' e a w) : ∀ (l : List Nat) (a : Act) (w : World), wpOps P ops Q l a w → wpOps P ops Q' l a w
  | [], a, w, h => hq _ _ _ h
  | i :: rest, a, w, h => by
    simp only [wpOps] at h ⊢
    cases ho : ops[i]? with
    | none => rw [ho] at h; exact wpOps_mono2 hq rest a w h
    | some o =>
      rw [ho] at h
      dsimp only at h ⊢
      split at h
      · rename_i hw
        rw [if_pos hw]
        rcases h with h | ⟨h1, a0, w0, h2⟩
        · exact .inl (upon_mono2 (wpOps_mono2 hq rest) hq h)
        · exact .inr ⟨h1, a0, w0, hq _ _ _ h2⟩
      · rename_i hw
        rw [if_neg hw]
        exact wpOps_mono2 hq rest _ _ h

theorem top_any {m : Region.Mode} {L : List Nat} (h : topB m ops L = true) : topB .any ops L = true := by
  unfold topB at h ⊢
  simp only [Bool.and_eq_true, List.all_eq_true, List.mem_range] at h ⊢
  refine ⟨h.1, fun k hk => ?_⟩
  have := h.2 k hk
  cases hL : L[k]? with
  | none => rfl
  | some i =>
    rw [hL] at this
    dsimp only at this ⊢
    cases ho : ops[i]? with
    | none => rfl
    | some o =>
      rw [ho] at this
      simp only [Array.all_eq_true', Bool.or_eq_true, Bool.not_eq_true'] at this ⊢
      intro e he
      rcases this e he with h1 | h1
      · left
        unfold Region.binds at h1 ⊢
        cases m <;> cases hg : e.ground <;> rw [hg] at h1 <;> simp_all
      · exact .inr h1

theorem wp_region_free {id : Nat} {l : List Oper} {Q : Exit → Act → World → Prop} {a : Act} {w : World} (hf : freeB P l.toArray = true)
    (h : ∀ K : Act → World → Prop, (∀ a w, Q .normal a w → K a w) → wpList P l.toArray (Exit.then K (fun _ _ _ => False)) l a w.drew) : (Code.region id l.toArray true).wp P Q a w := by
  refine wp_region_draw fun t => ?_
  have hQ : Plainly (Exit.then (fun a w => Q .normal a w) (fun _ _ _ => False)) := fun e a w he => by cases e <;> first | rfl | exact he.elim
  have hall : ((List.range l.toArray.size).filter fun i => !(Array.replicate l.toArray.size false).getD i true) = List.range l.toArray.size := by
    apply List.filter_eq_self.2
    intro i hi
    have := List.mem_range.1 hi
    simp only [Array.getD_eq_getD_getElem?, Array.getElem?_replicate]
    rw [if_pos this]
    rfl
  have key : ∀ (m : Region.Mode) (L : List Nat) (t : Nat), topB m l.toArray L = true → wpOps P l.toArray Q (Region.linearise m l.toArray t) a w.drew := by
    intro m L t hL
    obtain ⟨S, hS, hgo⟩ := go_free (P := P) (Q := Exit.then (fun a w => Q .normal a w) (fun _ _ _ => False)) hQ hf m L hL l.toArray.size t (Array.replicate l.toArray.size false) [] (by simp) (by rw [hall]; simp) (fun i hi => by
      simp only [Array.getD_eq_getD_getElem?, Array.getElem?_replicate] at hi
      split at hi <;> cases hi)
    have e : Region.linearise m l.toArray t = S := by
      unfold Region.linearise
      rw [hS]; simp
    rw [e]
    have h0 := h (fun a w => Q .normal a w) (fun _ _ h => h)
    have h1 : wpOps P l.toArray (Exit.then (fun a w => Q .normal a w) (fun _ _ _ => False)) (List.range l.toArray.size) a w.drew := by
      rw [List.range_eq_range', show l.toArray.size = l.length by simp, wpOps_eq_wpList l 0 (by simp)]
      exact h0
    rw [hall] at hgo
    exact wpOps_mono2 (fun e a w he => by cases e <;> first | exact he | exact he.elim) S a w.drew (hgo a w.drew h1)
  have hf' := hf
  unfold freeB at hf'
  simp only [Bool.and_eq_true] at hf'
  obtain ⟨⟨⟨_, htx⟩, hgc⟩, _⟩ := hf'
  unfold Region.schedule
  split
  · exact key _ _ _ (top_any htx)
  · split
    · exact key _ _ _ htx
    · exact key _ _ _ hgc
end
end Go.Proofs.YtooigfkjdemnlaaGreatDoor

namespace Go.Proofs.YtooigfkjdemnlaaGreatDoor
open Go.RowKit
section
variable {P : Program} {ops : Array Oper}
theorem wpOps_free {l : List Oper} {Q : Exit → Act → World → Prop} {a : Act} {w : World} (hf : freeB P l.toArray = true)
    (h : ∀ K : Act → World → Prop, (∀ a w, Q .normal a w → K a w) → wpList P l.toArray (Exit.then K (fun _ _ _ => False)) l a w.drew) (t : Nat) : wpOps P l.toArray (Exit.then (fun a w => Q .normal a w) (fun _ _ _ => False)) (Region.schedule (P.follows .mixedOrders) l.toArray t) a w.drew := by
  have hQ : Plainly (Exit.then (fun a w => Q .normal a w) (fun _ _ _ => False)) := fun e a w he => by cases e <;> first | rfl | exact he.elim
  have hall : ((List.range l.toArray.size).filter fun i => !(Array.replicate l.toArray.size false).getD i true) = List.range l.toArray.size := by
    apply List.filter_eq_self.2
    intro i hi
    have := List.mem_range.1 hi
    simp only [Array.getD_eq_getD_getElem?, Array.getElem?_replicate]
    rw [if_pos this]
    rfl
  have key : ∀ (m : Region.Mode) (L : List Nat) (t : Nat), topB m l.toArray L = true → wpOps P l.toArray (Exit.then (fun a w => Q .normal a w) (fun _ _ _ => False)) (Region.linearise m l.toArray t) a w.drew := by
    intro m L t hL
    obtain ⟨S, hS, hgo⟩ := go_free (P := P) (Q := Exit.then (fun a w => Q .normal a w) (fun _ _ _ => False)) hQ hf m L hL l.toArray.size t (Array.replicate l.toArray.size false) [] (by simp) (by rw [hall]; simp) (fun i hi => by
      simp only [Array.getD_eq_getD_getElem?, Array.getElem?_replicate] at hi
      split at hi <;> cases hi)
    have e : Region.linearise m l.toArray t = S := by
      unfold Region.linearise
      rw [hS]; simp
    rw [e]
    have h0 := h (fun a w => Q .normal a w) (fun _ _ h => h)
    have h1 : wpOps P l.toArray (Exit.then (fun a w => Q .normal a w) (fun _ _ _ => False)) (List.range l.toArray.size) a w.drew := by
      rw [List.range_eq_range', show l.toArray.size = l.length by simp, wpOps_eq_wpList l 0 (by simp)]
      exact h0
    rw [hall] at hgo
    exact hgo a w.drew h1
  have hf' := hf
  unfold freeB at hf'
  simp only [Bool.and_eq_true] at hf'
  obtain ⟨⟨⟨_, htx⟩, hgc⟩, _⟩ := hf'
  unfold Region.schedule
  split
  · exact key _ _ _ (top_any htx)
  · split
    · exact key _ _ _ htx
    · exact key _ _ _ hgc
end
end Go.Proofs.YtooigfkjdemnlaaGreatDoor

namespace Go.Proofs.YtooigfkjdemnlaaGreatDoor

inductive Way (es : List Edge) (m : Edge → Bool) (a : Int) : Int → Prop
  | start : Way es m a a
  | step {e : Edge} : Way es m a e.frm → e ∈ es → m e = true → Way es m a e.to

def visited (a : Int) (cs : List Edge) (x : Int) : Prop := x = a ∨ x ∈ cs.map (·.to)
structure Bfs (es : List Edge) (m : Edge → Bool) (a : Int) (cs : List Edge) (ln dn : List Int) : Prop where
  mem : ∀ e ∈ cs, e ∈ es ∧ m e = true ∧ e.to ≠ a
  nd : (cs.map (·.to)).Nodup
  ord : ∀ (i : Nat) (e : Edge), cs[i]? = some e → e.frm = a ∨ ∃ (j : Nat) (e' : Edge), j < i ∧ cs[j]? = some e' ∧ e'.to = e.frm
  vis : ∀ x, visited a cs x ↔ (x ∈ dn ∨ x ∈ ln)
  cl : ∀ x ∈ dn, ∀ e ∈ es, e.frm = x → m e = true → visited a cs e.to
structure BfsI (es : List Edge) (m : Edge → Bool) (a : Int) (cs : List Edge) (ln dn : List Int) (t : Int) (s : Nat) : Prop where
  mem : ∀ e ∈ cs, e ∈ es ∧ m e = true ∧ e.to ≠ a
  nd : (cs.map (·.to)).Nodup
  ord : ∀ (i : Nat) (e : Edge), cs[i]? = some e → e.frm = a ∨ ∃ (j : Nat) (e' : Edge), j < i ∧ cs[j]? = some e' ∧ e'.to = e.frm
  vis : ∀ x, visited a cs x ↔ (x ∈ dn ∨ x = t ∨ x ∈ ln)
  cl : ∀ x ∈ dn, ∀ e ∈ es, e.frm = x → m e = true → visited a cs e.to
  clt : ∀ (j : Nat) (e : Edge), j < s → (es.filter fun e => decide (e.frm = t))[j]? = some e → m e = true → visited a cs e.to
variable {es : List Edge} {m : Edge → Bool} {a t : Int} {cs : List Edge} {ln dn : List Int} {s : Nat}
theorem Bfs.start (es : List Edge) (m : Edge → Bool) (a : Int) : Bfs es m a [] [a] [] := ⟨by simp, by simp, by simp, by simp [visited], by simp⟩
theorem Bfs.pop (h : Bfs es m a cs (t :: ln) dn) : BfsI es m a cs ln dn t 0 := ⟨h.mem, h.nd, h.ord, fun x => by rw [h.vis]; simp, h.cl, fun j e hj => absurd hj (by omega)⟩
theorem BfsI.skip {e : Edge} (h : BfsI es m a cs ln dn t s) (he : (es.filter fun e => decide (e.frm = t))[s]? = some e) (hs : visited a cs e.to ∨ m e = false) : BfsI es m a cs ln dn t (s + 1) :=
  ⟨h.mem, h.nd, h.ord, h.vis, h.cl, fun j e' hj he' hm => by
    by_cases ej : j = s
    · subst ej
      rw [he] at he'; cases he'
      rcases hs with h1 | h1
      · exact h1
      · rw [hm] at h1; cases h1
    · exact h.clt j e' (by omega) he' hm⟩
theorem visited_snoc {e : Edge} {x : Int} : visited a (cs ++ [e]) x ↔ visited a cs x ∨ x = e.to := by
  unfold visited
  simp only [List.map_append, List.map_cons, List.map_nil, List.mem_append, List.mem_singleton]
  constructor
  · rintro (h | h | h)
    · exact .inl (.inl h)
    · exact .inl (.inr h)
    · exact .inr h
  · rintro ((h | h) | h)
    · exact .inl h
    · exact .inr (.inl h)
    · exact .inr (.inr h)
theorem BfsI.take {e : Edge} (h : BfsI es m a cs ln dn t s) (he : (es.filter fun e => decide (e.frm = t))[s]? = some e) (hv : ¬ visited a cs e.to) (hm : m e = true) : BfsI es m a (cs ++ [e]) (ln ++ [e.to]) dn t (s + 1) := by
  have hmem := List.mem_of_getElem? he
  rw [List.mem_filter] at hmem
  have hft : e.frm = t := by simpa using hmem.2
  have hmono : ∀ x, visited a cs x → visited a (cs ++ [e]) x := fun x hx => visited_snoc.2 (.inl hx)
  refine ⟨fun e' he' => ?_, ?_, fun i e' hi => ?_, fun x => ?_, fun x hx e' he' hf hm' => hmono _ (h.cl x hx e' he' hf hm'), fun j e' hj he' hm' => ?_⟩
  · rcases List.mem_append.1 he' with h1 | h1
    · exact h.mem e' h1
    · simp at h1; subst h1
      exact ⟨hmem.1, hm, fun h2 => hv (.inl h2)⟩
  · rw [List.map_append, List.nodup_append]
    refine ⟨h.nd, by simp, fun x hx y hy => ?_⟩
    simp at hy
    subst hy
    rintro rfl
    exact hv (.inr hx)
  · rcases Nat.lt_or_ge i cs.length with hlt | hge
    · rw [List.getElem?_append_left hlt] at hi
      rcases h.ord i e' hi with h1 | ⟨j, e2, h2, h3, h4⟩
      · exact .inl h1
      · exact .inr ⟨j, e2, h2, by rw [List.getElem?_append_left (by omega)]; exact h3, h4⟩
    · rw [List.getElem?_append_right hge] at hi
      have : i = cs.length := by
        rcases Nat.eq_zero_or_pos (i - cs.length) with h0 | h0
        · omega
        · rw [List.getElem?_eq_none (by simp; omega)] at hi; cases hi
      subst this
      simp at hi
      subst hi
      have hvt : visited a cs e.frm := (h.vis _).2 (.inr (.inl hft))
      rcases hvt with h1 | h1
      · exact .inl h1
      · obtain ⟨e2, h2, h3⟩ := List.mem_map.1 h1
        obtain ⟨j, hj⟩ := List.mem_iff_getElem?.1 h2
        exact .inr ⟨j, e2, (List.getElem?_eq_some_iff.1 hj).1, by rw [List.getElem?_append_left (List.getElem?_eq_some_iff.1 hj).1]; exact hj, h3⟩
  · rw [visited_snoc, h.vis, List.mem_append, List.mem_singleton]
    constructor
    · rintro ((h1 | h1 | h1) | h1)
      · exact .inl h1
      · exact .inr (.inl h1)
      · exact .inr (.inr (.inl h1))
      · exact .inr (.inr (.inr h1))
    · rintro (h1 | h1 | h1 | h1)
      · exact .inl (.inl h1)
      · exact .inl (.inr (.inl h1))
      · exact .inl (.inr (.inr h1))
      · exact .inr h1
  · by_cases ej : j = s
    · subst ej
      rw [he] at he'; cases he'
      exact visited_snoc.2 (.inr rfl)
    · exact hmono _ (h.clt j e' (by omega) he' hm')
theorem BfsI.done (h : BfsI es m a cs ln dn t (es.filter fun e => decide (e.frm = t)).length) : Bfs es m a cs ln (t :: dn) := by
  refine ⟨h.mem, h.nd, h.ord, fun x => ?_, fun x hx e he hf hm => ?_⟩
  · rw [h.vis]
    simp only [List.mem_cons]
    constructor
    · rintro (h1 | h1 | h1)
      · exact .inl (.inr h1)
      · exact .inl (.inl h1)
      · exact .inr h1
    · rintro ((h1 | h1) | h1)
      · exact .inr (.inl h1)
      · exact .inl h1
      · exact .inr (.inr h1)
  · rcases List.mem_cons.1 hx with h1 | h1
    · subst h1
      have hmem : e ∈ es.filter fun e => decide (e.frm = x) := List.mem_filter.2 ⟨he, by simp [hf]⟩
      obtain ⟨j, hj⟩ := List.mem_iff_getElem?.1 hmem
      exact h.clt j e (List.getElem?_eq_some_iff.1 hj).1 hj hm
    · exact h.cl x h1 e he hf hm
theorem Bfs.all (h : Bfs es m a cs [] dn) (b : Int) : visited a cs b ↔ Way es m a b := by
  constructor
  · have key : ∀ (i : Nat) (e : Edge), cs[i]? = some e → Way es m a e.to := by
      intro i
      induction i using Nat.strongRecOn with
      | _ i ih =>
        intro e he
        have hm := h.mem e (List.mem_of_getElem? he)
        refine Way.step ?_ hm.1 hm.2.1
        rcases h.ord i e he with h1 | ⟨j, e', h1, h2, h3⟩
        · rw [h1]; exact Way.start
        · rw [← h3]; exact ih j h1 e' h2
    rintro (rfl | h1)
    · exact Way.start
    · obtain ⟨e, h2, rfl⟩ := List.mem_map.1 h1
      obtain ⟨i, hi⟩ := List.mem_iff_getElem?.1 h2
      exact key i e hi
  · intro hw
    induction hw with
    | start => exact .inl rfl
    | step hw he hm ih =>
      rename_i e
      have := (h.vis e.frm).1 ih
      rcases this with h1 | h1
      · exact h.cl _ h1 e he rfl hm
      · cases h1
theorem BfsI.nodup (h : BfsI es m a cs ln dn t s) : cs.Nodup := List.Pairwise.of_map (fun x => x.to) (fun a b hab e => hab (by rw [e])) h.nd
end Go.Proofs.YtooigfkjdemnlaaGreatDoor
