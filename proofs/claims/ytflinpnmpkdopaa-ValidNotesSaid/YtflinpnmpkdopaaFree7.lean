/- A region whose order is open, walked in the order of its text. No program in sight. -/
import Derived.Test.YtflinpnmpkdopaaFree6
namespace Go.Proofs.Ytflinpnmpkdopaa
set_option linter.unusedVariables false
set_option linter.unusedSimpArgs false
open Go.RowKit

def looksB (ops : Array Oper) (o : Oper) (t : Tmp) : Bool :=
  o.op.operands.any (fun x => match x with | .tmp u => u == t | _ => false) || (match o.guard with | some (j, _) => (ops[j]?).bind (·.dst) == some t | none => false)
def apartB (ops : Array Oper) (x y : Oper) : Bool :=
  (match x.dst with | some t => y.dst != some t && !looksB ops y t | none => true) && (match y.dst with | some t => !looksB ops x t | none => true)
def preB (ops : Array Oper) : Nat → Nat → Nat → Bool
  | 0, _, _ => false
  | k + 1, i, x => match ops[i]? with | some o => o.after.any fun e => Region.binds .any e && (e.on == x || preB ops k e.on x) | none => false
/-- A whole order of the operations in which each stands behind those that bind it. -/
def topB (m : Region.Mode) (ops : Array Oper) (L : List Nat) : Bool :=
  (List.range ops.size).all (fun i => L.contains i) && L.all (fun i => decide (i < ops.size)) &&
  (List.range L.length).all fun k => match L[k]? with
    | some i => (match ops[i]? with | some o => o.after.all fun e => !Region.binds m e || (L.take k).contains e.on | none => true)
    | none => true
/-- Two operations that the edges leave unordered commute. -/
def freeB (P : Program) (ops : Array Oper) : Bool :=
  ops.all (fun o => !selB o) && topB .text ops (List.range ops.size) && topB .gc ops (Region.linearise .gc ops 0) &&
  (List.range ops.size).all fun i => match ops[i]? with
    | some o => (List.range i).all fun x => match ops[x]? with
      | some p => preB ops i i x || (commB P p o && apartB ops p o)
      | none => true
    | none => true

section
variable {P : Program} {ops : Array Oper} {Q : Exit → Act → World → Prop}

theorem looks_of {o : Oper} {t : Tmp} (h : looksAt ops o t) : looksB ops o t = true := by
  unfold looksB
  rw [Bool.or_eq_true]
  rcases h with h | ⟨j, b, hg, hd⟩
  · left
    rw [Array.any_eq_true']
    exact ⟨_, h, by simp⟩
  · right
    rw [hg]
    simp [hd]
theorem apart_of {x y : Oper} (h : apartB ops x y = true) : Apart2 ops x y := by
  unfold apartB at h
  rw [Bool.and_eq_true] at h
  obtain ⟨h1, h2⟩ := h
  refine ⟨fun t ht he => ?_, fun t ht hl => ?_, fun t ht hl => ?_⟩
  · rw [ht] at h1; simp [he] at h1
  · rw [ht] at h1; simp [looks_of hl] at h1
  · rw [ht] at h2; simp [looks_of hl] at h2

theorem wpOps_cons (hQ : Plainly Q) {i : Nat} {o : Oper} (ho : ops[i]? = some o) (rest : List Nat) (a : Act) (w : World) : wpOps P ops Q (i :: rest) a w ↔ St P ops Q o a w (wpOps P ops Q rest) := by
  unfold St
  simp only [wpOps, ho]
  split
  · constructor
    · rintro (h | ⟨_, a0, w0, hq⟩)
      · exact h
      · exact absurd (hQ _ _ _ hq) (by simp)
    · exact fun h => .inl h
  · exact Iff.rfl

theorem moveFront (hQ : Plainly Q) {i : Nat} {o : Oper} (ho : ops[i]? = some o) (hs : selB o = false) (B : List Nat) : ∀ (A : List Nat), (∀ x ∈ A, ∃ p, ops[x]? = some p ∧ selB p = false ∧ commB P p o = true ∧ Apart2 ops p o) → ∀ a w,
    wpOps P ops Q (A ++ i :: B) a w → wpOps P ops Q (i :: (A ++ B)) a w
  | [], _, _, _, h => h
  | x :: A, hA, a, w, h => by
    obtain ⟨p, hp, hps, hc, hap⟩ := hA x (List.mem_cons_self ..)
    have h1 := (wpOps_cons hQ hp _ a w).1 h
    have h2 : St P ops Q p a w (fun b w' => St P ops Q o b w' (wpOps P ops Q (A ++ B))) :=
      h1.mono fun b w' hb => (wpOps_cons hQ ho _ b w').1 (moveFront hQ ho hs B A (fun y hy => hA y (List.mem_cons_of_mem _ hy)) b w' hb)
    have h3 := St.swap hQ hps hs hap hc h2
    refine (wpOps_cons hQ ho _ a w).2 (h3.mono fun b w' hb => ?_)
    exact (wpOps_cons hQ hp _ b w').2 hb

def readyB (m : Region.Mode) (ops : Array Oper) (listed : Array Bool) (i : Nat) : Bool := ((ops[i]?).map (·.after.all fun e => !Region.binds m e || listed.getD e.on false)).getD false

theorem ready_any {m : Region.Mode} {listed : Array Bool} {i : Nat} (h : readyB m ops listed i = true) : readyB .any ops listed i = true := by
  unfold readyB at h ⊢
  cases ho : ops[i]? with
  | none => rw [ho] at h; exact h
  | some o =>
    rw [ho] at h
    simp only [Option.map_some, Option.getD_some, Array.all_eq_true', Bool.or_eq_true, Bool.not_eq_true'] at h ⊢
    intro e he
    rcases h e he with h1 | h1
    · left
      unfold Region.binds at h1 ⊢
      cases m <;> cases hg : e.ground <;> rw [hg] at h1 <;> simp_all
    · exact .inr h1

theorem pre_listed {listed : Array Bool} (hd : ∀ i, listed.getD i false = true → readyB .any ops listed i = true) : ∀ (k i x : Nat), readyB .any ops listed i = true → preB ops k i x = true → listed.getD x false = true
  | 0, _, _, _, h => by cases h
  | k + 1, i, x, hr, h => by
    unfold preB at h
    unfold readyB at hr
    cases ho : ops[i]? with
    | none => rw [ho] at h; cases h
    | some o =>
      rw [ho] at h hr
      simp only [Option.map_some, Option.getD_some, Array.all_eq_true', Array.any_eq_true', Bool.or_eq_true, Bool.and_eq_true, Bool.not_eq_true', beq_iff_eq] at h hr
      obtain ⟨e, he, hb, hx⟩ := h
      have hl : listed.getD e.on false = true := by
        rcases hr e he with h1 | h1
        · rw [hb] at h1; cases h1
        · exact h1
      rcases hx with rfl | hx
      · exact hl
      · exact pre_listed hd k e.on x (hd _ hl) hx

theorem first_unlisted (listed : Array Bool) : ∀ (L : List Nat) (r : Nat), r ∈ L → listed.getD r true = false → ∃ k, k < L.length ∧ ∃ x, L[k]? = some x ∧ listed.getD x true = false ∧ ∀ y ∈ L.take k, listed.getD y true = true
  | x :: L, r, hr, hu => by
    by_cases hx : listed.getD x true = false
    · exact ⟨0, by simp, x, rfl, hx, by simp⟩
    · have hx' : listed.getD x true = true := by simpa using hx
      rcases List.mem_cons.1 hr with rfl | hr
      · exact absurd hu hx
      · obtain ⟨k, hk, y, hy, hyu, hm⟩ := first_unlisted listed L r hr hu
        exact ⟨k + 1, by simpa using hk, y, hy, hyu, by
          intro z hz
          rw [List.take_succ_cons] at hz
          rcases List.mem_cons.1 hz with rfl | hz
          · exact hx'
          · exact hm z hz⟩

theorem go_free (hQ : Plainly Q) (hf : freeB P ops = true) (m : Region.Mode) (L : List Nat) (hL : topB m ops L = true) : ∀ (fuel t : Nat) (listed : Array Bool) (acc : List Nat), listed.size = ops.size →
    ((List.range ops.size).filter fun i => !listed.getD i true).length = fuel → (∀ i, listed.getD i false = true → readyB .any ops listed i = true) →
    ∃ S, Region.linearise.go m ops fuel t listed acc = acc.reverse ++ S ∧ ∀ a w, wpOps P ops Q ((List.range ops.size).filter fun i => !listed.getD i true) a w → wpOps P ops Q S a w
  | 0, t, listed, acc, hsz, hlen, hd => by
    refine ⟨[], by simp [Region.linearise.go], fun a w h => ?_⟩
    rw [List.eq_nil_of_length_eq_zero hlen] at h
    exact h
  | fuel + 1, t, listed, acc, hsz, hlen, hd => by
    generalize hR : ((List.range ops.size).filter fun i => !listed.getD i true) = R at hlen
    have hmem : ∀ i, i ∈ R ↔ i < ops.size ∧ listed.getD i true = false := by intro i; rw [← hR]; simp
    have hpw : R.Pairwise (· < ·) := by rw [← hR]; exact List.Pairwise.filter _ List.pairwise_lt_range
    unfold freeB at hf
    simp only [Bool.and_eq_true, List.all_eq_true, List.mem_range, Array.all_eq_true', Bool.not_eq_true'] at hf
    obtain ⟨⟨⟨hsel, htx⟩, hgc⟩, hpair⟩ := hf
    have hsel' : ∀ {i o}, ops[i]? = some o → selB o = false := fun {i o} h => hsel o (Array.mem_of_getElem? h)
    -- something is ready
    obtain ⟨i, hi⟩ : ∃ i, ((List.range ops.size).filter fun i => !listed.getD i true && readyB m ops listed i)[t % ((List.range ops.size).filter fun i => !listed.getD i true && readyB m ops listed i).length]? = some i := by
      have hne : 0 < ((List.range ops.size).filter fun i => !listed.getD i true && readyB m ops listed i).length := by
        obtain ⟨r0, hr0⟩ : ∃ r, r ∈ R := by
          match R, hlen with
          | r :: R', _ => exact ⟨r, List.mem_cons_self ..⟩
        unfold topB at hL
        simp only [Bool.and_eq_true, List.all_eq_true, List.mem_range, List.contains_iff_mem, decide_eq_true_eq] at hL
        obtain ⟨⟨hLall, hLlt⟩, hLtop⟩ := hL
        obtain ⟨k, hk, r, hkr, hru, hmin⟩ := first_unlisted listed L r0 (hLall r0 ((hmem r0).1 hr0).1) ((hmem r0).1 hr0).2
        have hrn : r < ops.size := hLlt r (List.mem_of_getElem? hkr)
        have hor : ops[r]? = some ops[r] := Array.getElem?_eq_getElem hrn
        have hp := hLtop k hk
        rw [hkr] at hp
        dsimp only at hp
        rw [hor] at hp
        simp only [Array.all_eq_true', Bool.or_eq_true, List.contains_iff_mem] at hp
        refine List.length_pos_of_mem (a := r) ?_
        simp only [List.mem_filter, List.mem_range, Bool.and_eq_true, Bool.not_eq_true']
        refine ⟨hrn, hru, ?_⟩
        unfold readyB
        rw [hor]
        simp only [Option.map_some, Option.getD_some, Array.all_eq_true', Bool.or_eq_true]
        intro e he
        rcases hp e he with h1 | h1
        · exact .inl h1
        · right
          have hlt2 : e.on < ops.size := hLlt _ (List.mem_of_mem_take h1)
          have hle := hmin e.on h1
          have h2 : e.on < listed.size := by omega
          simp only [Array.getD_eq_getD_getElem?, Array.getElem?_eq_getElem h2, Option.getD_some] at hle ⊢
          exact hle
      exact ⟨_, List.getElem?_eq_getElem (Nat.mod_lt _ hne)⟩
    have him := List.mem_of_getElem? hi
    simp only [List.mem_filter, List.mem_range, Bool.and_eq_true, Bool.not_eq_true'] at him
    obtain ⟨hin, hiu, hir⟩ := him
    have hoi : ops[i]? = some ops[i] := Array.getElem?_eq_getElem hin
    obtain ⟨A, B, hAB⟩ := List.append_of_mem ((hmem i).2 ⟨hin, hiu⟩)
    have hAi : ∀ x ∈ A, x < i := fun x hx => by
      rw [hAB] at hpw
      exact (List.pairwise_append.1 hpw).2.2 x hx i (List.mem_cons_self ..)
    have hBi : ∀ x ∈ B, i < x := fun x hx => by
      rw [hAB] at hpw
      exact (List.pairwise_cons.1 (List.pairwise_append.1 hpw).2.1).1 x hx
    have hfil : ((List.range ops.size).filter fun j => !(listed.setIfInBounds i true).getD j true) = A ++ B := by
      have e1 : ((List.range ops.size).filter fun j => !(listed.setIfInBounds i true).getD j true) = R.filter (fun j => decide (j ≠ i)) := by
        rw [← hR, List.filter_filter]
        apply List.filter_congr
        intro j hj
        by_cases hji : i = j
        · subst hji
          have : i < listed.size := by omega
          simp [Array.getD_eq_getD_getElem?, Array.getElem?_setIfInBounds, this]
        · rw [getD_set_ne _ _ _ hji]
          simp [Ne.symm hji]
      rw [e1, hAB, List.filter_append, List.filter_cons]
      have fA : A.filter (fun j => decide (j ≠ i)) = A := List.filter_eq_self.2 fun x hx => by have := hAi x hx; simp; omega
      have fB : B.filter (fun j => decide (j ≠ i)) = B := List.filter_eq_self.2 fun x hx => by have := hBi x hx; simp; omega
      rw [fA, fB]
      simp
    have hd' : ∀ j, (listed.setIfInBounds i true).getD j false = true → readyB .any ops (listed.setIfInBounds i true) j = true := by
      have up : ∀ j, listed.getD j false = true → (listed.setIfInBounds i true).getD j false = true := fun j hj => by
        by_cases hji : i = j
        · subst hji
          have : i < listed.size := by omega
          simp [Array.getD_eq_getD_getElem?, Array.getElem?_setIfInBounds, this]
        · rw [getD_set_ne _ _ _ hji]; exact hj
      have up2 : ∀ j, readyB .any ops listed j = true → readyB .any ops (listed.setIfInBounds i true) j = true := fun j hj => by
        unfold readyB at hj ⊢
        cases ho : ops[j]? with
        | none => rw [ho] at hj; exact hj
        | some o =>
          rw [ho] at hj
          simp only [Option.map_some, Option.getD_some, Array.all_eq_true', Bool.or_eq_true] at hj ⊢
          exact fun e he => (hj e he).imp id (up _)
      intro j hj
      by_cases hji : i = j
      · subst hji; exact up2 _ (ready_any hir)
      · rw [getD_set_ne _ _ _ hji] at hj
        exact up2 _ (hd j hj)
    obtain ⟨S, hS, hgo⟩ := go_free hQ (by unfold freeB; simp only [Bool.and_eq_true, List.all_eq_true, List.mem_range, Array.all_eq_true', Bool.not_eq_true']; exact ⟨⟨⟨hsel, htx⟩, hgc⟩, hpair⟩) m L hL fuel (t / ((List.range ops.size).filter fun i => !listed.getD i true && readyB m ops listed i).length) (listed.setIfInBounds i true) (i :: acc) (by simpa using hsz)
      (by rw [hfil]; rw [hAB] at hlen; simp only [List.length_append, List.length_cons] at hlen ⊢; omega) hd'
    refine ⟨i :: S, ?_, fun a w h => ?_⟩
    · rw [show acc.reverse ++ i :: S = (i :: acc).reverse ++ S by simp, ← hS]
      conv => lhs; unfold Region.linearise.go
      have : ((List.range ops.size).filter fun i => !listed.getD i true && ((ops[i]?).map (·.after.all fun e => !Region.binds m e || listed.getD e.on false)).getD false) = ((List.range ops.size).filter fun i => !listed.getD i true && readyB m ops listed i) := rfl
      simp only [this, hi]
    · rw [hAB] at h
      have hcomm : ∀ x ∈ A, ∃ p, ops[x]? = some p ∧ selB p = false ∧ commB P p ops[i] = true ∧ Apart2 ops p ops[i] := by
        intro x hx
        have hxi := hAi x hx
        have hxm := (hmem x).1 (by rw [hAB]; exact List.mem_append_left _ hx)
        have hox : ops[x]? = some ops[x] := Array.getElem?_eq_getElem hxm.1
        have hp := hpair i hin
        rw [hoi] at hp
        simp only [List.all_eq_true, List.mem_range] at hp
        have hp2 := hp x hxi
        rw [hox] at hp2
        simp only [Bool.or_eq_true, Bool.and_eq_true] at hp2
        refine ⟨_, hox, hsel' hox, ?_⟩
        rcases hp2 with hpre | ⟨h1, h2⟩
        · have := pre_listed hd _ _ _ (ready_any hir) hpre
          have h1 : x < listed.size := by omega
          have h2 := hxm.2
          simp only [Array.getD_eq_getD_getElem?, Array.getElem?_eq_getElem h1, Option.getD_some] at this h2
          rw [this] at h2
          cases h2
        · exact ⟨h1, apart_of h2⟩
      have h1 := moveFront hQ hoi (hsel' hoi) B A hcomm a w h
      rw [← hfil] at h1
      exact (wpOps_cons hQ hoi _ a w).2 (((wpOps_cons hQ hoi _ a w).1 h1).mono hgo)
end
end Go.Proofs.Ytflinpnmpkdopaa
