/- Own texts of this claim, joined in build order: N5. -/
import Derived.Test.YtooigfkjdemnlaaGreatDoorL35
import Derived.Test.YtooigfkjdemnlaaGreatDoorL39
set_option linter.all false
namespace Go.Proofs.YtooigfkjdemnlaaGreatDoor
section
variable {h : List HTx} {base : Nat → KSt} {st : Nat → Nat → KSt}
def ptI (i : Nat) : Pt := ⟨i / 2, decide (i % 2 = 1), 0⟩
theorem TH.raw (T : TH h base st) : ∀ {n : Nat}, n ≤ h.length → (ptsRaw h n).length = 2 * n ∧ ∀ i, i < 2 * n → (ptsRaw h n)[i]? = some (ptI i)
  | 0, _ => ⟨rfl, fun i hi => by omega⟩
  | n + 1, hn => by
    obtain ⟨h1, h2⟩ := T.raw (n := n) (by omega)
    unfold ptsRaw
    rw [if_pos (T.com.2 (by omega))]
    refine ⟨by simp [h1]; omega, fun i hi => ?_⟩
    by_cases hl : i < 2 * n
    · rw [List.getElem?_append_left (by omega)]; exact h2 i hl
    · rw [List.getElem?_append_right (by omega), h1]
      have : i = 2 * n ∨ i = 2 * n + 1 := by omega
      rcases this with rfl | rfl
      · rw [Nat.sub_self]
        unfold ptI
        rw [show 2 * n / 2 = n by omega, show 2 * n % 2 = 0 by omega]
        rfl
      · rw [show 2 * n + 1 - 2 * n = 1 by omega]
        unfold ptI
        rw [show (2 * n + 1) / 2 = n by omega, show (2 * n + 1) % 2 = 1 by omega]
        rfl
theorem TH.rank (T : TH h base st) {i : Nat} (hi : i < 2 * h.length) : rank1 h (ptI i) = i + 1 := by
  obtain ⟨x, hx⟩ := T.at_ (t := i / 2) (by omega)
  unfold rank1 ptI
  simp only [hx, T.fin hx, T.bgn hx]
  by_cases h1 : i % 2 = 1
  · rw [if_pos (by simpa using h1)]; omega
  · rw [if_neg (by simpa using h1)]; omega
theorem ptLt_no {a b : Pt} (hr : rank1 h b < rank1 h a) : ptLt h a b = false := by
  unfold ptLt
  rw [decide_eq_false_iff_not]
  omega
theorem TH.moments (T : TH h base st) {l : List Pt} (M : Moments h l) : l = ptsRaw h h.length := by
  obtain ⟨h1, h2⟩ := T.raw (Nat.le_refl h.length)
  refine List.Perm.eq_of_pairwise (le := fun a b => ptLt h b a = false) (fun a b ha hb e1 e2 => ?_) M.2 ?_ M.1
  · have ha' : a ∈ ptsRaw h h.length := M.1.mem_iff.1 ha
    obtain ⟨i, hi⟩ := List.mem_iff_getElem?.1 ha'
    obtain ⟨j, hj⟩ := List.mem_iff_getElem?.1 hb
    have hil := (List.getElem?_eq_some_iff.1 hi).1
    have hjl := (List.getElem?_eq_some_iff.1 hj).1
    rw [h2 i (by omega)] at hi
    rw [h2 j (by omega)] at hj
    cases hi
    cases hj
    have r1 := T.rank (i := i) (by omega)
    have r2 := T.rank (i := j) (by omega)
    unfold ptLt at e1 e2
    rw [decide_eq_false_iff_not] at e1 e2
    have : i = j := by omega
    rw [this]
  · rw [List.pairwise_iff_getElem]
    intro i j hi hj hij
    have e1 := h2 i (by omega)
    have e2 := h2 j (by omega)
    rw [List.getElem?_eq_getElem hi] at e1
    rw [List.getElem?_eq_getElem hj] at e2
    rw [Option.some.inj e1, Option.some.inj e2]
    exact ptLt_no (by rw [T.rank (by omega), T.rank (by omega)]; omega)
theorem TH.low (T : TH h base st) {i : Nat} (hi : i < 2 * h.length) : lowP h (ptI i) = 2 * i + 1 ∧ highP h (ptI i) = 2 * i + 2 := by
  obtain ⟨x, hx⟩ := T.at_ (t := i / 2) (by omega)
  have hd := (T.hdr _ x hx).1
  have e1 : x.bi = 4 * (i / 2 : Nat) + 1 := by rw [hd]; rfl
  have e2 : x.bo = 4 * (i / 2 : Nat) + 2 := by rw [hd]; rfl
  have e3 : x.ei = 4 * (i / 2 : Nat) + 3 := by rw [hd]; rfl
  have e4 : x.eo = 4 * (i / 2 : Nat) + 4 := by rw [hd]; rfl
  unfold lowP highP ptI
  simp only [hx]
  by_cases h1 : i % 2 = 1
  · rw [if_pos (by simpa using h1), if_pos (by simpa using h1), if_neg (by omega)]; omega
  · rw [if_neg (by simpa using h1), if_neg (by simpa using h1)]; omega
theorem TH.nowP (T : TH h base st) {l : List Pt} (hl : l = ptsRaw h h.length) : ∀ {i : Nat}, i < 2 * h.length → Go.Proofs.YtooigfkjdemnlaaGreatDoor.nowP h l (i + 1) = 2 * i + 1
  | 0, hi => by
    have := (T.raw (Nat.le_refl h.length)).2 0 hi
    rw [← hl] at this
    simp only [Go.Proofs.YtooigfkjdemnlaaGreatDoor.nowP, this, (T.low hi).1]
    rfl
  | i + 1, hi => by
    have := (T.raw (Nat.le_refl h.length)).2 (i + 1) hi
    rw [← hl] at this
    have ih := T.nowP hl (i := i) (by omega)
    rw [Go.Proofs.YtooigfkjdemnlaaGreatDoor.nowP, this]
    simp only [ih, (T.low hi).1]
    omega
theorem TH.fits (T : TH h base st) {l : List Pt} (M : Moments h l) : FitsN h l l.length := by
  have hl := T.moments M
  intro i p hi hp
  obtain ⟨h1, h2⟩ := T.raw (Nat.le_refl h.length)
  have hi2 : i < 2 * h.length := by rw [hl, h1] at hi; exact hi
  have := h2 i hi2
  rw [← hl, hp] at this
  cases this
  rw [T.nowP hl hi2, (T.low hi2).2]
  omega
theorem TH.now (T : TH h base st) {l : List Pt} (hl : l = ptsRaw h h.length) : ∀ {t : Nat}, t ≤ h.length → nowAt h l (2 * t) = Go.Proofs.YtooigfkjdemnlaaGreatDoor.stAt h (List.range h.length) t
  | 0, _ => rfl
  | t + 1, ht => by
    have ih := T.now hl (t := t) (by omega)
    obtain ⟨h1, h2⟩ := T.raw (Nat.le_refl h.length)
    have e1 := h2 (2 * t) (by omega)
    have e2 := h2 (2 * t + 1) (by omega)
    rw [← hl] at e1 e2
    obtain ⟨x, hx⟩ := T.at_ (t := t) (by omega)
    have d1 : ptI (2 * t) = ⟨t, false, 0⟩ := by unfold ptI; rw [show 2 * t / 2 = t by omega, show 2 * t % 2 = 0 by omega]; rfl
    have d2 : ptI (2 * t + 1) = ⟨t, true, 0⟩ := by unfold ptI; rw [show (2 * t + 1) / 2 = t by omega, show (2 * t + 1) % 2 = 1 by omega]; rfl
    rw [d1] at e1
    rw [d2] at e2
    have f1 : nowAt h l (2 * t + 1) = nowAt h l (2 * t) := by
      conv => lhs; unfold nowAt
      rw [e1]
      rfl
    have f2 : nowAt h l (2 * t + 1 + 1) = applyN x t (nowAt h l (2 * t + 1)) x.ops.length := by
      conv => lhs; unfold nowAt
      rw [e2]
      simp [hx]
    rw [show 2 * (t + 1) = 2 * t + 1 + 1 by omega, f2, f1, ih]
    conv => rhs; unfold Go.Proofs.YtooigfkjdemnlaaGreatDoor.stAt
    rw [List.getElem?_range (by omega)]
    simp only [hx]
theorem TH.runs (T : TH h base st) {l : List Pt} (M : Moments h l) : RunOK h l := by
  have hl := T.moments M
  intro p q x hq hc hx hiso
  obtain ⟨h1, h2⟩ := T.raw (Nat.le_refl h.length)
  have hp : p < 2 * h.length := by have := (List.getElem?_eq_some_iff.1 hq).1; rw [hl, h1] at this; exact this
  have hqe : q = ptI p := by
    have := h2 p hp
    rw [← hl, hq] at this
    exact Option.some.inj this
  subst hqe
  have hodd : p % 2 = 1 := by unfold ptI at hc; simpa using hc
  obtain ⟨t, rfl⟩ : ∃ t, p = 2 * t + 1 := ⟨p / 2, by omega⟩
  have d2 : ptI (2 * t + 1) = ⟨t, true, 0⟩ := by unfold ptI; rw [show (2 * t + 1) / 2 = t by omega, show (2 * t + 1) % 2 = 1 by omega]; rfl
  have e1 := h2 (2 * t) (by omega)
  rw [← hl] at e1
  have d1 : ptI (2 * t) = ⟨t, false, 0⟩ := by unfold ptI; rw [show 2 * t / 2 = t by omega, show 2 * t % 2 = 0 by omega]; rfl
  rw [d1] at e1
  rw [d2] at hx ⊢
  simp only at hx ⊢
  have hb : begAt l (t : Int) (2 * t + 1) = 2 * t := by
    conv => lhs; unfold begAt
    rw [e1]
    simp
  have hs : sinceF l (2 * t + 1) (t : Int) = [] := by
    conv => lhs; unfold sinceF
    rw [e1]
    simp
  refine ⟨fun u hu => (by rw [hs] at hu; cases hu), fun i o ho hk => ?_⟩
  rw [hb, T.now hl (by omega)]
  exact T.replays T.line t t x i o (List.getElem?_range (by omega)) hx ho hk
end
end Go.Proofs.YtooigfkjdemnlaaGreatDoor
