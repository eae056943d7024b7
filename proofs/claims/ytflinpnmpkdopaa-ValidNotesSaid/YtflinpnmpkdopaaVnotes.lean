/- The walk of ValidNotes. -/
import Derived.Test.YtflinpnmpkdopaaNoted
namespace Go.Proofs.Ytflinpnmpkdopaa
set_option linter.unusedVariables false
set_option linter.unusedSimpArgs false
open Go.RowKit Go.Maps Go.ChangeMaps Xw

structure NoteV where
  kd : Int
  A : Option Addr
  n : Nat
  c : Nat
  xs : List Int
  x : Rng
def NoteV.cells (v : NoteV) : List Value := [.int .i64 v.kd, .slice v.A v.n v.c, .string v.x.1, .string v.x.2]
def NoteV.ok (w : World) (v : NoteV) : Prop := Reads w w.heap.size 1 v.A v.n (iCells v.xs) ∧ (∀ x ∈ v.xs, i64ok x) ∧ rOk v.x ∧ v.n * 8 ≤ 140737488351232
def nCells (vs : List NoteV) : List Value := vs.flatMap NoteV.cells
theorem nCells_length (vs : List NoteV) : (nCells vs).length = vs.length * 4 := by
  induction vs with
  | nil => rfl
  | cons v vs ih => simp [nCells, NoteV.cells] at ih ⊢; omega
theorem nCells_at : ∀ (vs : List NoteV) (j : Nat) (v : NoteV), vs[j]? = some v → ∀ i, i < 4 → (nCells vs)[j * 4 + i]? = v.cells[i]?
  | y :: vs, 0, v, h, i, hi => by
    cases h
    show (y.cells ++ nCells vs)[0 * 4 + i]? = _
    rw [show 0 * 4 + i = i by omega, List.getElem?_append_left (by simp [NoteV.cells]; omega)]
  | y :: vs, j + 1, v, h, i, hi => by
    have := nCells_at vs j v (by simpa using h) i hi
    show (y.cells ++ nCells vs)[(j + 1) * 4 + i]? = _
    rw [List.getElem?_append_right (by simp [NoteV.cells]; omega), show (j + 1) * 4 + i - y.cells.length = j * 4 + i by simp [NoteV.cells]; omega]
    exact this

/-- The two pairs in turns. -/
structure Four (w0 w : World) (s r z q : Nat) (Fs Fr Gs Gr : Nat → Prop) : Prop where
  a : ∃ l rs, TwoAt w s r l rs Fs Fr
  b : ∃ l rs, TwoAt w z q l rs Gs Gr
  fs : ∀ j, Fs j → w0.heap.size ≤ j
  fr : ∀ j, Fr j → w0.heap.size ≤ j
  gs : ∀ j, Gs j → w0.heap.size ≤ j
  gr : ∀ j, Gr j → w0.heap.size ≤ j
  d : ∀ j, (Fs j ∨ Fr j) → ¬ (Gs j ∨ Gr j)
  c : Chg (fun _ => False) w0 w

theorem Four.swap {w0 w : World} {s r z q : Nat} {Fs Fr Gs Gr : Nat → Prop} (h : Four w0 w s r z q Fs Fr Gs Gr) : Four w0 w z q s r Gs Gr Fs Fr :=
  { a := h.b, b := h.a, fs := h.gs, fr := h.gr, gs := h.fs, gr := h.fr, d := fun j h1 h2 => h.d j h2 h1, c := h.c }
theorem Four.step {w0 w w' : World} {s r z q : Nat} {Fs Fr Gs Gr : Nat → Prop} (h : Four w0 w s r z q Fs Fr Gs Gr) {e : Ending} (hp : NotedPost Fs Fr w s r e w') : e = .returned (.bool true) ∧ ∃ Fs' Fr', Four w0 w' s r z q Fs' Fr' Gs Gr := by
  obtain ⟨he, l, rs, Fs', Fr', ht, hc, hs, hr⟩ := hp
  obtain ⟨l2, rs2, hb⟩ := h.b
  have hz := h.c.size
  refine ⟨he, Fs', Fr', {
    a := ⟨l, rs, ht⟩
    b := ⟨l2, rs2, hb.chg hc (fun j h1 h2 => h.d j h2 (.inl h1)) (fun j h1 h2 => h.d j h2 (.inr h1))⟩
    fs := fun j hj => ?_, fr := fun j hj => ?_, gs := h.gs, gr := h.gr, d := fun j h1 h2 => ?_
    c := h.c.trans hc (fun j hj h1 => absurd hj (Nat.not_lt.2 (h1.elim (h.fs j) (h.fr j)))) }⟩
  · rcases hs j hj with h1 | ⟨h1, _⟩
    · exact h.fs j h1
    · exact Nat.le_trans hz h1
  · rcases hr j hj with h1 | ⟨h1, _⟩
    · exact h.fr j h1
    · exact Nat.le_trans hz h1
  · have hlt : j < w.heap.size := h2.elim (hb.ls j) (hb.lr j)
    rcases h1 with h1 | h1
    · rcases hs j h1 with h3 | ⟨h3, _⟩
      · exact h.d j (.inl h3) h2
      · omega
    · rcases hr j h1 with h3 | ⟨h3, _⟩
      · exact h.d j (.inr h3) h2
      · omega
theorem Four.quiet {w0 w w' : World} {s r z q : Nat} {Fs Fr Gs Gr : Nat → Prop} (h : Four w0 w s r z q Fs Fr Gs Gr) (hc : Chg (fun _ => False) w w') : Four w0 w' s r z q Fs Fr Gs Gr :=
  { h with
    a := let ⟨l, rs, t⟩ := h.a; ⟨l, rs, t.chg hc (fun _ _ f => f) (fun _ _ f => f)⟩
    b := let ⟨l, rs, t⟩ := h.b; ⟨l, rs, t.chg hc (fun _ _ f => f) (fun _ _ f => f)⟩
    c := h.c.trans hc (fun _ _ f => f) }
def FourAt (w0 : World) (s r z q : Nat) (w : World) : Prop := ∃ Fs Fr Gs Gr, Four w0 w s r z q Fs Fr Gs Gr
/-- One note on the first pair. -/
theorem four_note {w0 w : World} {s r z q : Nat} (h : FourAt w0 s r z q w) (v : NoteV) (hv : v.ok w0) :
    Calls Try.prog 24 #[.pointer (some ⟨s, 0, none⟩), .pointer (some ⟨r, 0, none⟩), .agg #[.int .i64 v.kd, .slice v.A v.n v.c, .string v.x.1, .string v.x.2]] w fun e w' => e = .returned (.bool true) ∧ FourAt w0 s r z q w' := by
  obtain ⟨Fs, Fr, Gs, Gr, h⟩ := h
  obtain ⟨l, rs, ht⟩ := h.a
  refine (noted_ v.kd v.A v.n v.c v.xs v.x s r l rs Fs Fr w ht (reads_chg hv.1 h.c (Nat.le_refl _) (fun _ _ _ f => f) h.c.size) (fun ad ha hp => ?_) hv.2.1 hv.2.2.1 hv.2.2.2).mono fun e w' hp => ?_
  · obtain ⟨ad', he, hlt, _⟩ := hv.1.2 hp
    rw [ha] at he
    cases he
    exact ⟨fun hf => absurd (h.fs _ hf) (Nat.not_le.2 hlt), fun hf => absurd (h.fr _ hf) (Nat.not_le.2 hlt)⟩
  · obtain ⟨he, Fs', Fr', h2⟩ := h.step hp
    exact ⟨he, _, _, _, _, h2⟩
theorem FourAt.swap {w0 w : World} {s r z q : Nat} (h : FourAt w0 s r z q w) : FourAt w0 z q s r w := let ⟨a, b, c, d, h⟩ := h; ⟨c, d, a, b, h.swap⟩
theorem four_listed {w0 w : World} {s r z q : Nat} (h : FourAt w0 s r z q w) :
    Calls Try.prog 25 #[.pointer (some ⟨s, 0, none⟩), .pointer (some ⟨r, 0, none⟩)] w fun e w' => e = .returned (.bool true) ∧ FourAt w0 s r z q w' := by
  obtain ⟨Fs, Fr, Gs, Gr, h⟩ := h
  obtain ⟨l, rs, ht⟩ := h.a
  exact (listed_ s r l rs Fs Fr w ht).mono fun e w' hp => ⟨hp.1, _, _, _, _, h.quiet hp.2⟩
theorem four_new {w0 w1 w2 w3 w4 : World} {e1 e2 e3 e4 : Ending} (h1 : NewPost (fun w' b => SeesAt w' b [] [] (fun j => j = b)) w0 e1 w1) (h2 : NewPost (fun w' b => SeesAt w' b [] [] (fun j => j = b)) w1 e2 w2)
    (h3 : NewPost (fun w' b => RefAt w' b [] [] (fun j => j = b)) w2 e3 w3) (h4 : NewPost (fun w' b => RefAt w' b [] [] (fun j => j = b)) w3 e4 w4) : FourAt w0 w0.heap.size w2.heap.size w1.heap.size w3.heap.size w4 := by
  obtain ⟨_, s1, c1, z1⟩ := h1
  obtain ⟨_, s2, c2, z2⟩ := h2
  obtain ⟨_, s3, c3, z3⟩ := h3
  obtain ⟨_, s4, c4, z4⟩ := h4
  refine ⟨_, _, _, _, {
    a := ⟨[], [], { s := ((s1.chg c2 (fun _ _ f => f)).chg c3 (fun _ _ f => f)).chg c4 (fun _ _ f => f), r := s3.chg c4 (fun _ _ f => f), d := fun j h1 h2 => ?_, ls := fun j h1 => ?_, lr := fun j h1 => ?_ }⟩
    b := ⟨[], [], { s := (s2.chg c3 (fun _ _ f => f)).chg c4 (fun _ _ f => f), r := s4, d := fun j h1 h2 => ?_, ls := fun j h1 => ?_, lr := fun j h1 => ?_ }⟩
    fs := fun j h1 => ?_, fr := fun j h1 => ?_, gs := fun j h1 => ?_, gr := fun j h1 => ?_, d := fun j h1 h2 => ?_
    c := ((c1.trans c2 (fun _ _ f => f)).trans c3 (fun _ _ f => f)).trans c4 (fun _ _ f => f) }⟩ <;> (try dsimp only at *) <;> omega

set_option maxHeartbeats 4000000 in
set_option maxRecDepth 100000 in
theorem vnotes_ (B : Option Addr) (m cap : Nat) (vs : List NoteV) (w : World) (hr : Reads w w.heap.size 4 B m (nCells vs)) (hok : ∀ v ∈ vs, v.ok w) (hm : m ≤ maxLen) :
    Calls Try.prog 10 #[.slice B m cap] w fun e w' => e = .returned (.bool true) ∧ Below w.heap.size w w' := by
  have hvl : vs.length = m := by have := hr.1; rw [nCells_length] at this; omega
  simp only [maxLen] at hm
  go_enter Try.func10, Try.ntmps10
  go_wp2_with (first
    | (go_at_call 22; first
        | (refine (new_sees w1).mono ?_; rintro e w2 n2; have N2 := Lib.hid n2; obtain ⟨rfl, -, -, -⟩ := n2)
        | (refine (new_sees _).mono ?_; rintro e w1 n1; have N1 := Lib.hid n1; obtain ⟨rfl, -, -, -⟩ := n1))
    | (go_at_call 23; first
        | (refine (new_ref w3).mono ?_; rintro e w4 n4; have N4 := four_new N1.out N2.out N3.out n4; obtain ⟨rfl, -, -, -⟩ := n4)
        | (refine (new_ref _).mono ?_; rintro e w3 n3; have N3 := Lib.hid n3; obtain ⟨rfl, -, -, -⟩ := n3)))
  clear N1 N2 N3
  go_loopw [7] (fun i wr => ∃ k : Nat, k ≤ m ∧ i = .int .i64 k ∧ FourAt w w.heap.size w2.heap.size w1.heap.size w3.heap.size wr) (fun i _ => m - (intOf i).toNat)
  case atStart => exact ⟨0, by omega, rfl, N4⟩
  case round =>
    obtain ⟨k, hk, rfl, h4⟩ := hrel
    by_cases hlt : k < m
    · obtain ⟨v, hv⟩ : ∃ v, vs[k]? = some v := ⟨_, List.getElem?_eq_getElem (by omega)⟩
      have hvok := hok v (List.mem_of_getElem? hv)
      obtain ⟨ad, rfl, hadb, hcx⟩ := hr.2 (by omega)
      have hcell : ∀ i, i < 4 → ∀ u, v.cells[i]? = some u → wr.cell? (ad.add (k * 4 + i)) = some u := fun i hi u hu => by
        obtain ⟨Fs, Fr, Gs, Gr, hf⟩ := h4
        have e2 : wr.heap[(ad.add (k * 4 + i)).block]? = w.heap[(ad.add (k * 4 + i)).block]? := by rw [block_of_add]; exact hf.c.block _ hadb (fun f => f)
        rw [World.cell?_of_block e2]
        exact hcx _ _ ((nCells_at vs k v hv i hi).trans hu)
      have c0 : wr.cell? (ad.add (k * 4)) = some (.int .i64 v.kd) := hcell 0 (by omega) _ rfl
      have c1 : wr.cell? ⟨(ad.add (k * 4)).block, (ad.add (k * 4)).off + 1, none⟩ = some (.slice v.A v.n v.c) := by
        show wr.cell? ((ad.add (k * 4)).add 1) = _
        rw [add_of_add]; exact hcell 1 (by omega) _ rfl
      have c2 : wr.cell? ⟨(ad.add (k * 4)).block, (ad.add (k * 4)).off + 2, none⟩ = some (.string v.x.1) := by
        show wr.cell? ((ad.add (k * 4)).add 2) = _
        rw [add_of_add]; exact hcell 2 (by omega) _ rfl
      have c3 : wr.cell? ⟨(ad.add (k * 4)).block, (ad.add (k * 4)).off + 3, none⟩ = some (.string v.x.2) := by
        show wr.cell? ((ad.add (k * 4)).add 3) = _
        rw [add_of_add]; exact hcell 3 (by omega) _ rfl
      clear hcell hcx
      rcases Nat.mod_two_eq_zero_or_one k with hpar | hpar
      · have hp : ((k : Int).tmod 2) = 0 := by rw [Int.tmod_eq_emod_of_nonneg (by omega)]; omega
        go_wp2_with (go_at_call 24; refine (four_note h4 v hvok).mono ?_; rintro e w' ⟨rfl, h5⟩)
        clear hp hpar
        exact ⟨⟨k + 1, by omega, by simp, h5⟩, by simp [intOf]; omega⟩
      · have hp : ((k : Int).tmod 2) = 1 := by rw [Int.tmod_eq_emod_of_nonneg (by omega)]; omega
        go_wp2_with (go_at_call 24; refine (four_note h4.swap v hvok).mono ?_; rintro e w' ⟨rfl, h5⟩)
        clear hp hpar
        exact ⟨⟨k + 1, by omega, by simp, h5.swap⟩, by simp [intOf]; omega⟩
    · obtain rfl : k = m := by omega
      go_wp2_with (go_at_call 25; first
        | (refine (four_listed h5.swap).mono ?_; rintro e w' ⟨rfl, h6⟩)
        | (refine (four_listed h4).mono ?_; rintro e w' ⟨rfl, h5⟩))
      go_ret
      obtain ⟨_, _, _, _, h7⟩ := h6
      exact ⟨rfl, h7.c.below (fun _ f => f.elim) (Nat.le_refl _)⟩
end Go.Proofs.Ytflinpnmpkdopaa
