/- ValidNotes: the argument opened; the walk lifted. -/
import Derived.Test.YtflinpnmpkdopaaRows
import Derived.Test.YtflinpnmpkdopaaVnotes
import Derived.WalkKit
import Derived.ProofKit
import Derived.OpenShut
import Derived.ShutString
import Derived.ChangeOld
import Derived.Below
import Derived.SizedLaws
namespace Go.Proofs.Ytflinpnmpkdopaa.validNotes
set_option linter.unusedVariables false
set_option linter.unusedSimpArgs false
open Go.ChangeShapes Go.WideShapes Go.ChangeAt Go.RowKit Xw Xs
theorem own : ownKnob Try.prog.godebug = none := by kernel_rfl
theorem laidOut : laidOutB Try.prog = true := by kernel_rfl
theorem block_lt {w : World} {a : Addr} {v : Value} (h : w.cell? a = some v) : a.block < w.heap.size := by
  rcases Nat.lt_or_ge a.block w.heap.size with hl | hg
  · exact hl
  · unfold World.cell? at h
    rw [Array.getElem?_eq_none hg] at h
    cases h

/-- A slice of ints that was handed in, as a row that reads. -/
theorem ints_of {H : Type} {enc : TypeId × Value → H} {W : World} {fuel : Nat} {v : Value} {y : DataW H × List MemPlace} (h : DataW.trod enc Try.prog W 0 (fun _ => true) true fuel 37 [v] = some y)
    (hsz : ∀ n ∈ y.1.weights Try.prog 37, n ≤ reachBytes) :
    ∃ (A : Option Addr) (n cp : Nat) (xs : List Int), v = .slice A n cp ∧ Reads W W.heap.size 1 A n (iCells xs) ∧ (∀ x ∈ xs, i64ok x) ∧ n * 8 ≤ 140737488351232 := by
  rcases open_ints Try.underlying37 Try.underlying3 (by kernel_rfl) h with ⟨hcs, _⟩ | ⟨x, l, cp, zs, hcs, hb0, hl, hm, hz, hy5, hcell, hwz⟩
  · exact ⟨none, 0, 0, [], by simpa using hcs, Reads.none_, by simp, by omega⟩
  · have hz' : zs.length = cp := by simpa using hz
    refine ⟨some x, l, cp, zs.take l, by simpa using hcs, ⟨by simp [iCells]; omega, fun hpos => ⟨x, rfl, ?_, ?_⟩⟩, ?_, ?_⟩
    · have := hcell 0 (by omega)
      rw [show x.add 0 = x from rfl] at this
      exact block_lt this
    · intro j v hj
      obtain ⟨z, hz1, rfl⟩ := map_getElem hj
      have hjl : j < l := by
        have := (List.getElem?_eq_some_iff.1 hz1).1
        simp at this; omega
      rw [hcell j (by omega)]
      have : zs[j]? = some z := by rw [List.getElem?_take] at hz1; simpa [hjl] using hz1
      simp [List.getD, this]
    · intro z hzm
      exact hwz z (List.mem_of_mem_take hzm)
    · have hw' : cp * 8 ≤ reachBytes := hsz _ (by
        subst hy5
        have hb8 : Try.prog.bytesOf 3 = 8 := by kernel_rfl
        have u23 : Try.prog.underlying 37 = _ := Try.underlying37
        simp [DataW.weights, u23, hb8, lits]
        omega)
      have hrb : reachBytes = 140737488351232 := by decide
      omega

theorem weightsAll_mem {H : Type} {P : Program} {e : TypeId} : ∀ {l : List (DataW H)} {d : DataW H}, d ∈ l → ∀ n ∈ d.weights P e, n ∈ DataW.weightsAll P e l
  | y :: l, d, h, n, hn => by
    rw [DataW.weightsAll, List.mem_append]
    rcases List.mem_cons.1 h with rfl | h
    · exact .inl hn
    · exact .inr (weightsAll_mem h n hn)
theorem list_of {α : Type} {Q : Nat → α → Prop} {len : Nat} (each : ∀ i, i < len → ∃ x, Q i x) : ∃ xs : List α, xs.length = len ∧ ∀ i x, xs[i]? = some x → Q i x := by
  suffices h : ∀ k, k ≤ len → ∃ xs : List α, xs.length = k ∧ ∀ i x, xs[i]? = some x → Q i x from h len (Nat.le_refl _)
  intro k
  induction k with
  | zero => exact fun _ => ⟨[], rfl, fun i x h => by simp at h⟩
  | succ k ih =>
    intro hk
    obtain ⟨xs, hl, hx⟩ := ih (by omega)
    obtain ⟨y, hy⟩ := each k (by omega)
    refine ⟨xs ++ [y], by simp [hl], fun i x h => ?_⟩
    rcases Nat.lt_or_ge i k with hi | hi
    · rw [List.getElem?_append_left (by omega)] at h; exact hx i x h
    · rw [List.getElem?_append_right (by omega)] at h
      have : i = k := by
        have := (List.getElem?_eq_some_iff.1 h).1
        simp at this; omega
      subst this
      simp [hl] at h
      exact h ▸ hy

set_option maxRecDepth 100000 in
theorem lifted (os : Os) (started : os.Started) (H : Type) (enc : TypeId × Value → H) :
    ReturnsInHanded {} Try.checked os 10 .any (Rows.validNotesSpec.pre6 enc Try.prog Try.f10 Rows.validNotesRow.domain false) (Rows.validNotesSpec.post enc Try.prog Try.f10 false true false false) := by
  refine returnsInHanded_of_change_sized (C := Try.checked) own started (by kernel_rfl) Try.func10
    (ChangeSpec.witness6 (enc := enc) (C := Try.checked) false ⟨#[], #[.slice none 0 0], []⟩ 8 (by kernel_rfl) (by kernel_rfl) (by kernel_rfl) (by kernel_rfl)) ?_
  intro W base args ds gs before hval0 hW hcnd hsz0 _
  have hsz : (DataW.weightsEach Try.prog (Try.f10.params.toList ++ Rows.validNotesSpec.plain.varTypes Try.prog) (ds ++ gs)).all (· ≤ reachBytes) = true := hsz0
  have hval : ∀ (j : Nat) t v, Try.f10.params[j]? = some t → args[j]? = some v → Value.okWide Try.prog W .any base t v := hval0
  have hW' := hW
  obtain ⟨p, q, hA0, hV, rfl, hfz, hnd⟩ := hW
  have hA : DataW.TrodAll enc Try.prog W 0 (fun _ => true) true Try.f10.params.toList args.toList ds p := hA0
  rw [Try.params10] at hA hval hsz
  obtain ⟨v0, d0, rfl, rfl, h0⟩ := trodAll_one hA
  obtain ⟨rfl, rfl⟩ := trodVars_none hV
  have k0 := h0
  have lt0 : ∀ x ∈ p, x.block < W.heap.size := by obtain ⟨m, hm⟩ := k0; exact DataW.trod_lt m _ _ _ hm
  obtain ⟨fuel, h0⟩ := h0
  obtain ⟨B, m, cap, vs, rfl, hr, hok, hm⟩ : ∃ (B : Option Addr) (m cap : Nat) (vs : List NoteV), v0 = .slice B m cap ∧ Reads W W.heap.size 4 B m (nCells vs) ∧ (∀ v ∈ vs, v.ok W) ∧ m ≤ maxLen := by
    obtain ⟨a0, l0, cp0, rfl⟩ := okWide_slice Try.underlying31 (hval 0 31 v0 rfl rfl)
    have h0 : DataW.trod enc Try.prog W 0 (fun _ => true) true fuel 31 [.slice a0 l0 cp0] = some (d0, p) := h0
    rcases open_slice_fields Try.underlying31 Try.underlying39 (by kernel_rfl) (by kernel_rfl) h0 with ⟨hcs, _⟩ | ⟨a, len, cap, m, D, Pl, hcs, hb0, hlc, hcm, hmm, hx, hi⟩
    · exact ⟨none, 0, 0, [], by simpa using hcs, ⟨rfl, fun h => absurd h (by omega)⟩, by simp, by simp⟩
    · have hm : m = cap := by simpa using hmm
      subst hm
      have hw : ∀ i, i < len → ∀ n ∈ (D i).weights Try.prog 39, n ≤ reachBytes := fun i hil n hn => by
        have hd0 := congrArg Prod.fst hx
        dsimp only at hd0
        have hmem : n ∈ d0.weights Try.prog 31 := by
          have u1 : Try.prog.underlying 31 = _ := Try.underlying31
          rw [hd0]
          simp only [DataW.weights, u1, List.mem_cons, List.mem_append]
          exact .inr (.inl (weightsAll_mem (List.mem_map.2 ⟨i, List.mem_range.2 hil, rfl⟩) n hn))
        exact of_decide_eq_true (List.all_eq_true.1 hsz n (DataW.weights_mem_each (j := 0) (t := 31) rfl rfl n hmem))
      have each : ∀ i, i < len → ∃ nv : NoteV, nv.ok W ∧ ∀ (j : Nat) (u : Value), nv.cells[j]? = some u → W.cell? (a.add (i * 4 + j)) = some u := fun i hil => by
        obtain ⟨ys, n, hD, hP, hyl, hf⟩ := hi i (by omega)
        obtain ⟨u0, y0, c0, e0, t0⟩ := hf 0 _ rfl
        obtain ⟨u1, y1, c1, e1, t1⟩ := hf 1 _ rfl
        obtain ⟨u2, y2, c2, e2, t2⟩ := hf 2 _ rfl
        obtain ⟨u3, y3, c3, e3, t3⟩ := hf 3 _ rfl
        obtain ⟨kd, g0, _, _⟩ := DataW.trod_int Try.underlying3 t0
        obtain ⟨s2, g2, _, w2⟩ := DataW.trod_string Try.underlying9 t2
        obtain ⟨s3, g3, _, w3⟩ := DataW.trod_string Try.underlying9 t3
        simp only [List.cons.injEq, and_true] at g0 g2 g3
        subst g0; subst g2; subst g3
        obtain ⟨A, n1, cp, xs, rfl, hrr, hxo, hnb⟩ := ints_of t1 (fun n hn => hw i hil n (by
          have u2 : Try.prog.underlying 39 = _ := Try.underlying39
          rw [hD]
          simp only [DataW.weights, u2]
          exact DataW.weights_mem_each (j := 1) (t := 37) rfl (by rw [List.getElem?_map, e1]; rfl) n hn))
        refine ⟨⟨kd, A, n1, cp, xs, (s2, s3)⟩, ⟨hrr, hxo, ⟨w2, w3⟩, hnb⟩, fun j u hj => ?_⟩
        match j, hj with
        | 0, hj => cases hj; exact c0
        | 1, hj => cases hj; exact c1
        | 2, hj => cases hj; exact c2
        | 3, hj => cases hj; exact c3
        | j + 4, hj => cases hj
      obtain ⟨vs, hvl, hvs⟩ : ∃ vs : List NoteV, vs.length = len ∧ ∀ i nv, vs[i]? = some nv → nv.ok W ∧ ∀ (j : Nat) (u : Value), nv.cells[j]? = some u → W.cell? (a.add (i * 4 + j)) = some u := list_of each
      refine ⟨some a, len, m, vs, by simpa using hcs, ⟨by rw [nCells_length, hvl], fun hp => ⟨a, rfl, ?_, fun j u hj => ?_⟩⟩, fun nv hnv => ?_, by omega⟩
      · obtain ⟨nv, hnv, hc⟩ := each 0 hp
        exact block_lt (hc 0 _ rfl)
      · have hjl := (List.getElem?_eq_some_iff.1 hj).1
        rw [nCells_length] at hjl
        have hv := List.getElem?_eq_getElem (show j / 4 < vs.length by omega)
        have h4 := nCells_at vs (j / 4) _ hv (j % 4) (by omega)
        rw [show j / 4 * 4 + j % 4 = j by omega, hj] at h4
        have := (hvs _ _ hv).2 (j % 4) u h4.symm
        rwa [show j / 4 * 4 + j % 4 = j by omega] at this
      · obtain ⟨i, hi⟩ := List.mem_iff_getElem?.1 hnv
        exact (hvs i nv hi).1
  clear hA0 hval0 hsz0 hsz
  refine (vnotes_ B m cap vs W hr hok hm).mono fun e W' ⟨he, bel⟩ => ?_
  subst he
  exact ⟨_, rfl, _, _, _, [], _, [], hW', trodAll_mk1 (shut_bool Try.underlying4 _), trodAll_mk1 (Below.trod laidOut (by kernel_rfl) (of_decide_eq_true (by kernel_rfl)) k0 bel lt0), rfl, bel.frame _, fun h => by cases h⟩

theorem over : Rows.validNotesRow.holds Try.pinned (OpenSpec.ofChange Rows.validNotesSpec) :=
  OpenClaim.holds_of_wide 10 Try.f10 rfl rfl rfl rfl rfl rfl rfl ⟨rfl, rfl, rfl, rfl, rfl⟩ rfl rfl rfl rfl rfl (by kernel_rfl) Try.func10 (by kernel_rfl)
    (of_decide_eq_true (by kernel_rfl)) (by unfold Func.isWrapper; first | (rw [if_pos (by decide +kernel)]; kernel_rfl) | (rw [if_neg (by decide +kernel)]; exact ⟨rfl, rfl⟩))
    (fun os started H enc _ => lifted os started H enc)
theorem proved : Rows.ValidNotesSaid := over
#print axioms proved
end Go.Proofs.Ytflinpnmpkdopaa.validNotes
