/- VersionNils answers true at every input, and its argument reads behind the call as it read before; the card ties the listed table to the program's text. No condition of ours. -/
import Derived.Test.YteglopdgnhjbcaaGreatDoorRows
import Derived.Test.YteglopdgnhjbcaaGreatDoorXw
import Derived.Test.YteglopdgnhjbcaaGreatDoorVw
import Derived.Test.YteglopdgnhjbcaaGreatDoorTie
import Derived.Test.YteglopdgnhjbcaaGreatDoorCards
import Derived.WalkKit
import Derived.ProofKit
import Derived.LaidMore
import Derived.OpenShut
import Derived.Stop.Joined
import Derived.SevenTiedAt
namespace Go.Proofs.YteglopdgnhjbcaaGreatDoor.versionNils
open Go.ChangeShapes Go.WideShapes Go.ChangeAt Go.RowKit Xw Xs

theorem own : ownKnob Tryz.prog.godebug = none := by kernel_rfl
theorem laidOut : laidOutB Tryz.prog = true := by kernel_rfl

theorem door_met (os : Os) (args : Array Value) : laidMetH Tryz.prog Rows.versionNilsRow.laid ((World.doorLaid Tryz.prog 400 os).forCall (fun _ _ => 0) ⟨#[], args, []⟩).memory :=
  laidMetH_of_parts3 (fuel := 8) (laidMet_of_run' 8 (by kernel_rfl) (by kernel_rfl)) (by kernel_rfl) (by kernel_rfl)

theorem block_lt {w : World} {a : Addr} {v : Value} (h : w.cell? a = some v) : a.block < w.heap.size := by
  rcases Nat.lt_or_ge a.block w.heap.size with hl | hg
  · exact hl
  · unfold World.cell? at h
    rw [Array.getElem?_eq_none hg] at h
    cases h

set_option maxRecDepth 100000 in
theorem lifted (os : Os) (started : os.Started) (H : Type) (enc : TypeId × Value → H) :
    ReturnsInHanded {} Tryz.checked os 3 .any (fun w args => (Rows.versionNilsSpec.pre enc Tryz.prog Tryz.f3 [] false w args ∧ laidMetH Tryz.prog Rows.versionNilsRow.laid w) ∧ sizedMet enc Tryz.prog Tryz.f3 (OpenSpec.ofChange Rows.versionNilsSpec) false w args)
      (Rows.versionNilsSpec.post enc Tryz.prog Tryz.f3 false true false false) := by
  refine returnsInHanded_of_change_and (C := Tryz.checked) (X := fun w _ => laidMetH Tryz.prog Rows.versionNilsRow.laid w) (fun _ _ _ hh h => h.of_heap hh) own started (by kernel_rfl) Tryz.func3
    (ChangeSpec.witness_shaped (enc := enc) (C := Tryz.checked) (os := os) (X := fun w _ => laidMetH Tryz.prog Rows.versionNilsRow.laid w) false (World.doorLaid Tryz.prog 400 os) #[.agg #[.int .i64 0, .int .i64 0, .int .u64 0, .string ByteArray.empty, .string ByteArray.empty, .slice none 0 0]] 8 rfl (World.shaped_of_RefB (by kernel_rfl) (by kernel_rfl)) (by kernel_rfl) (by kernel_rfl) (by kernel_rfl) (door_met os _)) ?_
  intro W base args ds gs before hval0 hW _ hsz _ _
  have hval : ∀ (j : Nat) t v, Tryz.f3.params[j]? = some t → args[j]? = some v → Value.okWide Tryz.prog W .any base t v := hval0
  have hW' := hW
  obtain ⟨p, q, hA0, hV, rfl, hfz, hnd⟩ := hW
  have hA : DataW.TrodAll enc Tryz.prog W 0 (fun _ => true) true Tryz.f3.params.toList args.toList ds p := hA0
  rw [Tryz.params3] at hA hval hsz
  obtain ⟨v0, d0, rfl, rfl, h0⟩ := trodAll_one hA
  obtain ⟨rfl, rfl⟩ := trodVars_none hV
  have k0 := h0
  have lt0 : ∀ x ∈ p, x.block < W.heap.size := by obtain ⟨m, hm⟩ := k0; exact DataW.trod_lt m _ _ _ hm
  obtain ⟨c0, c1, c2, c3, c4, c5, y0, y1, y2, y3, y4, y5, m, rfl, rfl, hp, t0, t1, t2, t3, t4, t5⟩ := open_agg6 Tryz.underlying25 (by kernel_rfl) (by kernel_rfl) (hval 0 25 v0 rfl rfl) h0
  obtain ⟨a, e0, rfl, w0⟩ := DataW.trod_int Tryz.underlying3 t0
  obtain ⟨b, e1, rfl, w1⟩ := DataW.trod_int Tryz.underlying3 t1
  obtain ⟨c, e2, rfl, w2⟩ := DataW.trod_int Tryz.underlying22 t2
  obtain ⟨s, e3, rfl, w3⟩ := DataW.trod_string Tryz.underlying9 t3
  obtain ⟨u, e4, rfl, w4⟩ := DataW.trod_string Tryz.underlying9 t4
  simp only [List.cons.injEq, and_true] at e0 e1 e2 e3 e4
  subst e0; subst e1; subst e2; subst e3; subst e4
  obtain ⟨A, n, cp, xs, rfl, hr, hb⟩ : ∃ (A : Option Addr) (n cp : Nat) (xs : List Int), c5 = .slice A n cp ∧ Reads W W.heap.size 1 A n (xs.map (Value.int .i64)) ∧ n * 8 ≤ 140737488351232 := by
    rcases open_ints Tryz.underlying23 Tryz.underlying3 (by kernel_rfl) t5 with ⟨hcs, _⟩ | ⟨x, l, cp, zs, hcs, _, hl, hm, hz, hy5, hcell, hwz⟩
    · exact ⟨none, 0, 0, [], by simpa using hcs, Reads.none_, by omega⟩
    · have hz' : zs.length = cp := by simpa using hz
      refine ⟨some x, l, cp, zs.take l, by simpa using hcs, ⟨by simp; omega, fun hpos => ⟨x, rfl, ?_, ?_⟩⟩, ?_⟩
      · have := hcell 0 (by omega)
        rw [show x.add 0 = x from rfl] at this
        exact block_lt this
      · intro j v hj
        obtain ⟨z, hz1, rfl⟩ := List.getElem?_map_some hj
        have hjl : j < l := by
          have := (List.getElem?_eq_some_iff.1 hz1).1
          simp at this; omega
        rw [hcell j (by omega)]
        have : zs[j]? = some z := by rw [List.getElem?_take] at hz1; simpa [hjl] using hz1
        simp [List.getD, this]
      · have hw := List.all_eq_true.1 hsz (cp * 8) (DataW.weights_mem_each (j := 0) (t := 25) rfl rfl (cp * 8) (by
          subst hy5
          have hb8 : Tryz.checked.prog.bytesOf 3 = 8 := by kernel_rfl
          have u25 : Tryz.checked.prog.underlying 25 = _ := Tryz.underlying25
          have u23 : Tryz.checked.prog.underlying 23 = _ := Tryz.underlying23
          simp [DataW.weights, DataW.weightsEach, u25, u23, hb8, lits]
          omega))
        have hw' : cp * 8 ≤ reachBytes := of_decide_eq_true hw
        have hrb : reachBytes = 140737488351232 := by decide
        omega
  clear hA0 hval0
  refine (walk a b c s u A n cp xs W hr hb).mono fun e W' ⟨he, bel⟩ => ?_
  subst he
  exact ⟨_, rfl, _, _, _, [], _, [], hW', trodAll_mk1 (shut_bool Tryz.underlying4 _), trodAll_mk1 (Below.trod laidOut (by kernel_rfl) (of_decide_eq_true (by kernel_rfl)) k0 bel lt0), rfl, bel.frame _, fun h => by cases h⟩

theorem row_holds : Rows.VersionNilsSaid :=
  OpenClaim.holds_of_wide 3 Tryz.f3 rfl rfl rfl rfl rfl rfl rfl ⟨rfl, rfl, rfl, rfl, rfl⟩ rfl rfl rfl rfl rfl (by kernel_rfl) Tryz.func3 (by kernel_rfl)
    (of_decide_eq_true (by kernel_rfl)) (by unfold Func.isWrapper; first | (rw [if_pos (by decide +kernel)]; kernel_rfl) | (rw [if_neg (by decide +kernel)]; exact ⟨rfl, rfl⟩))
    (fun os started H enc _ => lifted os started H enc)

theorem card_holds : Rows.VersionNilsCardSaid :=
  Claim7.holds_tied_plain_at .later [] [.data] true (true, "09e86e6659ada4259e533803297b1f3c12248452b6d79f91e516fc43b749b0fa") false
    row_holds (fun _ h => by cases h) (by kernel_rfl) (fun _ h => by cases h) versionNils_row_tie rfl ⟨rfl, rfl⟩ (by kernel_rfl) rfl
    (fun f fn hf hfn => by
      obtain rfl : f = 3 := Option.some.inj ((show Tryz.prog.funcNamed "strata/stratalaw07.VersionNils" = some 3 by kernel_rfl).symm.trans hf) |>.symm
      obtain rfl : fn = Tryz.f3 := (Option.some.inj (Tryz.func3.symm.trans hfn)).symm
      exact ⟨by kernel_rfl, fun j t ht => by
        rw [Tryz.params3] at ht
        have hm : t ∈ [25] := by simpa using Array.mem_of_getElem? ht
        have hall : ([25].all fun u => !Tryz.prog.wantsStandIn u) = true := by kernel_rfl
        exact (show Tryz.prog.wantsStandIn t = false by simpa using List.all_eq_true.1 hall t hm)⟩)
    (by kernel_rfl)
#print axioms card_holds
end Go.Proofs.YteglopdgnhjbcaaGreatDoor.versionNils
