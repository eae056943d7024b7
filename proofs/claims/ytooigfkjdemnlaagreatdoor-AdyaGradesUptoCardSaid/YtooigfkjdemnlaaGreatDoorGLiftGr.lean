/- AdyaGrades answers true at every history, and its argument reads behind the call as it read before; the card ties the table of grades to the program's text. The one condition: what is read is of bulk at most 1048576, as the given rows count it (AdyaGradesUptoCardSaid). -/
import Derived.Test.YtooigfkjdemnlaaGreatDoorG07
import Derived.Test.YtooigfkjdemnlaaGreatDoorG46
import Derived.Test.YtooigfkjdemnlaaGreatDoorTie
import Derived.Test.YtooigfkjdemnlaaGreatDoorCards
import Derived.Deep.DeepHandedRow
import Derived.SevenTiedAt
import Derived.ChangeOld
set_option linter.all false
namespace Go.Proofs.YtooigfkjdemnlaaGreatDoor
/-- The law answers true at every history. -/
theorem grades_ {w : World} {B : Nat} {h : List HTx} {tv : Value} (hh : HistV w B tv h) (hB : B ≤ w.heap.size) (hops : ∀ x ∈ h, x.ops.length ≤ 1048576) (hb : BansI w) :
    Calls Tryz.prog 4 #[.agg #[tv]] w fun e w' => e = .returned (.bool true) ∧ Go.RowKit.Below w.heap.size w w' := by
  by_cases hf : histFault h = none
  · exact gradesB_ hh hB hops hb hf
  · exact gradesA_ hh hB hops hb hf
end Go.Proofs.YtooigfkjdemnlaaGreatDoor
namespace Go.Proofs.YtooigfkjdemnlaaGreatDoor.adyaGrades
open Go.ChangeShapes Go.WideShapes Go.ChangeAt Go.RowKit Xw Xs
theorem own : ownKnob Tryz.prog.godebug = none := by kernel_rfl
theorem laidOut : laidOutB Tryz.prog = true := by kernel_rfl
theorem door_met (os : Os) (args : Array Value) : laidMetH Tryz.prog Rows.adyaGradesUptoRow.laid ((World.doorLaid Tryz.prog 400 os).forCall (fun _ _ => 0) ⟨#[], args, []⟩).memory :=
  laidMetH_of_parts3 (fuel := 8) (laidMet_of_run' 8 (by kernel_rfl) (by kernel_rfl)) (by kernel_rfl) (by kernel_rfl)
theorem door_pre (os : Os) (H : Type) (enc : TypeId × Value → H) : (Rows.OpenSpec.upto Rows.adyaGradesSpec).preRow enc Tryz.prog Tryz.f4 Rows.adyaGradesUptoRow.domain false Rows.adyaGradesUptoRow.laid ((World.doorLaid Tryz.prog 400 os).forCall (fun _ _ => 0) ⟨#[], #[.agg #[.slice none 0 0]], []⟩).memory #[.agg #[.slice none 0 0]] :=
  OpenSpec.preRow_of_cond 8 (x := ([.agg [.nil]], [], [])) (by kernel_rfl) rfl (fun k hk => by cases hk; kernel_rfl) (by kernel_rfl) (door_met os _)
theorem door_fits (os : Os) (H : Type) (enc : TypeId × Value → H) : ∃ (w : World) (tape : Tape) (i : Input), w.os = os ∧ (w.forCall tape i).Shaped Tryz.prog ∧ i.vars = [] ∧ Input.okWide Tryz.prog (w.forCall tape i) .any w.heap.size 4 i ∧
      (Rows.OpenSpec.upto Rows.adyaGradesSpec).preRow enc Tryz.prog Tryz.f4 Rows.adyaGradesUptoRow.domain false Rows.adyaGradesUptoRow.laid (w.forCall tape i).memory i.args ∧ ({} : Assume).holds Tryz.prog (lone (Frame.enter Tryz.prog 4 i.args .normal) [] (w.forCall tape i)) := by
  have hok : Input.okWideB Tryz.prog ((World.doorLaid Tryz.prog 400 os).forCall (fun _ _ => 0) ⟨#[], #[.agg #[.slice none 0 0]], []⟩) 4 ⟨#[], #[.agg #[.slice none 0 0]], []⟩ = true := by kernel_rfl
  exact ⟨World.doorLaid Tryz.prog 400 os, fun _ _ => 0, ⟨#[], #[.agg #[.slice none 0 0]], []⟩, rfl, World.shaped_of_RefB (by kernel_rfl) (by kernel_rfl), (Input.okWide_of_okWideB (base := 0) hok).1, (Input.okWide_of_okWideB hok).2, door_pre os H enc, by
    simp only [Assume.holds]
    exact ⟨by simp, by simp, fun _ => Modest.zero, by simp, by simp⟩⟩
set_option maxRecDepth 100000 in
theorem lifted (os : Os) (started : os.Started) (H : Type) (enc : TypeId × Value → H) (F : Stop.Interp) :
    ReturnsInHanded {} Tryz.checked os 4 .any ((Rows.OpenSpec.upto Rows.adyaGradesSpec).preRow enc Tryz.prog Tryz.f4 Rows.adyaGradesUptoRow.domain false Rows.adyaGradesUptoRow.laid) (((Rows.OpenSpec.upto Rows.adyaGradesSpec).at F).post enc Tryz.prog Tryz.f4 false true false false) := by
  refine returnsInHanded_of_row (C := Tryz.checked) (s := Rows.OpenSpec.upto Rows.adyaGradesSpec) own started (by kernel_rfl) Tryz.func4 (door_fits os H enc) ?_
  intro W base args ds gs before hval0 hW _ hk0 _ hlaid _ _
  have hk : Rows.uptoSmall H (ds ++ gs) = true := hk0 _ rfl
  have hbans : BansI W := of_laid hlaid
  have hW' := hW
  obtain ⟨p, q, hA0, hV, rfl, hfz, hnd⟩ := hW
  have hA : DataW.TrodAll enc Tryz.prog W 0 (fun _ => true) true Tryz.f4.params.toList args.toList ds p := hA0
  rw [Tryz.params4] at hA
  obtain ⟨v0, d0, rfl, rfl, h0⟩ := trodAll_one hA
  obtain ⟨rfl, rfl⟩ := trodVars_none hV
  have k0 := h0
  have lt0 : ∀ x ∈ p, x.block < W.heap.size := by obtain ⟨m, hm⟩ := k0; exact DataW.trod_lt m _ _ _ hm
  obtain ⟨fuel, h0⟩ := h0
  have hval : ∀ (j : Nat) t v, Tryz.f4.params[j]? = some t → #[v0][j]? = some v → Value.okWide Tryz.prog W .any base t v := hval0
  rw [Tryz.params4] at hval
  have hok := hval 0 28 v0 rfl rfl
  obtain ⟨cs, rfl, hcs⟩ := okWide_struct Tryz.underlying28 hok
  have hc1 : Tryz.prog.cellsOf 28 = 1 := by kernel_rfl
  rw [hc1] at hcs
  obtain ⟨sv, rfl⟩ := one_of hcs
  have h0 : DataW.trod enc Tryz.prog W 0 (fun _ => true) true fuel 28 [sv] = some (d0, p) := h0
  obtain ⟨xs, m, _, hy, _, hxl, hf⟩ := DataW.trod_struct Tryz.underlying28 h0
  obtain ⟨x0, e0, g0⟩ := field_of hf hxl 0 _ rfl 1 (by kernel_rfl)
  have g0 : DataW.trod enc Tryz.prog W 0 (fun _ => true) true m 26 [sv] = some x0 := g0
  obtain ⟨h, hist, hq⟩ := rows_of (α := HTx) (size := 9) (R := TxR W.heap.size) (Q := fun d x => x.ops.length ≤ Rows.uptoBulk d) Tryz.underlying26 (by kernel_rfl) (by omega) (fun n cs y hl h => txn_of n cs y hl h) g0
  have hd : d0 = .agg (xs.map (·.1)) := congrArg Prod.fst hy
  have hbulk : Rows.uptoBulk d0 ≤ 1048576 := by
    have := of_decide_eq_true hk
    simp only [Rows.uptoBulkAll, List.append_nil] at this
    exact this
  have hops : ∀ x ∈ h, x.ops.length ≤ 1048576 := by
    intro x hx
    obtain ⟨i, hi⟩ := List.mem_iff_getElem?.1 hx
    have hm : x0.1 ∈ xs.map (·.1) := List.mem_map.2 ⟨x0, List.mem_of_getElem? e0, rfl⟩
    have b1 := bulk_part hm
    have b2 : x.ops.length ≤ Rows.uptoBulk x0.1 := by
      rcases hq with ⟨_, rfl⟩ | ⟨D, sp, hd, hz⟩
      · simp at hx
      · have b3 := hz i x hi
        have hil := (List.getElem?_eq_some_iff.1 hi).1
        have b4 : Rows.uptoBulk (D i) ≤ Rows.uptoBulkAll ((List.range h.length).map D) := bulk_part (List.mem_map.2 ⟨i, List.mem_range.2 hil, rfl⟩)
        rw [hd]
        simp only [Rows.uptoBulk]
        omega
    rw [hd] at hbulk
    simp only [Rows.uptoBulk] at hbulk
    omega
  clear hval hval0 hA0 hA hk hk0
  refine (grades_ hist (Nat.le_refl _) hops hbans).mono fun e W' ⟨he, bel⟩ => ?_
  subst he
  exact ⟨_, rfl, _, _, _, [], _, [], hW', trodAll_mk1 (shut_bool Tryz.underlying4 _), trodAll_mk1 (Below.trod laidOut (by kernel_rfl) (of_decide_eq_true (by kernel_rfl)) k0 bel lt0), rfl, bel.frame _, fun h => by cases h⟩

theorem row_holds : Rows.AdyaGradesUptoSaid :=
  OpenClaim.holds_of_cond 4 Tryz.f4 rfl rfl rfl rfl rfl rfl rfl ⟨rfl, rfl, rfl, rfl, rfl⟩ rfl rfl rfl rfl rfl (by kernel_rfl) Tryz.func4 (by kernel_rfl)
    (of_decide_eq_true (by kernel_rfl)) (by unfold Func.isWrapper; first | (rw [if_pos (by decide +kernel)]; kernel_rfl) | (rw [if_neg (by decide +kernel)]; exact ⟨rfl, rfl⟩))
    (fun os started H enc _ F => by rw [OpenClaim.pre_eq_preRow]; exact lifted os started H enc F)

theorem card_holds : Rows.AdyaGradesUptoCardSaid :=
  Claim7.holds_tied_plain_at .later [] [.data] true (true, "4786a1ae390d9f9d2a8088a4b51785f1d8869c39e43064f2138ff97ad2761a83") true
    row_holds (fun _ h => by cases h) (by kernel_rfl) (fun _ h => by cases h) adyaGradesUpto_row_tie rfl ⟨rfl, rfl⟩ (by kernel_rfl) rfl
    (fun f fn hf hfn => by
      obtain rfl : f = 4 := Option.some.inj ((show Tryz.prog.funcNamed "strata/stratalaw14.AdyaGrades" = some 4 by kernel_rfl).symm.trans hf) |>.symm
      obtain rfl : fn = Tryz.f4 := (Option.some.inj (Tryz.func4.symm.trans hfn)).symm
      exact ⟨by kernel_rfl, fun j t ht => by
        rw [Tryz.params4] at ht
        have hm : t ∈ [28] := by simpa using Array.mem_of_getElem? ht
        have hall : ([28].all fun u => !Tryz.prog.wantsStandIn u) = true := by kernel_rfl
        exact (show Tryz.prog.wantsStandIn t = false by simpa using List.all_eq_true.1 hall t hm)⟩)
    (by kernel_rfl)
#print axioms card_holds
end Go.Proofs.YtooigfkjdemnlaaGreatDoor.adyaGrades
