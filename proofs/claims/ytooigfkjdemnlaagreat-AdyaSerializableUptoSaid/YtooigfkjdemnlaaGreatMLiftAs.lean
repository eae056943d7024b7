/- AdyaSerializable answers true at every history, and its argument reads behind the call as it read before. The one condition: the argument is of bulk at most 1048576, as the given rows count it (AdyaSerializableUptoSaid). -/
import Derived.Test.YtooigfkjdemnlaaGreatM45
import Derived.JoinedCond
import Derived.ChangeOld
set_option linter.all false
namespace Go.Proofs.YtooigfkjdemnlaaGreat.adyaSerializable
open Go.ChangeShapes Go.WideShapes Go.ChangeAt Go.RowKit Xw Xs
theorem own : ownKnob Tryz.prog.godebug = none := by kernel_rfl
theorem laidOut : laidOutB Tryz.prog = true := by kernel_rfl

set_option maxRecDepth 100000 in
theorem lifted (os : Os) (started : os.Started) (H : Type) (enc : TypeId × Value → H) (F : Stop.Interp) :
    ReturnsInHanded {} Tryz.checked os 3 .any ((Rows.OpenSpec.upto Rows.adyaSerializableSpec).pre6 enc Tryz.prog Tryz.f3 Rows.adyaSerializableUptoRow.domain false) (((Rows.OpenSpec.upto Rows.adyaSerializableSpec).at F).post enc Tryz.prog Tryz.f3 false true false false) := by
  refine returnsInHanded_of_cond (C := Tryz.checked) (s := Rows.OpenSpec.upto Rows.adyaSerializableSpec) (k := Rows.uptoSmall) rfl own started (by kernel_rfl) Tryz.func3
    (OpenSpec.witness (enc := enc) (C := Tryz.checked) (s := Rows.OpenSpec.upto Rows.adyaSerializableSpec) (k := Rows.uptoSmall) rfl false ⟨#[], #[.agg #[.slice none 0 0]], []⟩ 8 (by kernel_rfl) (by kernel_rfl) (by kernel_rfl)
      (x := ([.agg [.nil]], [], [])) (by kernel_rfl) rfl (by kernel_rfl)) ?_
  intro W base args ds gs before hval0 hW _ hk _
  have hW' := hW
  obtain ⟨p, q, hA0, hV, rfl, hfz, hnd⟩ := hW
  have hA : DataW.TrodAll enc Tryz.prog W 0 (fun _ => true) true Tryz.f3.params.toList args.toList ds p := hA0
  rw [Tryz.params3] at hA
  obtain ⟨v0, d0, rfl, rfl, h0⟩ := trodAll_one hA
  obtain ⟨rfl, rfl⟩ := trodVars_none hV
  have k0 := h0
  have lt0 : ∀ x ∈ p, x.block < W.heap.size := by obtain ⟨m, hm⟩ := k0; exact DataW.trod_lt m _ _ _ hm
  obtain ⟨fuel, h0⟩ := h0
  have hval : ∀ (j : Nat) t v, Tryz.f3.params[j]? = some t → #[v0][j]? = some v → Value.okWide Tryz.prog W .any base t v := hval0
  rw [Tryz.params3] at hval
  have hok := hval 0 24 v0 rfl rfl
  obtain ⟨cs, rfl, hcs⟩ := okWide_struct Tryz.underlying24 hok
  have hc1 : Tryz.prog.cellsOf 24 = 1 := by kernel_rfl
  rw [hc1] at hcs
  obtain ⟨sv, rfl⟩ := one_of hcs
  have h0 : DataW.trod enc Tryz.prog W 0 (fun _ => true) true fuel 24 [sv] = some (d0, p) := h0
  obtain ⟨xs, m, _, hy, _, hxl, hf⟩ := DataW.trod_struct Tryz.underlying24 h0
  obtain ⟨x0, e0, g0⟩ := field_of hf hxl 0 _ rfl 1 (by kernel_rfl)
  have g0 : DataW.trod enc Tryz.prog W 0 (fun _ => true) true m 22 [sv] = some x0 := g0
  obtain ⟨h, hist, hq⟩ := rows_of (α := HTx) (size := 9) (R := TxR W.heap.size) (Q := fun d x => x.ops.length ≤ Rows.uptoBulk d) Tryz.underlying22 (by kernel_rfl) (by omega) (fun n cs y hl h => txn_of n cs y hl h) g0
  have hd : d0 = .agg (xs.map (·.1)) := congrArg Prod.fst hy
  have hbulk : Rows.uptoBulk d0 ≤ 1048576 := by
    have := of_decide_eq_true hk
    simp only [Rows.uptoBulkAll, List.append_nil] at this
    exact this
  have hops : ∀ x ∈ h, x.ops.length ≤ 1048576 := by
    intro x hx
    obtain ⟨i, hi⟩ := List.mem_iff_getElem?.1 hx
    have hm : x0.1 ∈ xs.map (·.1) := List.mem_map.2 ⟨x0, List.mem_of_getElem? e0, rfl⟩
    have b1 := bulk_part hm
    have b2 : x.ops.length ≤ Rows.uptoBulk x0.1 := by
      rcases hq with ⟨_, rfl⟩ | ⟨D, sp, hd, hz⟩
      · simp at hx
      · have b3 := hz i x hi
        have hil := (List.getElem?_eq_some_iff.1 hi).1
        have b4 : Rows.uptoBulk (D i) ≤ Rows.uptoBulkAll ((List.range h.length).map D) := bulk_part (List.mem_map.2 ⟨i, List.mem_range.2 hil, rfl⟩)
        rw [hd]
        simp only [Rows.uptoBulk]
        omega
    rw [hd] at hbulk
    simp only [Rows.uptoBulk] at hbulk
    omega
  clear hval hval0 hA0 hA hk
  refine (serializable_ hist (Nat.le_refl _) hops).mono fun e W' ⟨he, bel⟩ => ?_
  subst he
  exact ⟨_, rfl, _, _, _, [], _, [], hW', trodAll_mk1 (shut_bool Tryz.underlying4 _), trodAll_mk1 (Below.trod laidOut (by kernel_rfl) (of_decide_eq_true (by kernel_rfl)) k0 bel lt0), rfl, bel.frame _, fun h => by cases h⟩

theorem over : Rows.adyaSerializableUptoRow.holds Tryz.pinned (Rows.OpenSpec.upto Rows.adyaSerializableSpec) :=
  OpenClaim.holds_of_cond 3 Tryz.f3 rfl rfl rfl rfl rfl rfl rfl ⟨rfl, rfl, rfl, rfl, rfl⟩ rfl rfl rfl rfl rfl (by kernel_rfl) Tryz.func3 (by kernel_rfl)
    (of_decide_eq_true (by kernel_rfl)) (by unfold Func.isWrapper; first | (rw [if_pos (by decide +kernel)]; kernel_rfl) | (rw [if_neg (by decide +kernel)]; exact ⟨rfl, rfl⟩))
    (fun os started H enc _ F => lifted os started H enc F)
theorem proved : Rows.AdyaSerializableUptoSaid := over
#print axioms proved
end Go.Proofs.YtooigfkjdemnlaaGreat.adyaSerializable
