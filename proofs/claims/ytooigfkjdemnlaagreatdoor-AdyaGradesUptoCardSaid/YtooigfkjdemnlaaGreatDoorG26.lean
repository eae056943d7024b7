/- Own texts of this claim, joined in build order: G1, G2, G3, D1. -/
import Derived.Test.YtooigfkjdemnlaaGreatDoorG20
import Derived.Test.YtooigfkjdemnlaaGreatDoorG25
import Derived.Recover
import Derived.Test.YtooigfkjdemnlaaGreatDoorG04
import Derived.Test.YtooigfkjdemnlaaGreatDoorG05
import Derived.Test.YtooigfkjdemnlaaGreatDoorG22
import Derived.Test.YtooigfkjdemnlaaGreatDoorG21
set_option linter.all false
namespace Go.Proofs.YtooigfkjdemnlaaGreatDoor
set_option maxRecDepth 100000
open Go.RowKit Xw

theorem run_assert_fault (v : Value) (xt : TypeId) (w : World) : (Instr.typeAssert (.iface 76 v) xt 76 true).run Tryz.prog w = .ok (.tuple #[v, .bool true]) w := by
  unfold Instr.typeAssert
  simp only [Sem.run_bind, run_underlying Tryz.underlying76, Result.andThen]
  simp
set_option maxHeartbeats 2000000 in
theorem caught_ (p : Nat) (f : Int × Nat × Nat) (a b c : Value) (ty : TypeId) (w : World) (hc : w.heap[p]? = some (.cells #[a, b, c] ty)) :
    CallsD Tryz.prog 43 #[.pointer (some ⟨p, 0, none⟩)] (.panicking [{ v := faultV f, recovered := false }]) w fun e u' w' =>
      e = .returned (.tuple #[]) ∧ u' = .panicking [{ v := faultV f, recovered := true }] ∧ w'.heap[p]? = some (.cells #[.int .i64 f.1, .int .i64 f.2.1, .int .i64 f.2.2] ty) ∧ Chg (fun j => j = p) w w' := by
  obtain ⟨q, qf⟩ := cells_of (cs := [a, b, c]) hc
  have hlt := lt_of_heap hc
  refine callsD_of_wpS Tryz.func43 rfl fun c₀ cs hu => ?_
  apply wpS_seq
  apply wpS_region
  unfold faultV at hu ⊢
  simp [wpOpsS, go_sem, recoverD, hu, Tryz.ntmps43, Exit.thenS]
  refine wpS_of_wp ?_
  simp only [Array.replicate_succ, Array.replicate_zero, List.push_toArray, List.append_toArray, List.nil_append, List.cons_append, List.setIfInBounds_toArray, List.set_cons_zero, List.set_cons_succ]
  have q0 := q 0
  have q1 := q 1
  have q2 := q 2
  have qf0 := qf 0
  have qf1 := qf 1
  have qf2 := qf 2
  have HC := Lib.hid hc
  clear hc q qf hu
  have hta := run_assert_fault
  go_wp2
  simp [bodyPostS, results, Tryz.results43]
  have h1 := heap_setCell_same (i := 0) (v := .int .i64 f.1) HC.out
  have h2 := heap_setCell_same (i := 1) (v := .int .i64 f.2.1) h1
  have h3 := heap_setCell_same (i := 2) (v := .int .i64 f.2.2) h2
  refine ⟨?_, ?_⟩
  · rw [heap_alloc_lt (by simpa [World.setCell] using hlt)]
    simpa using h3
  · exact (((Chg.refl (fun j => j = p) w).setCell _ _ (fun _ => rfl)).setCell _ _ (fun _ => rfl)).setCell _ _ (fun _ => rfl) |>.alloc _

theorem idle_ (p : Nat) (w : World) : CallsD Tryz.prog 43 #[.pointer (some ⟨p, 0, none⟩)] .returning w fun e u' w' => e = .returned (.tuple #[]) ∧ u' = .returning ∧ w' = w := by
  refine callsD_of_wpS Tryz.func43 rfl fun c₀ cs hu => ?_
  apply wpS_seq
  apply wpS_region
  simp [wpOpsS, go_sem, recoverD, hu, Tryz.ntmps43, Exit.thenS]
  refine wpS_of_wp ?_
  simp only [Array.replicate_succ, Array.replicate_zero, List.push_toArray, List.append_toArray, List.nil_append, List.cons_append, List.setIfInBounds_toArray, List.set_cons_zero, List.set_cons_succ]
  go_wp2
  cases c₀
  simp_all [bodyPostS, results, Tryz.results43]

theorem run_fn_ne (F : FuncId) (caps : Array Value) (w : World) : (binOp .neq 90 (.func (.func F) #[] caps) .nilFunc).run Tryz.prog w = .ok (.bool true) w := by
  rw [binOp_neq (.inr (.inr rfl))]
  unfold Op.equal
  show Sem.run _ (Op.equalIn (9999 + 1) _ _ _ >>= _) _ = _
  unfold Op.equalIn
  simp only [Sem.run_bind, run_underlying Tryz.underlying90, Result.andThen]
  rfl
def faultRes : Option (Int × Nat × Nat) → Value
  | none => .agg #[.int .i64 0, .int .i64 0, .int .i64 0]
  | some f => .agg #[.int .i64 f.1, .int .i64 f.2.1, .int .i64 f.2.2]

set_option maxHeartbeats 4000000 in
theorem guarded_ {w : World} {B : Nat} {h : List HTx} {tv : Value} (hh : HistV w B tv h) (hB : B ≤ w.heap.size) (hops : ∀ x ∈ h, x.ops.length ≤ 1048576) (F : FuncId) (caps : Array Value)
    (eg : ∀ args w, (callFunc F args).run Tryz.prog w = .ok (.enter F args) w) (Post : Option (Int × Nat × Nat) → World → Prop)
    (hrun : ∀ lp w1, Led w1 w1.heap.size lp h → Below w.heap.size w w1 → w.heap.size + 1 < w1.heap.size → histFault h = none → Calls Tryz.prog F (#[.pointer (some ⟨lp, 0, none⟩)] ++ caps) w1 fun e w2 => ∃ f, e = faultEnd (.tuple #[]) f ∧ Post f w2 ∧ w2.heap[w.heap.size + 1]? = w1.heap[w.heap.size + 1]?)
    (hpost : ∀ f w2 w3, Post f w2 → Chg (fun j => j = w.heap.size + 1) w2 w3 → Post f w3)
    (hfault : ∀ f w3, histFault h = some f → Below w.heap.size w w3 → Post (some f) w3) :
    Calls Tryz.prog 18 #[.agg #[tv], .func (.func F) #[] caps] w fun e w' => ∃ f, e = .returned (faultRes f) ∧ Post f w' := by
  obtain ⟨A, c, rfl, hn0, hm0⟩ := Rows.shape hh
  simp only [maxLen] at hm0
  have hmf : ∀ (fn : Fn) (first cap : Array Value) (w : World), (Instr.makeFunc fn first cap).run Tryz.prog w = .ok (.func fn first cap) w := fun _ _ _ _ => rfl
  by_cases hbig : 256 < h.length
  · have hbi : (256 : Int) < h.length := by omega
    have hF : histFault h = some (141, 0, 0) := by unfold histFault; rw [if_pos hbig]
    have hP : ∀ w3, Below w.heap.size w w3 → Post (some (141, 0, 0)) w3 := fun w3 h3 => hfault _ w3 hF h3
    have HP := Lib.hid hP
    clear hP hF hpost hfault hrun hbig
    go_enter_defers Tryz.func18, Tryz.ntmps18
    go_wp2
    refine leaves_cons (f := 43) (args := #[.pointer (some ⟨w.heap.size + 1, 0, none⟩)]) (by simp) (by simp [go_sem]) ?_
    refine (caught_ (w.heap.size + 1) (141, 0, 0) _ _ _ _ _ (top_al _ _ (by simp))).mono ?_
    rintro e u' w3 ⟨rfl, rfl, hb3, hc3⟩
    obtain ⟨cv, _⟩ := cells_of hb3
    have cv0 := cv 0
    have cv1 := cv 1
    have cv2 := cv 2
    have hB3 : Below w.heap.size w w3 := (bel2 w _ _).trans (hc3.below (fun j hj => by omega) (by simp; omega))
    simp [Leaves, settle, results, Tryz.results18, go_sem, cv0, cv1, cv2]
    exact ⟨some (141, 0, 0), rfl, HP.out _ hB3⟩
  · have hbi : ¬ (256 : Int) < h.length := by omega
    obtain ⟨W2, hW2⟩ : ∃ W2, W2 = (w.alloc (.cells #[.slice A h.length c] 28)).alloc (.cells #[.int .i64 0, .int .i64 0, .int .i64 0] 76) := ⟨_, rfl⟩
    have hz2 : W2.heap.size = w.heap.size + 2 := by rw [hW2]; simp
    have hB2 : Below w.heap.size w W2 := by rw [hW2]; exact bel2 _ _ _
    have hf2 : W2.heap[w.heap.size + 1]? = some (.cells #[.int .i64 0, .int .i64 0, .int .i64 0] 76) := by rw [hW2]; exact top_al _ _ (by simp)
    have hh2 := hh.keep (fun j hj => hB2.block j (by omega))
    have HF : Hid (histFault h = checkFault h h.length) := Lib.hid (by unfold histFault; rw [if_neg hbig])
    have HR := Lib.hid hrun
    have HP := Lib.hid hpost
    have HFT := Lib.hid hfault
    have HW2 := Lib.hid hW2
    clear hW2 hrun hpost hfault hbig
    have hop := Lib.hid (open_ hh2 (by omega) (by omega) hops)
    go_enter_defers Tryz.func18, Tryz.ntmps18
    go_wp2_with fail
    rw [← HW2.out]
    refine hop.out.mono ?_
    rintro e w3 ⟨lp, rfl, hL3, hB3⟩
    have hck := Lib.hid (check_ hL3)
    go_wp2_with fail
    refine hck.out.mono ?_
    cases hcf : checkFault h h.length with
    | some f =>
      rintro e w4 ⟨he, hB4⟩
      obtain rfl : e = .panicked [{ v := .iface 76 (.agg #[.int .i64 f.1, .int .i64 f.2.1, .int .i64 f.2.2]), recovered := false }] := he
      have hf4 := (hB4.block (w.heap.size + 1) (by have := hB3.size; omega)).trans ((hB3.block (w.heap.size + 1) (by omega)).trans hf2)
      have hFF : histFault h = some f := by rw [HF.out, hcf]
      have hBw4 : Below w.heap.size w w4 := (hB2.trans (hB3.mono (by omega))).trans (hB4.mono (by have := hB3.size; omega))
      have HFF := Lib.hid hFF
      clear hFF hcf
      go_wp2_with fail
      refine leaves_cons (f := 43) (args := #[.pointer (some ⟨w.heap.size + 1, 0, none⟩)]) (by simp) (by simp [go_sem]) ?_
      refine (caught_ (w.heap.size + 1) f _ _ _ _ _ hf4).mono ?_
      rintro e u' w5 ⟨rfl, rfl, hb5, hc5⟩
      obtain ⟨cv, _⟩ := cells_of hb5
      have cv0 := cv 0
      have cv1 := cv 1
      have cv2 := cv 2
      simp [Leaves, settle, results, Tryz.results18, go_sem, cv0, cv1, cv2]
      exact ⟨some f, rfl, HFT.out f _ HFF.out (hBw4.trans (hc5.below (fun j hj => by omega) hBw4.size))⟩
    | none =>
      rintro e w4 ⟨he, hB4⟩
      obtain rfl : e = .returned (.tuple #[]) := he
      have hf4 := (hB4.block (w.heap.size + 1) (by have := hB3.size; omega)).trans ((hB3.block (w.heap.size + 1) (by omega)).trans hf2)
      have hBw4 : Below w.heap.size w w4 := (hB2.trans (hB3.mono (by omega))).trans (hB4.mono (by have := hB3.size; omega))
      have hL4 : Led w4 w4.heap.size lp h := (hL3.below hB4 (Nat.le_refl _)).more hB4.size (Nat.le_refl _)
      have hrun := Lib.hid (HR.out lp w4 hL4 hBw4 (by have := hB3.size; have := hB4.size; omega) (by rw [HF.out, hcf]))
      clear hcf
      have hne := run_fn_ne F caps
      go_wp2_with fail
      refine hrun.out.mono ?_
      rintro e w5 ⟨f, he, hp, hsame⟩
      have hf5 := hsame.trans hf4
      obtain ⟨q, qf⟩ := cells_of hf5
      cases f with
      | some f =>
        obtain rfl : e = .panicked [{ v := .iface 76 (.agg #[.int .i64 f.1, .int .i64 f.2.1, .int .i64 f.2.2]), recovered := false }] := he
        clear q qf
        go_wp2_with fail
        refine leaves_cons (f := 43) (args := #[.pointer (some ⟨w.heap.size + 1, 0, none⟩)]) (by simp) (by simp [go_sem]) ?_
        refine (caught_ (w.heap.size + 1) f _ _ _ _ _ hf5).mono ?_
        rintro e u' w6 ⟨rfl, rfl, hb6, hc6⟩
        obtain ⟨cv, _⟩ := cells_of hb6
        have cv0 := cv 0
        have cv1 := cv 1
        have cv2 := cv 2
        simp [Leaves, settle, results, Tryz.results18, go_sem, cv0, cv1, cv2]
        exact ⟨some f, rfl, HP.out (some f) _ _ hp hc6⟩
      | none =>
        obtain rfl : e = .returned (.tuple #[]) := he
        have q0 := q 0
        have q1 := q 1
        have q2 := q 2
        have qf0 := qf 0
        have qf1 := qf 1
        have qf2 := qf 2
        have HF5 := Lib.hid hf5
        clear q qf hf5
        go_wp2_with fail
        refine leaves_cons (f := 43) (args := #[.pointer (some ⟨w.heap.size + 1, 0, none⟩)]) (by simp) (by simp [go_sem]) ?_
        refine (idle_ (w.heap.size + 1) _).mono ?_
        rintro e u' w6 ⟨rfl, rfl, hw6⟩
        have h1 := heap_setCell_same (i := 0) (v := .int .i64 0) HF5.out
        have h2 := heap_setCell_same (i := 1) (v := .int .i64 0) h1
        have h3 := heap_setCell_same (i := 2) (v := .int .i64 0) h2
        have hb6 : w6.heap[w.heap.size + 1]? = some (.cells #[.int .i64 0, .int .i64 0, .int .i64 0] 76) := by rw [hw6]; simpa using h3
        have hc6 : Chg (fun j => j = w.heap.size + 1) w5 w6 := by rw [hw6]; exact ((((Chg.refl (fun j => j = w.heap.size + 1) _).setCell _ _ (fun _ => rfl)).setCell _ _ (fun _ => rfl)).setCell _ _ (fun _ => rfl))
        obtain ⟨cv, _⟩ := cells_of hb6
        have cv0 := cv 0
        have cv1 := cv 1
        have cv2 := cv 2
        clear hw6
        simp [Leaves, settle, results, Tryz.results18, go_sem, cv0, cv1, cv2]
        exact ⟨none, rfl, HP.out none _ _ hp hc6⟩
end Go.Proofs.YtooigfkjdemnlaaGreatDoor

namespace Go.Proofs.YtooigfkjdemnlaaGreatDoor
set_option maxRecDepth 100000
open Go.RowKit Xw
theorem run_fn_nil (w : World) : (binOp .neq 90 .nilFunc .nilFunc).run Tryz.prog w = .ok (.bool false) w := by
  rw [binOp_neq (.inr (.inr rfl))]
  unfold Op.equal
  show Sem.run _ (Op.equalIn (9999 + 1) _ _ _ >>= _) _ = _
  unfold Op.equalIn
  simp only [Sem.run_bind, run_underlying Tryz.underlying90, Result.andThen]
  rfl
set_option maxHeartbeats 4000000 in
theorem guardedNil_ {w : World} {B : Nat} {h : List HTx} {tv : Value} (hh : HistV w B tv h) (hB : B ≤ w.heap.size) (hops : ∀ x ∈ h, x.ops.length ≤ 1048576) :
    Calls Tryz.prog 18 #[.agg #[tv], .nilFunc] w fun e w' => e = .returned (faultRes (histFault h)) ∧ Below w.heap.size w w' := by
  have hfault : ∀ (f : Int × Nat × Nat) (w3 : World), histFault h = some f → Below w.heap.size w w3 → histFault h = some f ∧ Below w.heap.size w w3 := fun _ _ h1 h2 => ⟨h1, h2⟩
  obtain ⟨A, c, rfl, hn0, hm0⟩ := Rows.shape hh
  simp only [maxLen] at hm0
  have hmf : ∀ (fn : Fn) (first cap : Array Value) (w : World), (Instr.makeFunc fn first cap).run Tryz.prog w = .ok (.func fn first cap) w := fun _ _ _ _ => rfl
  by_cases hbig : 256 < h.length
  · have hbi : (256 : Int) < h.length := by omega
    have hF : histFault h = some (141, 0, 0) := by unfold histFault; rw [if_pos hbig]
    have HP := Lib.hid hF
    clear hF hfault hbig
    go_enter_defers Tryz.func18, Tryz.ntmps18
    go_wp2
    refine leaves_cons (f := 43) (args := #[.pointer (some ⟨w.heap.size + 1, 0, none⟩)]) (by simp) (by simp [go_sem]) ?_
    refine (caught_ (w.heap.size + 1) (141, 0, 0) _ _ _ _ _ (top_al _ _ (by simp))).mono ?_
    rintro e u' w3 ⟨rfl, rfl, hb3, hc3⟩
    obtain ⟨cv, _⟩ := cells_of hb3
    have cv0 := cv 0
    have cv1 := cv 1
    have cv2 := cv 2
    have hB3 : Below w.heap.size w w3 := (bel2 w _ _).trans (hc3.below (fun j hj => by omega) (by simp; omega))
    simp [Leaves, settle, results, Tryz.results18, go_sem, cv0, cv1, cv2]
    rw [HP.out]
    exact ⟨rfl, hB3⟩
  · have hbi : ¬ (256 : Int) < h.length := by omega
    obtain ⟨W2, hW2⟩ : ∃ W2, W2 = (w.alloc (.cells #[.slice A h.length c] 28)).alloc (.cells #[.int .i64 0, .int .i64 0, .int .i64 0] 76) := ⟨_, rfl⟩
    have hz2 : W2.heap.size = w.heap.size + 2 := by rw [hW2]; simp
    have hB2 : Below w.heap.size w W2 := by rw [hW2]; exact bel2 _ _ _
    have hf2 : W2.heap[w.heap.size + 1]? = some (.cells #[.int .i64 0, .int .i64 0, .int .i64 0] 76) := by rw [hW2]; exact top_al _ _ (by simp)
    have hh2 := hh.keep (fun j hj => hB2.block j (by omega))
    have HF : Hid (histFault h = checkFault h h.length) := Lib.hid (by unfold histFault; rw [if_neg hbig])
    have HW2 := Lib.hid hW2
    clear hW2 hfault hbig
    have hop := Lib.hid (open_ hh2 (by omega) (by omega) hops)
    go_enter_defers Tryz.func18, Tryz.ntmps18
    go_wp2_with fail
    rw [← HW2.out]
    refine hop.out.mono ?_
    rintro e w3 ⟨lp, rfl, hL3, hB3⟩
    have hck := Lib.hid (check_ hL3)
    go_wp2_with fail
    refine hck.out.mono ?_
    cases hcf : checkFault h h.length with
    | some f =>
      rintro e w4 ⟨he, hB4⟩
      obtain rfl : e = .panicked [{ v := .iface 76 (.agg #[.int .i64 f.1, .int .i64 f.2.1, .int .i64 f.2.2]), recovered := false }] := he
      have hf4 := (hB4.block (w.heap.size + 1) (by have := hB3.size; omega)).trans ((hB3.block (w.heap.size + 1) (by omega)).trans hf2)
      have hFF : histFault h = some f := by rw [HF.out, hcf]
      have hBw4 : Below w.heap.size w w4 := (hB2.trans (hB3.mono (by omega))).trans (hB4.mono (by have := hB3.size; omega))
      have HFF := Lib.hid hFF
      clear hFF hcf
      go_wp2_with fail
      refine leaves_cons (f := 43) (args := #[.pointer (some ⟨w.heap.size + 1, 0, none⟩)]) (by simp) (by simp [go_sem]) ?_
      refine (caught_ (w.heap.size + 1) f _ _ _ _ _ hf4).mono ?_
      rintro e u' w5 ⟨rfl, rfl, hb5, hc5⟩
      obtain ⟨cv, _⟩ := cells_of hb5
      have cv0 := cv 0
      have cv1 := cv 1
      have cv2 := cv 2
      simp [Leaves, settle, results, Tryz.results18, go_sem, cv0, cv1, cv2]
      rw [HFF.out]
      exact ⟨rfl, hBw4.trans (hc5.below (fun j hj => by omega) hBw4.size)⟩
    | none =>
      rintro e w4 ⟨he, hB4⟩
      obtain rfl : e = .returned (.tuple #[]) := he
      have hf4 := (hB4.block (w.heap.size + 1) (by have := hB3.size; omega)).trans ((hB3.block (w.heap.size + 1) (by omega)).trans hf2)
      have hBw4 : Below w.heap.size w w4 := (hB2.trans (hB3.mono (by omega))).trans (hB4.mono (by have := hB3.size; omega))
      have hFF : histFault h = none := by rw [HF.out, hcf]
      have HFF := Lib.hid hFF
      clear hFF hcf
      have hne := run_fn_nil
      obtain ⟨w5, rfl⟩ : ∃ w5 : World, w5 = w4 := ⟨_, rfl⟩
      have hf5 := hf4
      obtain ⟨q, qf⟩ := cells_of hf5
      have q0 := q 0
      have q1 := q 1
      have q2 := q 2
      have qf0 := qf 0
      have qf1 := qf 1
      have qf2 := qf 2
      have HF5 := Lib.hid hf5
      clear q qf hf5 hf4
      go_wp2_with fail
      refine leaves_cons (f := 43) (args := #[.pointer (some ⟨w.heap.size + 1, 0, none⟩)]) (by simp) (by simp [go_sem]) ?_
      refine (idle_ (w.heap.size + 1) _).mono ?_
      rintro e u' w6 ⟨rfl, rfl, hw6⟩
      have h1 := heap_setCell_same (i := 0) (v := .int .i64 0) HF5.out
      have h2 := heap_setCell_same (i := 1) (v := .int .i64 0) h1
      have h3 := heap_setCell_same (i := 2) (v := .int .i64 0) h2
      have hb6 : w6.heap[w.heap.size + 1]? = some (.cells #[.int .i64 0, .int .i64 0, .int .i64 0] 76) := by rw [hw6]; simpa using h3
      have hc6 : Chg (fun j => j = w.heap.size + 1) w5 w6 := by rw [hw6]; exact ((((Chg.refl (fun j => j = w.heap.size + 1) _).setCell _ _ (fun _ => rfl)).setCell _ _ (fun _ => rfl)).setCell _ _ (fun _ => rfl))
      obtain ⟨cv, _⟩ := cells_of hb6
      have cv0 := cv 0
      have cv1 := cv 1
      have cv2 := cv 2
      clear hw6
      simp [Leaves, settle, results, Tryz.results18, go_sem, cv0, cv1, cv2]
      rw [HFF.out]
      exact ⟨rfl, hBw4.trans (hc6.below (fun j hj => by omega) hBw4.size)⟩
end Go.Proofs.YtooigfkjdemnlaaGreatDoor

namespace Go.Proofs.YtooigfkjdemnlaaGreatDoor
set_option maxRecDepth 100000
open Go.RowKit Xw
def errOf : Option (Int × Nat × Nat) → Int
  | none => 0
  | some f => f.1
def txnOf : Option (Int × Nat × Nat) → Int
  | none => 0
  | some f => f.2.1
def opOf : Option (Int × Nat × Nat) → Int
  | none => 0
  | some f => f.2.2
theorem faultRes_eq (f : Option (Int × Nat × Nat)) : faultRes f = .agg #[.int .i64 (errOf f), .int .i64 (txnOf f), .int .i64 (opOf f)] := by cases f <;> rfl
set_option maxHeartbeats 1000000 in
theorem checkC_ {w : World} {B : Nat} {h : List HTx} {tv : Value} (hh : HistV w B tv h) (hB : B ≤ w.heap.size) (hops : ∀ x ∈ h, x.ops.length ≤ 1048576) :
    Calls Tryz.prog 7 #[.agg #[tv]] w fun e w' => e = .returned (.tuple #[.int .i64 (errOf (histFault h)), .int .i64 (txnOf (histFault h)), .int .i64 (opOf (histFault h))]) ∧ Below w.heap.size w w' := by
  obtain ⟨A, c, rfl, hn0, hm0⟩ := Rows.shape hh
  have hB1 := bel1 w (.cells #[.slice A h.length c] 28)
  have hg := guardedNil_ (hh.keep (fun j hj => hB1.block j (by omega))) (by simp; omega) hops
  rw [faultRes_eq] at hg
  obtain ⟨E, hE⟩ : ∃ E, E = errOf (histFault h) := ⟨_, rfl⟩
  obtain ⟨T, hT⟩ : ∃ T, T = txnOf (histFault h) := ⟨_, rfl⟩
  obtain ⟨O, hO⟩ : ∃ O, O = opOf (histFault h) := ⟨_, rfl⟩
  rw [← hE, ← hT, ← hO] at hg
  rw [← hE, ← hT, ← hO]
  have HG := Lib.hid hg
  clear hg hE hT hO hh
  go_enter Tryz.func7, Tryz.ntmps7
  go_wp2_with (first
    | (with_reducible refine wp_region_free (by kernel_rfl) (fun _ _ => ?_))
    | (go_at_call 18; refine HG.out.mono ?_; rintro e w1 ⟨rfl, hB2⟩))
  refine bodyPost_ret (results_tmp3 rfl _ _ _) rfl ?_
  exact ⟨rfl, ((hB1.trans (hB2.mono (by simp))).alloc (by have := hB2.size; simp at this; omega) _).drew⟩
end Go.Proofs.YtooigfkjdemnlaaGreatDoor

namespace Go.Proofs.YtooigfkjdemnlaaGreatDoor
set_option maxRecDepth 100000
open Go.RowKit Xw

def RowsN {α : Type} (w : World) (lo size : Nat) (ev : α → List Value) (v : Value) (l : List α) : Prop := Rows w w.heap.size size (Flat ev) v l ∧ ∀ a n c, v = .slice (some a) n c → lo ≤ a.block
theorem RowsN.chg {α : Type} {w w' : World} {lo size : Nat} {ev : α → List Value} {v : Value} {l : List α} {F : Nat → Prop} (h : RowsN w lo size ev v l) (hc : Chg F w w') (hF : ∀ j, F j → j < lo) : RowsN w' lo size ev v l := by
  obtain ⟨h1, h2⟩ := h
  refine ⟨?_, h2⟩
  rcases h1 with ⟨e, A, c, hv, hcm⟩ | ⟨b, o, c, hv, hb, hlc, hcm, hne, hx⟩
  · exact .inl ⟨e, A, c, hv, hcm⟩
  · have hlo := h2 _ _ _ hv
    refine .inr ⟨b, o, c, hv, Nat.lt_of_lt_of_le hb hc.size, hlc, hcm, hne, fun i x hi => ?_⟩
    obtain ⟨cs, g1, g2, g3⟩ := hx i x hi
    exact ⟨cs, g1, g2, fun j u hj => (World.cell?_of_block (a := ⟨b, o + i * size + j, none⟩) (hc.block b hb (fun hf => by have := hF b hf; simp only at hlo; omega))).trans (g3 j u hj)⟩
set_option maxHeartbeats 2000000 in
theorem edges1_ {w : World} {lp ob : Nat} {h : List HTx} (hl : Led w w.heap.size lp h) (L : Lim h) {ev0 : Value} {ty : TypeId} (hob : w.heap[ob]? = some (.cells #[ev0] ty)) :
    Calls Tryz.prog 42 #[.pointer (some ⟨lp, 0, none⟩), .pointer (some ⟨ob, 0, none⟩)] w fun e w' => e = .returned (.tuple #[]) ∧ ∃ v, w'.heap[ob]? = some (.cells #[v] ty) ∧ Chg (fun j => j = ob) w w' ∧ RowsN w' w.heap.size 4 edgeC v (edgesOf h) := by
  have hol := lt_of_heap hob
  have hbd := Lib.hid (build_ hl L)
  go_enter Tryz.func42, Tryz.ntmps42
  go_wp2_with (go_at_call 24; with_reducible refine hbd.out.mono ?_
               rintro e w1 ⟨gb, rfl, hG, hB⟩
               obtain ⟨hled, ⟨ev, mb, g1, hr, hm, hnew⟩, hgl⟩ := hG
               obtain ⟨A, c, rfl, hc1, hc2⟩ := hr.shape
               have q1 := (cells_of g1).1 1
               have hob1 := (hB.block ob hol).trans hob
               obtain ⟨p0, pf⟩ := cells_of (cs := [ev0]) hob1
               have p00 := p0 0
               have pf0 := pf 0
               have HOB := Lib.hid hob1
               clear g1 hm hob1 p0 pf)
  go_end0
  have hset : Chg (fun j => j = ob) w1 (w1.setCell ⟨ob, 0, none⟩ (.slice A (edgesOf h).length c)) := (Chg.refl _ _).setCell _ _ (fun _ => rfl)
  refine ⟨rfl, .slice A (edgesOf h).length c, ?_, ?_, ?_⟩
  · simpa using heap_setCell_same (i := 0) (v := .slice A (edgesOf h).length c) HOB.out
  · exact ((Chg.of_below hB).mono (G := fun j => j = ob) (fun j hj h => absurd h (by omega))).trans hset (fun _ _ h => h)
  · exact RowsN.chg (F := fun j => j = ob) ⟨hr, hnew⟩ hset (fun j hj => by subst hj; exact hol)
def Told {α : Type} (w : World) (ob lo size : Nat) (ev : α → List Value) (h : List HTx) (l : List α) (ty : TypeId) (f : Option (Int × Nat × Nat)) (w' : World) : Prop :=
  Below w.heap.size w w' ∧ f = histFault h ∧ (f = none → ∃ v, w'.heap[ob]? = some (.cells #[v] ty) ∧ RowsN w' lo size ev v l)
set_option maxHeartbeats 2000000 in
theorem edges_ {w : World} {B : Nat} {h : List HTx} {tv : Value} (hh : HistV w B tv h) (hB : B ≤ w.heap.size) (hops : ∀ x ∈ h, x.ops.length ≤ 1048576) :
    Calls Tryz.prog 15 #[.agg #[tv]] w fun e w' => Below w.heap.size w w' ∧ ∃ v, e = .returned (.tuple #[v, .int .i64 (errOf (histFault h))]) ∧ (histFault h = none → RowsN w' w.heap.size 4 edgeC v (edgesOf h)) := by
  obtain ⟨A, c, rfl, hn0, hm0⟩ := Rows.shape hh
  obtain ⟨W2, hW2⟩ : ∃ W2, W2 = (w.alloc (.cells #[.slice A h.length c] 28)).alloc (.cells #[.slice none 0 0] 61) := ⟨_, rfl⟩
  have hz2 : W2.heap.size = w.heap.size + 2 := by rw [hW2]; simp
  have hB2 : Below w.heap.size w W2 := by rw [hW2]; exact bel2 _ _ _
  have hob : W2.heap[w.heap.size + 1]? = some (.cells #[.slice none 0 0] 61) := by rw [hW2]; exact top_al _ _ (by simp)
  have hg := guarded_ (hh.keep (fun j hj => hB2.block j (by omega))) (show B ≤ W2.heap.size by omega) hops 42 #[.pointer (some ⟨w.heap.size + 1, 0, none⟩)] (enters_of Tryz.func42 (by kernel_rfl) rfl)
    (fun f w' => Below w.heap.size w w' ∧ f = histFault h ∧ ∃ v, w'.heap[w.heap.size + 1]? = some (.cells #[v] 61) ∧ (f = none → RowsN w' (W2.heap.size + 2) 4 edgeC v (edgesOf h)))
    (fun lp w1 hl hb hsz hf => by
      refine (edges1_ hl (fine_of hf).lim ((hb.block (w.heap.size + 1) (by omega)).trans hob)).mono ?_
      rintro e w2 ⟨rfl, v, h1, h2, h3⟩
      refine ⟨none, rfl, ⟨?_, hf.symm, v, h1, fun _ => ⟨h3.1, fun a n c hv => by have := h3.2 a n c hv; omega⟩⟩, h2.block _ hsz (by omega)⟩
      exact (hB2.trans (hb.mono (by omega))).trans (h2.below (fun j hj => by omega) (by have := hb.size; omega)))
    (fun f w2 w3 ⟨h1, h2, v, h3, h4⟩ hc => ⟨h1.trans (hc.below (fun j hj => by omega) h1.size), h2, v, (hc.block _ (lt_of_heap h3) (by omega)).trans h3, fun hf => (h4 hf).chg hc (fun j hj => by omega)⟩)
    (fun f w3 hf hb => ⟨hB2.trans (hb.mono (by omega)), hf.symm, _, (hb.block _ (by omega)).trans hob, fun h => by cases h⟩)
  have HG := Lib.hid hg
  have HW2 := Lib.hid hW2
  clear hg hW2 hh
  have hmf : ∀ (fn : Fn) (first cap : Array Value) (w : World), (Instr.makeFunc fn first cap).run Tryz.prog w = .ok (.func fn first cap) w := fun _ _ _ _ => rfl
  obtain ⟨E, hE⟩ : ∃ E, E = errOf (histFault h) := ⟨_, rfl⟩
  rw [← hE]
  have HE := Lib.hid hE
  clear hE
  go_enter Tryz.func15, Tryz.ntmps15
  go_wp2_with (first
    | (with_reducible refine wp_region_free (by kernel_rfl) (fun _ _ => ?_))
    | (go_at_call 18; rw [← HW2.out]; refine HG.out.mono ?_
       rintro e w1 ⟨f, rfl, hb1, hf, v, hv, hrows⟩
       rw [faultRes_eq]
       have q0 := (heap_cell hv).1
       have hol := lt_of_heap hv
       have hErr : errOf f = E := by rw [hf, HE.out]
       have HV := Lib.hid (And.intro hv (And.intro hb1 (And.intro hf hrows)))
       clear hv hf hrows
       obtain ⟨T, hT⟩ : ∃ T, T = txnOf f := ⟨_, rfl⟩
       obtain ⟨O, hO⟩ : ∃ O, O = opOf f := ⟨_, rfl⟩
       rw [← hT, ← hO, hErr]
       clear hT hO hErr))
  refine bodyPost_ret (results_tmp2 rfl _ _ _) rfl ?_
  obtain ⟨h1, h2, h3, h4⟩ := HV.out
  have hal : ∀ o : Obj, Chg (fun _ => False) w1 (w1.alloc o).drew := fun o => ((Chg.refl _ _).alloc o).drew
  refine ⟨(h2.alloc h2.size _).drew, v, rfl, fun hf => ?_⟩
  have h5 := h4 (h3.trans hf)
  exact ⟨(RowsN.chg h5 (hal _) (fun _ f => f.elim)).1, fun a n c hv => by have := h5.2 a n c hv; omega⟩
end Go.Proofs.YtooigfkjdemnlaaGreatDoor
