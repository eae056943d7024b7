/- Own texts of this claim, joined in build order: LaL. -/
import Derived.Test.YtooigfkjdemnlaaGreatDoorL07
import Derived.Test.YtooigfkjdemnlaaGreatDoorL31
set_option linter.all false
namespace Go.Proofs.YtooigfkjdemnlaaGreatDoor
set_option maxRecDepth 100000
open Go.ChangeShapes Go.WideShapes Go.ChangeAt Go.RowKit Go.Deep Xw

theorem act_of {H : Type} {enc : TypeId × Value → H} {W : World} (n : Nat) (cs : List Value) (y : DataW H × List MemPlace) (hl : cs.length = 2) (h : DataW.trod enc Tryz.prog W 0 (fun _ => true) true n 72 cs = some y) :
    ∃ z : ActL, Flat actC W cs z ∧ True := by
  obtain ⟨xs, m, rfl, hy, _, hxl, hf⟩ := DataW.trod_struct Tryz.underlying72 h
  match cs, hl with
  | [a, b], _ =>
    obtain ⟨x0, e0, h0⟩ := field_of hf hxl 0 _ rfl 1 (by kernel_rfl)
    obtain ⟨x1, e1, h1⟩ := field_of hf hxl 1 _ rfl 1 (by kernel_rfl)
    have h0 : DataW.trod enc Tryz.prog W 0 (fun _ => true) true m 3 [a] = some x0 := h0
    have h1 : DataW.trod enc Tryz.prog W 0 (fun _ => true) true m 3 [b] = some x1 := h1
    obtain ⟨k0, g0, _, _⟩ := DataW.trod_int Tryz.underlying3 h0
    obtain ⟨k1, g1, _, _⟩ := DataW.trod_int Tryz.underlying3 h1
    simp only [List.cons.injEq, and_true] at g0 g1
    obtain rfl := g0
    obtain rfl := g1
    exact ⟨⟨k0, k1⟩, rfl, trivial⟩
theorem acts_of {H : Type} {enc : TypeId × Value → H} {W : World} (n : Nat) (cs : List Value) (y : DataW H × List MemPlace) (hl : cs.length = 1) (h : DataW.trod enc Tryz.prog W 0 (fun _ => true) true n 70 cs = some y) :
    ∃ z : List ActL, ActsR W.heap.size W cs z ∧ True := by
  match cs, hl with
  | [sv], _ =>
    obtain ⟨l, hl, _⟩ := rows_of (α := ActL) (size := 2) (R := Flat actC) (Q := fun _ _ => True) Tryz.underlying70 (by kernel_rfl) (by omega) (fun n cs y hl h => act_of n cs y hl h) h
    exact ⟨l, ⟨sv, rfl, hl⟩, trivial⟩
theorem line_of {H : Type} {enc : TypeId × Value → H} {W : World} (n : Nat) (sv : Value) (y : DataW H × List MemPlace) (h : DataW.trod enc Tryz.prog W 0 (fun _ => true) true n 22 [sv] = some y) :
    ∃ p : List (List ActL), LineV W W.heap.size sv p := by
  obtain ⟨l, hl, _⟩ := rows_of (α := List ActL) (size := 1) (R := ActsR W.heap.size) (Q := fun _ _ => True) Tryz.underlying22 (by kernel_rfl) (by omega) (fun n cs y hl h => acts_of n cs y hl h) h
  exact ⟨l, hl⟩
end Go.Proofs.YtooigfkjdemnlaaGreatDoor
