/- Walks: both sides' calls as 'noted' makes them, and the making of a set. -/
import Derived.Test.YtflinpnmpkdopaaRef2
import Derived.Test.YtflinpnmpkdopaaNote4
namespace Go.Proofs.Ytflinpnmpkdopaa
set_option linter.unusedVariables false
set_option linter.unusedSimpArgs false
open Go.RowKit Go.Maps Go.ChangeMaps Xw

set_option maxRecDepth 100000 in
theorem read_ (sb : Nat) (l : List Int) (rs : List Rng) (F : Nat → Prop) (A : Option Addr) (n c : Nat) (xs : List Int) (w : World) (h : SeesAt w sb l rs F) (hr : Reads w w.heap.size 1 A n (iCells xs)) (hA : ∀ ad, A = some ad → 0 < n → ¬ F ad.block)
    (hok : ∀ x ∈ xs, i64ok x) (hb : n * 8 ≤ 140737488351232) :
    Calls Try.prog 28 #[.pointer (some ⟨sb, 0, none⟩), .slice A n c] w (NotePost F w sb (noteI l xs).1 rs (noteI l xs).2) := by
  go_enter Try.func28, Try.ntmps28
  go_wp2_with (go_at_call 39; refine (note_int sb l rs F A n c xs w h hr hA hok hb).mono ?_; rintro e w1 ⟨F', rfl, h1, h2, h3⟩)
  go_ret
  exact ⟨F', rfl, h1, h2, h3⟩

theorem raddAll_one (l : List Rng) (x : Rng) : raddAll l [x] = raddOne l x := rfl

set_option maxRecDepth 100000 in
theorem look_ (sb : Nat) (l : List Int) (rs : List Rng) (F : Nat → Prop) (x : Rng) (w : World) (h : SeesAt w sb l rs F) (hF : ∀ j, F j → j < w.heap.size) (hx : rOk x) :
    Calls Try.prog 31 #[.pointer (some ⟨sb, 0, none⟩), .string x.1, .string x.2] w (NotePost F w sb l (noteR rs [x]).1 (noteR rs [x]).2) := by
  have hrd : Reads (w.alloc (.cells #[.string x.1, .string x.2] 72)) (w.alloc (.cells #[.string x.1, .string x.2] 72)).heap.size 2 (some ⟨w.heap.size, 0, none⟩) 1 (rCells [x]) := by
    rw [World.size_alloc]
    exact reads_new2 _ _ _ _
  go_enter Try.func31, Try.ntmps31
  go_wp2_with (go_at_call 41; refine (note_range sb l rs F (some ⟨w.heap.size, 0, none⟩) 1 1 [x] _ (h.chg ((Chg.refl (fun _ => False) _).alloc _) (fun _ _ f => f)) hrd (by intro ad e _ hf; cases e; exact Nat.lt_irrefl _ (hF _ hf)) (by intro y hy; simp at hy; subst hy; exact hx) (by omega)).mono ?_; rintro e w1 ⟨F', rfl, h1, h2, h3⟩)
  go_ret
  have hal : Chg F w (w.alloc (.cells #[.string x.1, .string x.2] 72)) := (Chg.refl _ _).alloc _
  refine ⟨F', rfl, h1, hal.trans h2 (fun _ _ f => f), fun j hj => ?_⟩
  rcases h3 j hj with h | ⟨h, h4⟩
  · exact .inl h
  · exact .inr ⟨Nat.le_trans hal.size h, h4⟩

def NewPost (S : World → Nat → Prop) (w : World) (e : Ending) (w' : World) : Prop := e = .returned (.pointer (some ⟨w.heap.size, 0, none⟩)) ∧ S w' w.heap.size ∧ Chg (fun _ => False) w w' ∧ w'.heap.size = w.heap.size + 1

set_option maxRecDepth 100000 in
theorem new_sees (w : World) : Calls Try.prog 22 #[] w (NewPost (fun w' b => SeesAt w' b [] [] (fun j => j = b)) w) := by
  go_enter Try.func22, Try.ntmps22
  go_wp2
  go_ret
  refine ⟨rfl, ⟨by simp, by simp, _, _, _, _, {
    here := heap_alloc_new w _
    s1 := Sl.nil _ _ _ _
    k1 := MapSet.nil _
    n1 := fun h => absurd rfl h
    s2 := Sl.nil _ _ _ _
    k2 := MapSet.nil _
    n2 := fun h => absurd rfl h
    ne := fun b h => by cases h
    ok1 := by simp, ok2 := by simp, nd1 := List.nodup_nil, nd2 := List.nodup_nil
    f0 := rfl
    f1 := fun j h => by cases h
    f2 := fun j h => by cases h
    f3 := fun j h => by cases h
    f4 := fun j h => by cases h }⟩, (Chg.refl _ _).alloc _, World.size_alloc _ _⟩

set_option maxRecDepth 100000 in
theorem new_ref (w : World) : Calls Try.prog 23 #[] w (NewPost (fun w' b => RefAt w' b [] [] (fun j => j = b)) w) := by
  go_enter Try.func23, Try.ntmps23
  go_wp2
  go_ret
  refine ⟨rfl, ⟨by simp, by simp, _, _, {
    here := heap_alloc_new w _
    s1 := Sl.nil _ _ _ _
    s2 := Sl.nil _ _ _ _
    ok1 := by simp
    f0 := rfl
    f1 := fun j h => by cases h
    f2 := fun j h => by cases h }⟩, (Chg.refl _ _).alloc _, World.size_alloc _ _⟩

end Go.Proofs.Ytflinpnmpkdopaa
