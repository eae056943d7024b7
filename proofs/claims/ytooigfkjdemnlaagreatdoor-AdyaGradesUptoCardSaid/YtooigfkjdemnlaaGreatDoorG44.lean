/- Own texts of this claim, joined in build order: Mt2. -/
import Derived.Test.YtooigfkjdemnlaaGreatDoorG07
import Derived.Test.YtooigfkjdemnlaaGreatDoorG12
import Derived.Test.YtooigfkjdemnlaaGreatDoorG20
set_option linter.all false
namespace Go.Proofs.YtooigfkjdemnlaaGreatDoor
set_option maxRecDepth 100000
open Go.RowKit Go.Lib Go.Sort Go.Shelf Xw

def banL (q : Nat) : List Int := match q with
  | 1 => [1]
  | 2 => [2, 3, 4]
  | 3 => [2, 3, 4, 5, 6]
  | 4 => [2, 3, 4, 7]
  | _ => [2, 3, 4, 8]
def BanR (w : World) (q : Nat) (e : Ending) (w' : World) : Prop := Below w.heap.size w w' ∧ ∃ v, e = .returned (.tuple #[v, .bool true]) ∧ Rows w' w'.heap.size 1 (Flat fun (t : Int) => [Value.int .i64 t]) v (banL q)
theorem phen_info3 : (Tryz.prog.info? 101).map (fun i => (i.zero.map (·.cells.size), i.size, i.bytes)) = some (some 1, 1, 8) := by kernel_rfl
abbrev iC (t : Int) : List Value := [Value.int .i64 t]
set_option maxHeartbeats 4000000 in
theorem ban1_ {w : World} (hb : BansI w) : Calls Tryz.prog 29 #[.int .i64 1] w (BanR w 1) := by
  have hp := hb.pos
  obtain ⟨b0, b1, b2, b3, b4, b5⟩ := hb
  obtain ⟨i0, z0, j0, j1, j2, j3, j4⟩ := info_of phen_info3
  have hs : Sl w 101 1 (.slice none 0 0) 0 (([] : List Int).flatMap iC) (fun j => j = w.heap.size) := Sl.nil _ _ _ _
  have hB0 : Below w.heap.size w w := Below.refl _ _
  have HS := Lib.hid hs
  have HB0 := Lib.hid hB0
  clear hs hB0
  go_enter Tryz.func29, Tryz.ntmps29
  go_wp2_with (
    refine wpList_append_sl _ rfl (.tmp 22) (.tmp 24) 41 rfl 101 i0 z0 1 8 Tryz.underlying41 j0 j1 j2 j3 j4 (by omega) _ _ _ _ rfl (HS.out.chg ((Chg.refl (fun _ => False) _).alloc _) (fun _ _ f => f)) _ _ 1 1 [.int .i64 1] rfl (reads_new _ _ 1 rfl _) (by intro u hu; simp at hu; subst hu; rfl) (by simp [maxLen]) (by omega) ?_
    intro v4 w4 F4 hs4 hc4 hf4 hnz4
    obtain ⟨A4, c4, rfl, hc4a, hc4b⟩ := hs4.shape)
  refine bodyPost_ret (results_tmp2 rfl _ _ _) rfl ?_
  refine ⟨?_, _, rfl, Rows.of_sl (enc := iC) (l := banL 1) (fun _ => rfl) hs4 (Nat.le_refl _)⟩
  have h1 := hc4.below (B := w.heap.size) (fun j hj => by omega) (by simp)
  exact (HB0.out.alloc (by have := HB0.out.size; omega) _).trans (h1.mono (by simp))
set_option maxHeartbeats 4000000 in
theorem ban2_ {w : World} (hb : BansI w) : Calls Tryz.prog 29 #[.int .i64 2] w (BanR w 2) := by
  have hp := hb.pos
  obtain ⟨b0, b1, b2, b3, b4, b5⟩ := hb
  go_enter Tryz.func29, Tryz.ntmps29
  go_wp2
  refine bodyPost_ret (results_tmp2 rfl _ _ _) rfl ?_
  have hs : Sl (w.alloc (.cells #[.int .i64 2, .int .i64 3, .int .i64 4] 101)) 101 1 (.slice (some ⟨w.heap.size, 0, none⟩) 3 3) 3 (([2, 3, 4] : List Int).flatMap iC) (fun _ => True) :=
    Sl.of_block (n := 3) (size := 1) (heap_alloc_new _ _) trivial rfl (by simp [maxLen])
  exact ⟨bel1 _ _, _, rfl, Rows.of_sl (enc := iC) (fun _ => rfl) hs (Nat.le_refl _)⟩
set_option maxHeartbeats 4000000 in
theorem ban3_ {w : World} (hb : BansI w) : Calls Tryz.prog 29 #[.int .i64 3] w (BanR w 3) := by
  have hp := hb.pos
  obtain ⟨b0, b1, b2, b3, b4, b5⟩ := hb
  go_enter Tryz.func29, Tryz.ntmps29
  go_wp2
  refine bodyPost_ret (results_tmp2 rfl _ _ _) rfl ?_
  have hs : Sl (w.alloc (.cells #[.int .i64 2, .int .i64 3, .int .i64 4, .int .i64 5, .int .i64 6] 101)) 101 1 (.slice (some ⟨w.heap.size, 0, none⟩) 5 5) 5 (([2, 3, 4, 5, 6] : List Int).flatMap iC) (fun _ => True) :=
    Sl.of_block (n := 5) (size := 1) (heap_alloc_new _ _) trivial rfl (by simp [maxLen])
  exact ⟨bel1 _ _, _, rfl, Rows.of_sl (enc := iC) (fun _ => rfl) hs (Nat.le_refl _)⟩
set_option maxHeartbeats 4000000 in
theorem ban4_ {w : World} (hb : BansI w) : Calls Tryz.prog 29 #[.int .i64 4] w (BanR w 4) := by
  have hp := hb.pos
  obtain ⟨b0, b1, b2, b3, b4, b5⟩ := hb
  obtain ⟨i0, z0, j0, j1, j2, j3, j4⟩ := info_of phen_info3
  obtain ⟨W3, hW3⟩ : ∃ W3, W3 = w.alloc (.cells #[.int .i64 2, .int .i64 3, .int .i64 4] 101) := ⟨_, rfl⟩
  have hz3 : W3.heap.size = w.heap.size + 1 := by rw [hW3]; simp
  have hs : Sl W3 101 1 (.slice (some ⟨w.heap.size, 0, none⟩) 3 3) 3 (([2, 3, 4] : List Int).flatMap iC) (fun j => j = w.heap.size) :=
    by rw [hW3]; exact Sl.of_block (n := 3) (size := 1) (heap_alloc_new _ _) rfl rfl (by simp [maxLen])
  have hB0 : Below w.heap.size w W3 := by rw [hW3]; exact bel1 _ _
  have HW3 := Lib.hid hW3
  have HZ := Lib.hid hz3
  have HS := Lib.hid hs
  have HB0 := Lib.hid hB0
  clear hs hB0 hW3 hz3
  go_enter Tryz.func29, Tryz.ntmps29
  go_upto_region 13 with (fail)
  rw [← HW3.out]
  go_wp2_with (
    refine wpList_append_sl _ rfl (.tmp 22) (.tmp 24) 41 rfl 101 i0 z0 1 8 Tryz.underlying41 j0 j1 j2 j3 j4 (by omega) _ _ _ _ rfl (HS.out.chg ((Chg.refl (fun _ => False) _).alloc _) (fun _ _ f => f)) _ _ 1 1 [.int .i64 7] rfl (reads_new _ _ 1 rfl _) (by intro u hu; simp at hu; subst hu; rfl) (by simp [maxLen]) (by omega) ?_
    intro v4 w4 F4 hs4 hc4 hf4 hnz4
    obtain ⟨A4, c4, rfl, hc4a, hc4b⟩ := hs4.shape)
  refine bodyPost_ret (results_tmp2 rfl _ _ _) rfl ?_
  refine ⟨?_, _, rfl, Rows.of_sl (enc := iC) (l := banL 4) (fun _ => rfl) hs4 (Nat.le_refl _)⟩
  have h1 := hc4.below (B := w.heap.size) (fun j hj => by omega) (by have := HZ.out; rw [World.size_alloc]; omega)
  exact (HB0.out.alloc (by have := HB0.out.size; omega) _).trans h1
set_option maxHeartbeats 4000000 in
theorem ban5_ {w : World} (hb : BansI w) : Calls Tryz.prog 29 #[.int .i64 5] w (BanR w 5) := by
  have hp := hb.pos
  obtain ⟨b0, b1, b2, b3, b4, b5⟩ := hb
  obtain ⟨i0, z0, j0, j1, j2, j3, j4⟩ := info_of phen_info3
  obtain ⟨W3, hW3⟩ : ∃ W3, W3 = w.alloc (.cells #[.int .i64 2, .int .i64 3, .int .i64 4] 101) := ⟨_, rfl⟩
  have hz3 : W3.heap.size = w.heap.size + 1 := by rw [hW3]; simp
  have hs : Sl W3 101 1 (.slice (some ⟨w.heap.size, 0, none⟩) 3 3) 3 (([2, 3, 4] : List Int).flatMap iC) (fun j => j = w.heap.size) :=
    by rw [hW3]; exact Sl.of_block (n := 3) (size := 1) (heap_alloc_new _ _) rfl rfl (by simp [maxLen])
  have hB0 : Below w.heap.size w W3 := by rw [hW3]; exact bel1 _ _
  have HW3 := Lib.hid hW3
  have HZ := Lib.hid hz3
  have HS := Lib.hid hs
  have HB0 := Lib.hid hB0
  clear hs hB0 hW3 hz3
  go_enter Tryz.func29, Tryz.ntmps29
  go_upto_region 13 with (fail)
  rw [← HW3.out]
  go_wp2_with (
    refine wpList_append_sl _ rfl (.tmp 22) (.tmp 24) 41 rfl 101 i0 z0 1 8 Tryz.underlying41 j0 j1 j2 j3 j4 (by omega) _ _ _ _ rfl (HS.out.chg ((Chg.refl (fun _ => False) _).alloc _) (fun _ _ f => f)) _ _ 1 1 [.int .i64 8] rfl (reads_new _ _ 1 rfl _) (by intro u hu; simp at hu; subst hu; rfl) (by simp [maxLen]) (by omega) ?_
    intro v4 w4 F4 hs4 hc4 hf4 hnz4
    obtain ⟨A4, c4, rfl, hc4a, hc4b⟩ := hs4.shape)
  refine bodyPost_ret (results_tmp2 rfl _ _ _) rfl ?_
  refine ⟨?_, _, rfl, Rows.of_sl (enc := iC) (l := banL 5) (fun _ => rfl) hs4 (Nat.le_refl _)⟩
  have h1 := hc4.below (B := w.heap.size) (fun j hj => by omega) (by have := HZ.out; rw [World.size_alloc]; omega)
  exact (HB0.out.alloc (by have := HB0.out.size; omega) _).trans h1
theorem ban_ {w : World} (hb : BansI w) (q : Nat) (h1 : 1 ≤ q) (h5 : q ≤ 5) : Calls Tryz.prog 29 #[.int .i64 q] w (BanR w q) := by
  have : q = 1 ∨ q = 2 ∨ q = 3 ∨ q = 4 ∨ q = 5 := by omega
  rcases this with rfl | rfl | rfl | rfl | rfl
  · exact ban1_ hb
  · exact ban2_ hb
  · exact ban3_ hb
  · exact ban4_ hb
  · exact ban5_ hb
theorem banL_in {q : Nat} (h1 : 1 ≤ q) (h5 : q ≤ 5) {u : Int} (hu : u ∈ banL q) : ∃ n : Nat, u = n ∧ 1 ≤ n ∧ n ≤ 8 := by
  have : q = 1 ∨ q = 2 ∨ q = 3 ∨ q = 4 ∨ q = 5 := by omega
  rcases this with rfl | rfl | rfl | rfl | rfl <;> simp [banL] at hu
  · exact ⟨1, by omega, by omega, by omega⟩
  · rcases hu with rfl | rfl | rfl
    · exact ⟨2, by omega, by omega, by omega⟩
    · exact ⟨3, by omega, by omega, by omega⟩
    · exact ⟨4, by omega, by omega, by omega⟩
  · rcases hu with rfl | rfl | rfl | rfl | rfl
    · exact ⟨2, by omega, by omega, by omega⟩
    · exact ⟨3, by omega, by omega, by omega⟩
    · exact ⟨4, by omega, by omega, by omega⟩
    · exact ⟨5, by omega, by omega, by omega⟩
    · exact ⟨6, by omega, by omega, by omega⟩
  · rcases hu with rfl | rfl | rfl | rfl
    · exact ⟨2, by omega, by omega, by omega⟩
    · exact ⟨3, by omega, by omega, by omega⟩
    · exact ⟨4, by omega, by omega, by omega⟩
    · exact ⟨7, by omega, by omega, by omega⟩
  · rcases hu with rfl | rfl | rfl | rfl
    · exact ⟨2, by omega, by omega, by omega⟩
    · exact ⟨3, by omega, by omega, by omega⟩
    · exact ⟨4, by omega, by omega, by omega⟩
    · exact ⟨8, by omega, by omega, by omega⟩
end Go.Proofs.YtooigfkjdemnlaaGreatDoor
