/- The walk of VersionNils: whatever the input, true, and at most new blocks. -/
import Derived.Test.YteglopdgnhjbcaaGreatDoorRows
import Derived.Test.YteglopdgnhjbcaaGreatDoorXw
import Derived.WalkKit
import Derived.Deep.QuietTactic
import Derived.BigQuiet
import Derived.WalkSmall
import Derived.Lib.Hide
namespace Go.Proofs.YteglopdgnhjbcaaGreatDoor.versionNils
open Go.RowKit Xw

theorem int_info : (Tryz.prog.info? 3).map (fun i => (i.zero, i.size, i.bytes)) = some (some (.int .i64 0), 1, 8) := by kernel_rfl

theorem words_nil (slot : Int) (w : World) : Calls Tryz.prog 4 #[.pointer none, .int .i64 slot] w fun e w' => e = .returned (.tuple #[.int .u64 0, .int .u64 0, .int .i64 1]) ∧ w' = w := by
  go_enter Tryz.func4, Tryz.ntmps4
  go_wp2
  go_ret3
  exact ⟨rfl, rfl⟩

theorem le_alloc (w : World) (o : Obj) : w.heap.size ≤ (w.alloc o).heap.size := by rw [World.size_alloc]; omega

theorem own_new (w : World) (base : Nat) (e : TypeId) (size : Nat) (h : base ≤ w.heap.size) : (w.alloc (.cells #[] e)).ownsRow base e size (.slice (some ⟨w.heap.size, 0, none⟩) 0 0) 0 [] :=
  ⟨by simp, .inr ⟨w.heap.size, 0, #[], rfl, h, heap_alloc_new w _, Nat.le_refl _, by simp [maxLen], by simp, by simp⟩⟩

theorem own_new2 (w : World) (o : Obj) (e : TypeId) (size : Nat) : ((w.alloc o).alloc (.cells #[] e)).ownsRow w.heap.size e size (.slice (some ⟨w.heap.size + 1, 0, none⟩) 0 0) 0 [] := by
  have h := own_new (w.alloc o) w.heap.size e size (le_alloc w o)
  rw [World.size_alloc] at h
  exact h

theorem box_cells {w w1 : World} {cs : Array Value} {t e : TypeId} {n c : Nat} (hg : ((w.alloc (.cells cs t)).alloc (.cells #[] e)).grownBy w1 (Value.ownBlock (.slice (some ⟨w.heap.size + 1, 0, none⟩) n c))) :
    ∀ i, w1.cell? ⟨w.heap.size, i, none⟩ = cs[i]? :=
  (Blk.grown (Blk.alloc (Blk.new w t cs) _) hg (by simp [Value.ownBlock])).cell

theorem box_size {w w1 : World} {o o' : Obj} {r : Option Nat} (hg : ((w.alloc o).alloc o').grownBy w1 r) : w.heap.size + 1 < w1.heap.size := by
  have := hg.size
  simp only [World.size_alloc] at this
  omega

theorem own_shape {w : World} {base : Nat} {e : TypeId} {size n : Nat} {v : Value} {xs : List Value} (h : w.ownsRow base e size v n xs) : ∃ A c, v = .slice A n c := by
  rcases h.2 with ⟨rfl, rfl⟩ | ⟨g, cap, cur, rfl, _⟩
  · exact ⟨none, 0, rfl⟩
  · exact ⟨_, _, rfl⟩

theorem List.getElem?_map_some {α β : Type} {f : α → β} {l : List α} {j : Nat} {u : β} (h : (l.map f)[j]? = some u) : ∃ x, l[j]? = some x ∧ f x = u := by
  rw [List.getElem?_map] at h
  exact Option.map_eq_some_iff.1 h

set_option maxHeartbeats 1000000 in
set_option maxRecDepth 100000 in
theorem walk (id slot tm : Int) (key data : ByteArray) (A : Option Addr) (n c : Nat) (xs : List Int) (w : World) (hr : Reads w w.heap.size 1 A n (xs.map (Value.int .i64))) (hb : n * 8 ≤ 140737488351232) :
    Calls Tryz.prog 3 #[.agg #[.int .i64 id, .int .i64 slot, .int .u64 tm, .string key, .string data, .slice A n c]] w fun e w' => e = .returned (.bool true) ∧ Below w.heap.size w w' := by
  obtain ⟨i0, hi0, hz0, hz1, hz2⟩ := info_parts int_info
  have h1 : ∀ u ∈ xs.map (Value.int .i64), u.oneCell' = true := by
    intro u hu; obtain ⟨x, _, rfl⟩ := List.mem_map.1 hu; rfl
  go_enter Tryz.func3, Tryz.ntmps3
  go_wp2_with (first
    | (go_at_call 4; refine (words_nil _ _).mono ?_; rintro e w' ⟨rfl, rfl⟩)
    | (at_builtin; (refine wpList_append_any _ rfl (.tmp 54) (.tmp 56) 23 rfl w.heap.size 3 i0 _ 1 8 Tryz.underlying23 hi0 hz0 hz1 hz2 rfl (by omega) (.slice (some ⟨w.heap.size + 1, 0, none⟩) 0 0) 0 [] rfl (own_new2 _ _ 3 1) w.heap.size A n c (xs.map (Value.int .i64)) rfl ((hr.alloc (Nat.le_refl _) _).alloc (le_alloc _ _) _) h1 (by simp only [maxLen]; omega) (by omega) (Nat.le_trans (le_alloc _ _) (le_alloc _ _)) ?_); intro v1 w1 hown1 hg1 hat1; have cb := box_cells hg1; have hz : w.heap.size + 1 < w1.heap.size := box_size hg1; have hz0 : w.heap.size < w1.heap.size := Nat.lt_trans (Nat.lt_succ_self _) hz; have hz1 : w.heap.size < w1.heap.size + 1 := Nat.lt_add_right 1 hz0; have hz2 : w.heap.size < w1.heap.size + 2 := Nat.lt_add_right 2 hz0; have hz3 : w.heap.size < w1.heap.size + 3 := Nat.lt_add_right 3 hz0; have hz4 : w.heap.size < w1.heap.size + 4 := Nat.lt_add_right 4 hz0)
    | go_in)
  go_loopw [17] (fun i wr => ∃ k : Nat, k ≤ 2 ∧ i = .int .i64 k ∧ Below w1.heap.size w1 wr) (fun i _ => 2 - (intOf i).toNat)
  case atStart => exact ⟨0, by omega, rfl, by repeat (first | exact Below.refl _ _ | refine Below.alloc ?_ (by first | omega | (simp only [World.size_alloc]; omega)) _)⟩
  case round =>
    obtain ⟨k, hk, rfl, hbw⟩ := hrel
    by_cases hlt : k < 2
    · go_wp2_with (go_in)
      exact ⟨⟨k + 1, by omega, by simp, hbw⟩, by simp [intOf]; omega⟩
    · go_wp2
      obtain ⟨wo, rfl⟩ : ∃ wo : World, wo = wr := ⟨_, rfl⟩
      have hb0 : Below w.heap.size w w1 := (((Below.refl _ _).alloc (Nat.le_refl _) _).alloc (le_alloc _ _) _).grown hg1 (Nat.le_trans (le_alloc _ _) (le_alloc _ _)) (by simp [Value.ownBlock])
      have hb1 : Below w.heap.size w wo := hb0.trans (hbw.mono (Nat.le_of_lt hz0))
      clear hz hz1 hz2 hz3 hz4 hat1 hb0
      rw [List.nil_append, Nat.zero_add] at hown1
      obtain ⟨A1, c1, rfl⟩ := own_shape hown1
      have hr1 := (Reads.of_own hown1).below hbw
      have hr0 := hr.below hb1
      have cw : ∀ i, wo.cell? ⟨w.heap.size, i, none⟩ = (#[.int .i64 id, .int .i64 slot, .int .u64 tm, .string key, .string data, .slice A n c] : Array Value)[i]? := fun i => (hbw.cell (p := ⟨w.heap.size, i, none⟩) hz0).trans (cb i)
      have hsz1 := hbw.size
      have Hr1 : Hid (Reads wo w1.heap.size 1 A1 n (xs.map (Value.int .i64))) := Lib.hid hr1
      have Hr0 : Hid (Reads wo w.heap.size 1 A n (xs.map (Value.int .i64))) := Lib.hid hr0
      have hzz : w.heap.size < wo.heap.size := Nat.lt_of_lt_of_le hz0 hsz1
      clear hr1 hr0 hown1 hg1 hr cb hz0
      go_wp2
      go_loopw [18] (fun i wx => ∃ j : Nat, j ≤ n ∧ i = .int .i64 j ∧ Below wo.heap.size wo wx) (fun i _ => n - (intOf i).toNat)
      case atStart => exact ⟨0, by omega, rfl, Below.refl _ _⟩
      case round =>
        obtain ⟨j, hj, rfl, hbx⟩ := hrel
        by_cases hjn : j < n
        · obtain ⟨a1, u1, rfl, _, hx1, hc1⟩ := (Hr1.out.below (hbx.mono hsz1)).at_ hjn
          obtain ⟨a0, u0, rfl, _, hx0, hc0⟩ := (Hr0.out.below (hbx.mono (Nat.le_trans hb1.size (Nat.le_refl _)))).at_ hjn
          obtain rfl : u1 = u0 := Option.some.inj (hx1.symm.trans hx0)
          obtain ⟨x, hxj, rfl⟩ := List.getElem?_map_some hx1
          clear hx1 hx0
          have hji : (j : Int) < (n : Int) := by omega
          have cx : ∀ i, wr.cell? ⟨w.heap.size, i, none⟩ = (#[.int .i64 id, .int .i64 slot, .int .u64 tm, .string key, .string data, .slice (some a0) n c] : Array Value)[i]? := fun i => (hbx.cell (p := ⟨w.heap.size, i, none⟩) hzz).trans (cw i)
          go_wp2
          go_quiet (fail)
          go_wp2
          exact ⟨⟨j + 1, by omega, by simp, below_drewN hbx _⟩, by simp [intOf]; omega⟩
        · go_wp2
          go_ret
          exact ⟨rfl, hb1.trans (hbx.mono hb1.size)⟩
end Go.Proofs.YteglopdgnhjbcaaGreatDoor.versionNils
