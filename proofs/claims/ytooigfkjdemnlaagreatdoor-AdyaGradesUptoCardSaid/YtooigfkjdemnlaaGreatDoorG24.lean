/- Own texts of this claim, joined in build order: W4. -/
import Derived.Test.YtooigfkjdemnlaaGreatDoorG06
set_option linter.all false
namespace Go.Proofs.YtooigfkjdemnlaaGreatDoor
open Go.RowKit Xw

section
variable {P : Program} {w : World}
@[go_sem high] theorem run_max_two (ts : Array TypeId) (t : TypeId) (k k' : IntKind) (x y : Int) : (Builtin.max_ ts t #[.int k x, .int k' y]).run P w = .ok (.int k (imax2 x y)) w := by
  simp [Builtin.max_, Builtin.max2, imax2]
@[go_sem high] theorem run_min_four (ts : Array TypeId) (t : TypeId) (k k' k2 k3 : IntKind) (x y z u : Int) : (Builtin.min_ ts t #[.int k x, .int k' y, .int k2 z, .int k3 u]).run P w = .ok (.int k (imin4 x y z u)) w := by
  simp [Builtin.min_, Builtin.min2, imin4]
@[go_sem high] theorem run_max_four (ts : Array TypeId) (t : TypeId) (k k' k2 k3 : IntKind) (x y z u : Int) : (Builtin.max_ ts t #[.int k x, .int k' y, .int k2 z, .int k3 u]).run P w = .ok (.int k (imax4 x y z u)) w := by
  simp [Builtin.max_, Builtin.max2, imax4, imax2]
end

theorem endUsed_mono (h : List HTx) (f : Int) {u t : Nat} (h1 : endUsed h f u = true) (hu : u ≤ t) : endUsed h f t = true := by
  induction t with
  | zero =>
    obtain rfl : u = 0 := by omega
    exact h1
  | succ t ih =>
    by_cases e : u = t + 1
    · subst e; exact h1
    · simp [endUsed, ih (by omega)]

set_option maxHeartbeats 4000000 in
set_option maxRecDepth 100000 in
theorem shaped_ {w : World} {B lp : Nat} {h : List HTx} (hl : Led w B lp h) (t : Nat) (x : HTx) (hx : h[t]? = some x) :
    Calls Tryz.prog 89 #[.pointer (some ⟨lp, 0, none⟩), .int .i64 t] w fun e w' => e = .returned (.bool (shaped h t x)) ∧ Below w.heap.size w w' := by
  have hle := hl.le
  have hlp := hl.lt
  obtain ⟨tv, wv, ob, kv, ty, h1, h2, h3, h4, h5⟩ := hl.ex
  have l0 := (cells_of h1).1 0
  obtain ⟨b, o, c, ov, rfl, hb, ha, hro⟩ := h2.get hx (wr := w) (fun _ _ => rfl)
  obtain ⟨Ao, co, rfl, hno, hmo⟩ := hro.shape
  clear hro
  obtain ⟨a0, a1, a2, a3, a4, a5, a6, a7, a8⟩ := ha
  obtain ⟨_, _, he, hn0, hm0⟩ := Rows.shape h2
  cases he
  have hlt : t < h.length := (List.getElem?_eq_some_iff.1 hx).1
  have hlw : lp < w.heap.size := by omega
  have hbw : b < w.heap.size := by omega
  simp only [maxLen] at hm0
  have hbx : w.heap.size < (w.alloc (.cells (txC (.slice Ao x.ops.length co) x).toArray 53)).heap.size := by simp
  have hld : Led (w.alloc (.cells (txC (.slice Ao x.ops.length co) x).toArray 53)) B lp h := hl.below (bel1 w _) hle
  simp only [txC] at hld hbx
  obtain ⟨r, hr⟩ : ∃ r, r = shaped h t x := ⟨_, rfl⟩
  rw [← hr]
  unfold shaped at hr
  clear h1 h3 h4 h5
  by_cases g1 : x.fate < 0
  · have HR : Hid (r = false) := Lib.hid (by rw [hr]; simp [shaped1]; omega)
    clear hr
    go_enter Tryz.func89, Tryz.ntmps89
    go_wp2
    go_ret
    exact ⟨ret_bool (by rw [HR.out]), bel1 _ _⟩
  by_cases g2 : 2 < x.fate
  · have HR : Hid (r = false) := Lib.hid (by rw [hr]; simp [shaped1]; omega)
    clear hr
    go_enter Tryz.func89, Tryz.ntmps89
    go_wp2
    go_ret
    exact ⟨ret_bool (by rw [HR.out]), bel1 _ _⟩
  by_cases g3 : 4611686018427387903 < imax2 x.bgn x.fin
  · have HR : Hid (r = false) := Lib.hid (by rw [hr]; simp [shaped1]; omega)
    clear hr
    go_enter Tryz.func89, Tryz.ntmps89
    go_wp2
    go_ret
    exact ⟨ret_bool (by rw [HR.out]), bel1 _ _⟩
  by_cases g4 : x.iso < 1
  · have HR : Hid (r = false) := Lib.hid (by rw [hr]; simp [shaped1]; omega)
    clear hr
    go_enter Tryz.func89, Tryz.ntmps89
    go_wp2
    go_ret
    exact ⟨ret_bool (by rw [HR.out]), bel1 _ _⟩
  by_cases g5 : 4 < x.iso
  · have HR : Hid (r = false) := Lib.hid (by rw [hr]; simp [shaped1]; omega)
    clear hr
    go_enter Tryz.func89, Tryz.ntmps89
    go_wp2
    go_ret
    exact ⟨ret_bool (by rw [HR.out]), bel1 _ _⟩
  by_cases g6 : imin4 x.bi x.bo x.ei x.eo < 0
  · have HR : Hid (r = false) := Lib.hid (by rw [hr]; simp [shaped2]; omega)
    clear hr
    go_enter Tryz.func89, Tryz.ntmps89
    go_wp2
    go_ret
    exact ⟨ret_bool (by rw [HR.out]), bel1 _ _⟩
  by_cases g7 : 1073741824 < imax4 x.bi x.bo x.ei x.eo
  · have HR : Hid (r = false) := Lib.hid (by rw [hr]; simp [shaped2]; omega)
    clear hr
    go_enter Tryz.func89, Tryz.ntmps89
    go_wp2
    go_ret
    exact ⟨ret_bool (by rw [HR.out]), bel1 _ _⟩
  have hs1 : shaped1 x = true := by simp [shaped1]; omega
  have hs2 : shaped2 x = true := by simp [shaped2]; omega
  rw [hs1, hs2, Bool.true_and, Bool.true_and] at hr
  clear hs1 hs2
  cases hcom : com h t
  · have HR : Hid (r = true) := Lib.hid (by rw [hr, hcom]; rfl)
    have HC := Lib.hid hcom
    clear hr hcom
    go_enter Tryz.func89, Tryz.ntmps89
    go_wp2_with (go_at_call 20; refine (committed_ hld t x hx).mono ?_; rw [HC.out]; rintro e w1 ⟨rfl, rfl⟩)
    go_ret
    exact ⟨ret_bool (by rw [HR.out]), bel1 _ _⟩
  · have HR : Hid (r = (!endUsed h x.fin t && shaped3 x)) := Lib.hid (by rw [hr, hcom]; rfl)
    have HC := Lib.hid hcom
    clear hr hcom
    go_enter Tryz.func89, Tryz.ntmps89
    go_wp2_with (go_at_call 20; refine (committed_ hld t x hx).mono ?_; rw [HC.out]; rintro e w1 ⟨rfl, rfl⟩)
    go_loopw [6, 69] (fun _ i' wr => ∃ u : Nat, u ≤ t ∧ i' = .int .i64 u ∧ Hid (endUsed h x.fin u = false) ∧ Below (w.heap.size + 1) (w.alloc (.cells #[.int .i64 x.iso, .int .i64 x.fate, .int .u64 x.bgn, .int .u64 x.fin, .int .i64 x.bi, .int .i64 x.bo, .int .i64 x.ei, .int .i64 x.eo, .slice Ao x.ops.length co] 53)) wr) (fun _ i' _ => t - (intOf i').toNat)
    case atStart => exact ⟨0, by omega, rfl, Lib.hid rfl, Below.refl _ _⟩
    case round =>
      obtain ⟨u, hu, rfl, hE, hB⟩ := hrel
      have hsz := hB.size
      simp only [World.size_alloc] at hsz
      have hBw : Below w.heap.size w wr := (bel1 w _).trans (hB.mono (by omega))
      have hbox := (hB.block w.heap.size (by omega)).trans (heap_alloc_new w _)
      have q := (cells_of (cs := [.int .i64 x.iso, .int .i64 x.fate, .int .u64 x.bgn, .int .u64 x.fin, .int .i64 x.bi, .int .i64 x.bo, .int .i64 x.ei, .int .i64 x.eo, .slice Ao x.ops.length co]) hbox).1
      have q2 := q 2
      have q3 := q 3
      have q4 := q 4
      have q5 := q 5
      have q6 := q 6
      have q7 := q 7
      have hwr : w.heap.size < wr.heap.size := by omega
      have l0r := ((bcell hBw).1 _ _ hlw).trans l0
      have hlr : lp < wr.heap.size := by omega
      clear q hbox
      by_cases hlt2 : u < t
      · obtain ⟨y, hy⟩ : ∃ y, h[u]? = some y := ⟨_, List.getElem?_eq_getElem (by omega)⟩
        obtain ⟨b2, o2, c2, ov2, he, hb2, ⟨-, -, -, y3, -, -, -, -, -⟩, -⟩ := h2.get hy (wr := wr) (keep_of hBw hle)
        cases he
        have hbr : b < wr.heap.size := by omega
        have hlr2 : Led wr B lp h := hl.below hBw hle
        have hlr3 := hlr2.drew
        have hui : (u : Int) < h.length := by omega
        have hstep : endUsed h x.fin (u + 1) = (endUsed h x.fin u || (com h u && (y.fin == x.fin))) := by simp only [endUsed, hy]
        rw [hE.out, Bool.false_or] at hstep
        cases hcu : com h u
        · rw [hcu, Bool.false_and] at hstep
          have HS := Lib.hid hstep; clear hstep
          have HC2 := Lib.hid hcu; clear hcu
          have HY := Lib.hid hy; clear hy
          go_wp2_with (first
            | (with_reducible refine wp_region_free (by kernel_rfl) (fun _ _ => ?_))
            | (go_at_call 20; refine (committed_ hlr3 u y HY.out).mono ?_; rw [HC2.out]; rintro e w1 ⟨rfl, rfl⟩))
          exact ⟨⟨u + 1, by omega, by simp, HS, hB.drew⟩, by simp [intOf]; omega⟩
        · rw [hcu, Bool.true_and] at hstep
          have HC2 := Lib.hid hcu; clear hcu
          have HY := Lib.hid hy; clear hy
          cases hfe : (y.fin == x.fin)
          · rw [hfe] at hstep
            have HS := Lib.hid hstep; clear hstep
            go_wp2_with (first
              | (with_reducible refine wp_region_free (by kernel_rfl) (fun _ _ => ?_))
              | (go_at_call 20; refine (committed_ hlr3 u y HY.out).mono ?_; rw [HC2.out]; rintro e w1 ⟨rfl, rfl⟩))
            exact ⟨⟨u + 1, by omega, by simp, HS, hB.drew⟩, by simp [intOf]; omega⟩
          · rw [hfe] at hstep
            have HS := Lib.hid (endUsed_mono h x.fin hstep (show u + 1 ≤ t by omega)); clear hstep
            go_wp2_with (first
              | (with_reducible refine wp_region_free (by kernel_rfl) (fun _ _ => ?_))
              | (go_at_call 20; refine (committed_ hlr3 u y HY.out).mono ?_; rw [HC2.out]; rintro e w1 ⟨rfl, rfl⟩))
            go_ret
            exact ⟨ret_bool (by rw [HR.out, HS.out]; rfl), hBw.drew⟩
      · obtain rfl : u = t := by omega
        have HR2 : Hid (r = shaped3 x) := Lib.hid (by rw [HR.out, hE.out]; rfl)
        have hr3 : r = (decide (x.bgn ≤ x.fin) && decide (x.bi ≤ x.bo) && decide (x.bo ≤ x.ei) && (x.eo == 0 || decide (x.ei ≤ x.eo))) := HR2.out
        have HR3 := Lib.hid hr3; clear hr3
        go_wp2
        all_goals go_ret
        all_goals refine ⟨ret_bool ?_, hBw⟩
        all_goals rw [HR3.out]
        all_goals simp_all <;> omega
end Go.Proofs.YtooigfkjdemnlaaGreatDoor
