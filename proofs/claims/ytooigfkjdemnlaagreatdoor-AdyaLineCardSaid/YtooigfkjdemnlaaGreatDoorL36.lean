/- Own texts of this claim, joined in build order: F1, H1, F2, F3. -/
import Derived.Test.YtooigfkjdemnlaaGreatDoorL12
import Derived.Test.YtooigfkjdemnlaaGreatDoorL27
import Derived.Test.YtooigfkjdemnlaaGreatDoorL06
set_option linter.all false
namespace Go.Proofs.YtooigfkjdemnlaaGreatDoor
set_option maxRecDepth 100000
open Go.RowKit Go.Lib Go.Sort Go.Shelf Xw

def Grs (w w' : World) : Prop := ∃ q os, w' = grow (w.drewN q) os
theorem Grs.refl (w : World) : Grs w w := ⟨0, #[], by simp; rfl⟩
theorem Grs.trans {w w1 w2 : World} (h : Grs w w1) (h' : Grs w1 w2) : Grs w w2 := by
  obtain ⟨q, os, rfl⟩ := h
  obtain ⟨q', os', rfl⟩ := h'
  refine ⟨q + q', os ++ os', ?_⟩
  show grow (grow ((w.drewN q).drewN q') os) os' = _
  rw [grow_grow, World.drewN_drewN]
theorem Grs.alloc (w : World) (o : Obj) : Grs w (w.alloc o) := ⟨0, #[o], by rw [alloc_eq_grow]; rfl⟩
theorem Grs.drew (w : World) : Grs w w.drew := ⟨1, #[], by simp; rfl⟩
theorem Grs.below {w w' : World} (h : Grs w w') : Below w.heap.size w w' := by
  obtain ⟨q, os, rfl⟩ := h
  refine ⟨rfl, rfl, rfl, ?_, fun j hj => ?_⟩
  · rw [size_grow]; exact Nat.le_add_right _ _
  · exact heap_grow_old _ _ hj
structure Pt where
  txn : Nat
  cm : Bool
  pat : Int
instance : Inhabited Pt := ⟨⟨0, false, 0⟩⟩
def ptC (p : Pt) : List Value := [.int .i64 p.txn, .bool p.cm, .int .i64 p.pat]
def rank1 (h : List HTx) (p : Pt) : Int := match h[p.txn]? with
  | some x => if p.cm then x.fin else x.bgn
  | none => 0
def rank2 (h : List HTx) (p : Pt) : Int := match h[p.txn]? with
  | some x => if p.cm then 1 else if x.bgn = x.fin then 0 else 2
  | none => 0
def ptCmp (h : List HTx) (a b : Pt) : Int := orL [cmpI (rank1 h a) (rank1 h b), cmpI (rank2 h a) (rank2 h b), cmpI a.txn b.txn]
set_option maxHeartbeats 4000000 in
theorem rankT_ {w : World} {B lp lb : Nat} {h : List HTx} {ty : TypeId} (hl : Led w B lp h) (hlb : w.heap[lb]? = some (.cells #[.pointer (some ⟨lp, 0, none⟩)] ty)) (t : Nat) (pa : Int) (x : HTx) (hx : h[t]? = some x) :
    Calls Tryz.prog 71 #[.agg #[.int .i64 t, .bool true, .int .i64 pa], .pointer (some ⟨lb, 0, none⟩)] w fun e w' => e = .returned (.tuple #[.int .u64 (rank1 h ⟨t, true, pa⟩), .int .i64 (rank2 h ⟨t, true, pa⟩)]) ∧ Grs w w' := by
  obtain ⟨tv, wv, ob, kv, tyl, l1, l2, l3, l4, l5⟩ := hl.ex
  have hlp := hl.lt
  have hle := hl.le
  obtain ⟨W1, hW1⟩ : ∃ W1, W1 = w.alloc (.cells #[.int .i64 t, .bool true, .int .i64 pa] 112) := ⟨_, rfl⟩
  have hB1 : Below w.heap.size w W1 := by rw [hW1]; exact bel1 _ _
  have hz1 : W1.heap.size = w.heap.size + 1 := by rw [hW1]; simp
  have hbx : W1.heap[w.heap.size]? = some (.cells #[.int .i64 t, .bool true, .int .i64 pa] 112) := by rw [hW1]; exact heap_alloc_new _ _
  have hlow1 : ∀ j, j < B → W1.heap[j]? = w.heap[j]? := fun j hj => hB1.block j (by omega)
  have v0 := (cells_of (cs := [.int .i64 t, .bool true, .int .i64 pa]) hbx).1 0
  have v1 := (cells_of (cs := [.int .i64 t, .bool true, .int .i64 pa]) hbx).1 1
  have hlbl := lt_of_heap hlb
  have b0 := (World.cell?_of_block (a := ⟨lb, 0, none⟩) (hB1.block lb hlbl)).trans ((cells_of (cs := [.pointer (some ⟨lp, 0, none⟩)]) hlb).1 0)
  have q0 := (World.cell?_of_block (a := ⟨lp, 0, none⟩) (hlow1 lp hlp)).trans ((cells_of l1).1 0)
  obtain ⟨b3, p3, c3, ov3, he3, hb3, ⟨x0, x1, x2, x3, x4, x5, x6, x7, x8⟩, hro⟩ := HistV.get l2 hx (wr := W1) hlow1
  cases he3
  obtain ⟨OA, oc, rfl, hoc1, hoc2⟩ := hro.shape
  obtain ⟨_, _, hth, ht1, ht2⟩ := Rows.shape l2
  cases hth
  simp only [maxLen] at ht2
  have hti : (t : Int) < h.length := by have := (List.getElem?_eq_some_iff.1 hx).1; omega
  have i1 : lb < W1.heap.size := by omega
  have i2 : lp < W1.heap.size := by omega
  have i3 : b3 < W1.heap.size := by omega
  have i4 : w.heap.size < W1.heap.size := by omega
  have HW1 := Lib.hid hW1
  have HX := Lib.hid hx
  have HR : Hid (rank1 h ⟨t, true, pa⟩ = x.fin ∧ rank2 h ⟨t, true, pa⟩ = 1) := Lib.hid (by unfold rank1 rank2; simp only; rw [hx]; exact ⟨rfl, rfl⟩)
  clear hW1 hbx l1 l2 l3 l4 l5 hl hlb hx hro
  go_enter Tryz.func71, Tryz.ntmps71
  go_upto_region 1 with (fail)
  rw [← HW1.out]
  go_wp2_with (with_reducible refine wp_region_free (by kernel_rfl) (fun _ _ => ?_))
  refine bodyPost_ret (results_tmp2 rfl _ _ _) rfl ?_
  rw [HR.out.1, HR.out.2]
  refine ⟨rfl, ?_⟩
  rw [HW1.out]
  exact ((Grs.alloc _ _).trans (Grs.alloc _ _)).trans (Grs.drew _)
set_option maxHeartbeats 4000000 in
theorem rankF_ {w : World} {B lp lb : Nat} {h : List HTx} {ty : TypeId} (hl : Led w B lp h) (hlb : w.heap[lb]? = some (.cells #[.pointer (some ⟨lp, 0, none⟩)] ty)) (t : Nat) (pa : Int) (x : HTx) (hx : h[t]? = some x) :
    Calls Tryz.prog 71 #[.agg #[.int .i64 t, .bool false, .int .i64 pa], .pointer (some ⟨lb, 0, none⟩)] w fun e w' => e = .returned (.tuple #[.int .u64 (rank1 h ⟨t, false, pa⟩), .int .i64 (rank2 h ⟨t, false, pa⟩)]) ∧ Grs w w' := by
  obtain ⟨tv, wv, ob, kv, tyl, l1, l2, l3, l4, l5⟩ := hl.ex
  have hlp := hl.lt
  have hle := hl.le
  obtain ⟨W1, hW1⟩ : ∃ W1, W1 = w.alloc (.cells #[.int .i64 t, .bool false, .int .i64 pa] 112) := ⟨_, rfl⟩
  have hB1 : Below w.heap.size w W1 := by rw [hW1]; exact bel1 _ _
  have hz1 : W1.heap.size = w.heap.size + 1 := by rw [hW1]; simp
  have hbx : W1.heap[w.heap.size]? = some (.cells #[.int .i64 t, .bool false, .int .i64 pa] 112) := by rw [hW1]; exact heap_alloc_new _ _
  have hlow1 : ∀ j, j < B → W1.heap[j]? = w.heap[j]? := fun j hj => hB1.block j (by omega)
  have v0 := (cells_of (cs := [.int .i64 t, .bool false, .int .i64 pa]) hbx).1 0
  have v1 := (cells_of (cs := [.int .i64 t, .bool false, .int .i64 pa]) hbx).1 1
  have hlbl := lt_of_heap hlb
  have b0 := (World.cell?_of_block (a := ⟨lb, 0, none⟩) (hB1.block lb hlbl)).trans ((cells_of (cs := [.pointer (some ⟨lp, 0, none⟩)]) hlb).1 0)
  have q0 := (World.cell?_of_block (a := ⟨lp, 0, none⟩) (hlow1 lp hlp)).trans ((cells_of l1).1 0)
  obtain ⟨b3, p3, c3, ov3, he3, hb3, ⟨x0, x1, x2, x3, x4, x5, x6, x7, x8⟩, hro⟩ := HistV.get l2 hx (wr := W1) hlow1
  cases he3
  obtain ⟨OA, oc, rfl, hoc1, hoc2⟩ := hro.shape
  obtain ⟨_, _, hth, ht1, ht2⟩ := Rows.shape l2
  cases hth
  simp only [maxLen] at ht2
  have hti : (t : Int) < h.length := by have := (List.getElem?_eq_some_iff.1 hx).1; omega
  have i1 : lb < W1.heap.size := by omega
  have i2 : lp < W1.heap.size := by omega
  have i3 : b3 < W1.heap.size := by omega
  have i4 : w.heap.size < W1.heap.size := by omega
  have HW1 := Lib.hid hW1
  have HX := Lib.hid hx
  by_cases hbf : x.bgn = x.fin
  · have hbq : (x.bgn == x.fin) = true := by simp [hbf]
    have HR : Hid (rank1 h ⟨t, false, pa⟩ = x.bgn ∧ rank2 h ⟨t, false, pa⟩ = 0) := Lib.hid (by unfold rank1 rank2; simp only; rw [hx]; exact ⟨rfl, by simp [hbf]⟩)
    clear hW1 hbx l1 l2 l3 l4 l5 hl hlb hx hro hbf
    go_enter Tryz.func71, Tryz.ntmps71
    go_upto_region 1 with (fail)
    rw [← HW1.out]
    go_wp2_with (with_reducible refine wp_region_free (by kernel_rfl) (fun _ _ => ?_))
    refine bodyPost_ret (results_tmp2 rfl _ _ _) rfl ?_
    rw [HR.out.1, HR.out.2]
    refine ⟨rfl, ?_⟩
    rw [HW1.out]
    exact ((Grs.alloc _ _).trans (Grs.alloc _ _)).trans (Grs.drew _)
  · have hbq : (x.bgn == x.fin) = false := by simp [hbf]
    have HR : Hid (rank1 h ⟨t, false, pa⟩ = x.bgn ∧ rank2 h ⟨t, false, pa⟩ = 2) := Lib.hid (by unfold rank1 rank2; simp only; rw [hx]; exact ⟨rfl, by simp [hbf]⟩)
    clear hW1 hbx l1 l2 l3 l4 l5 hl hlb hx hro hbf
    go_enter Tryz.func71, Tryz.ntmps71
    go_upto_region 1 with (fail)
    rw [← HW1.out]
    go_wp2_with (with_reducible refine wp_region_free (by kernel_rfl) (fun _ _ => ?_))
    refine bodyPost_ret (results_tmp2 rfl _ _ _) rfl ?_
    rw [HR.out.1, HR.out.2]
    refine ⟨rfl, ?_⟩
    rw [HW1.out]
    exact ((Grs.alloc _ _).trans (Grs.alloc _ _)).trans (Grs.drew _)
theorem rank_ {w : World} {B lp lb : Nat} {h : List HTx} {ty : TypeId} (hl : Led w B lp h) (hlb : w.heap[lb]? = some (.cells #[.pointer (some ⟨lp, 0, none⟩)] ty)) (p : Pt) (x : HTx) (hx : h[p.txn]? = some x) :
    Calls Tryz.prog 71 #[.agg #[.int .i64 p.txn, .bool p.cm, .int .i64 p.pat], .pointer (some ⟨lb, 0, none⟩)] w fun e w' => e = .returned (.tuple #[.int .u64 (rank1 h p), .int .i64 (rank2 h p)]) ∧ Grs w w' := by
  obtain ⟨t, c, a⟩ := p
  cases c
  · exact rankF_ hl hlb t a x hx
  · exact rankT_ hl hlb t a x hx
set_option maxHeartbeats 4000000 in
theorem ptCmp_ {w : World} {B lp lb fb : Nat} {h : List HTx} {ty ty2 : TypeId} (hl : Led w B lp h) (hlb : w.heap[lb]? = some (.cells #[.pointer (some ⟨lp, 0, none⟩)] ty)) (hfb : w.heap[fb]? = some (.cells #[.func (.func 71) #[] #[.pointer (some ⟨lb, 0, none⟩)]] ty2))
    (a b : Pt) (x y : HTx) (hx : h[a.txn]? = some x) (hy : h[b.txn]? = some y) :
    Calls Tryz.prog 73 #[.agg #[.int .i64 a.txn, .bool a.cm, .int .i64 a.pat], .agg #[.int .i64 b.txn, .bool b.cm, .int .i64 b.pat], .pointer (some ⟨fb, 0, none⟩)] w fun e w' => e = .returned (.int .i64 (ptCmp h a b)) ∧ Grs w w' := by
  have H : Hid (ptCmp h a b = orL [cmpI (rank1 h a) (rank1 h b), cmpI (rank2 h a) (rank2 h b), cmpI a.txn b.txn]) := Lib.hid rfl
  obtain ⟨x1, hx1⟩ : ∃ x, cmpI (rank1 h a) (rank1 h b) = x := ⟨_, rfl⟩
  obtain ⟨x2, hx2⟩ : ∃ x, cmpI (rank2 h a) (rank2 h b) = x := ⟨_, rfl⟩
  obtain ⟨x3, hx3⟩ : ∃ x, cmpI a.txn b.txn = x := ⟨_, rfl⟩
  rw [hx1, hx2, hx3] at H
  obtain ⟨a1, ha1⟩ : ∃ r, r = rank1 h a := ⟨_, rfl⟩
  obtain ⟨a2, ha2⟩ : ∃ r, r = rank2 h a := ⟨_, rfl⟩
  obtain ⟨b1, hb1⟩ : ∃ r, r = rank1 h b := ⟨_, rfl⟩
  obtain ⟨b2, hb2⟩ : ∃ r, r = rank2 h b := ⟨_, rfl⟩
  rw [← ha1, ← hb1] at hx1
  rw [← ha2, ← hb2] at hx2
  have c1 : Hid (∀ w, Calls Tryz.prog 75 #[.int .u64 a1, .int .u64 b1] w fun e w' => e = .returned (.int .i64 x1) ∧ w' = w) := Lib.hid (fun w => (compare_u64_ a1 b1 w).mono (by rintro e w' ⟨rfl, rfl⟩; rw [hx1]; exact ⟨rfl, rfl⟩))
  have c2 : Hid (∀ w, Calls Tryz.prog 76 #[.int .i64 a2, .int .i64 b2] w fun e w' => e = .returned (.int .i64 x2) ∧ w' = w) := Lib.hid (fun w => (compare_int_ a2 b2 w).mono (by rintro e w' ⟨rfl, rfl⟩; rw [hx2]; exact ⟨rfl, rfl⟩))
  have c3 : Hid (∀ w, Calls Tryz.prog 76 #[.int .i64 a.txn, .int .i64 b.txn] w fun e w' => e = .returned (.int .i64 x3) ∧ w' = w) := Lib.hid (fun w => (compare_int_ a.txn b.txn w).mono (by rintro e w' ⟨rfl, rfl⟩; rw [hx3]; exact ⟨rfl, rfl⟩))
  have hlbl := lt_of_heap hlb
  have hfbl := lt_of_heap hfb
  have hle := hl.le
  obtain ⟨W1, hW1⟩ : ∃ W1, W1 = (w.alloc (.cells #[.int .i64 a.txn, .bool a.cm, .int .i64 a.pat] 112)).alloc (.cells #[.int .i64 b.txn, .bool b.cm, .int .i64 b.pat] 112) := ⟨_, rfl⟩
  have hG1 : Grs w W1 := by rw [hW1]; exact (Grs.alloc _ _).trans (Grs.alloc _ _)
  have hz1 : W1.heap.size = w.heap.size + 2 := by rw [hW1]; simp
  have hB1 := hG1.below
  have ha : W1.heap[w.heap.size]? = some (.cells #[.int .i64 a.txn, .bool a.cm, .int .i64 a.pat] 112) := by rw [hW1, heap_alloc_lt (by simp)]; exact heap_alloc_new _ _
  have hb : W1.heap[w.heap.size + 1]? = some (.cells #[.int .i64 b.txn, .bool b.cm, .int .i64 b.pat] 112) := by rw [hW1]; exact top_al _ _ (by simp)
  have hl1 := hl.below hB1 hl.le
  have hlb1 := (hB1.block lb hlbl).trans hlb
  have hfb1 := (hB1.block fb hfbl).trans hfb
  have f0 := (cells_of (cs := [.func (.func 71) #[] #[.pointer (some ⟨lb, 0, none⟩)]]) hfb1).1 0
  have u0 := (cells_of (cs := [.int .i64 a.txn, .bool a.cm, .int .i64 a.pat]) ha).1 0
  have u1 := (cells_of (cs := [.int .i64 a.txn, .bool a.cm, .int .i64 a.pat]) ha).1 1
  have u2 := (cells_of (cs := [.int .i64 a.txn, .bool a.cm, .int .i64 a.pat]) ha).1 2
  have eg : ∀ args w, (callFunc 71 args).run Tryz.prog w = .ok (.enter 71 args) w := enters_of Tryz.func71 (by kernel_rfl) rfl
  have hr1 := rank_ hl1 hlb1 a x hx
  rw [← ha1, ← ha2] at hr1
  have HR1 := Lib.hid hr1
  have HR2 : Hid (∀ W, Below W1.heap.size W1 W → Calls Tryz.prog 71 #[.agg #[.int .i64 b.txn, .bool b.cm, .int .i64 b.pat], .pointer (some ⟨lb, 0, none⟩)] W fun e w' => e = .returned (.tuple #[.int .u64 b1, .int .i64 b2]) ∧ Grs W w') := Lib.hid (fun W hW => by
    have := rank_ (hl1.below hW hl1.le) ((hW.block lb (by omega)).trans hlb1) b y hy
    rw [← hb1, ← hb2] at this
    exact this)
  have HA := Lib.hid (And.intro ha (And.intro hb hfb1))
  have HW1 := Lib.hid hW1
  have i1 : fb < W1.heap.size := by omega
  have i2 : w.heap.size < W1.heap.size := by omega
  have HZ1 := Lib.hid hz1
  clear hW1 hr1 hx1 hx2 hx3 ha1 ha2 hb1 hb2 ha hb hl1 hlb1 hfb1 hl hlb hfb hx hy hz1
  go_enter Tryz.func73, Tryz.ntmps73
  go_upto_region 1 with (fail)
  rw [← HW1.out]
  go_upto_region 2 with (go_at_fn 71; with_reducible refine HR1.out.mono ?_; rintro e w2 ⟨rfl, hG2⟩)
  have hB2 := hG2.below
  have HR3 := Lib.hid (HR2.out w2 hB2)
  obtain ⟨A1, A2, A3⟩ := HA.out
  have hz2 := hB2.size
  have hz1 := HZ1.out
  have f02 := (World.cell?_of_block (a := ⟨fb, 0, none⟩) (hB2.block fb i1)).trans f0
  have hbb := (hB2.block (w.heap.size + 1) (by omega)).trans A2
  have w0 := (cells_of (cs := [.int .i64 b.txn, .bool b.cm, .int .i64 b.pat]) hbb).1 0
  have w1 := (cells_of (cs := [.int .i64 b.txn, .bool b.cm, .int .i64 b.pat]) hbb).1 1
  have w2' := (cells_of (cs := [.int .i64 b.txn, .bool b.cm, .int .i64 b.pat]) hbb).1 2
  have i3 : fb < w2.heap.size := by omega
  have i4 : w.heap.size + 1 < w2.heap.size := by omega
  clear f0 u0 u1 u2 A1 A2 A3 hz1 hbb
  go_upto_region 3 with (go_at_fn 71; with_reducible refine HR3.out.mono ?_; rintro e w4 ⟨rfl, hG4⟩)
  have hB4 := hG4.below
  have hG14 := hG2.trans hG4
  have hB14 := hG14.below
  have hz4 := hB14.size
  obtain ⟨A1, A2, A3⟩ := HA.out
  have hz1 := HZ1.out
  have q0 := (World.cell?_of_block (a := ⟨w.heap.size, 0, none⟩) (hB14.block w.heap.size i2)).trans ((cells_of (cs := [.int .i64 a.txn, .bool a.cm, .int .i64 a.pat]) A1).1 0)
  have q1 := (World.cell?_of_block (a := ⟨w.heap.size + 1, 0, none⟩) (hB14.block (w.heap.size + 1) (by omega))).trans ((cells_of (cs := [.int .i64 b.txn, .bool b.cm, .int .i64 b.pat]) A2).1 0)
  have q0' : w4.cell? ⟨w.heap.size, 0, none⟩ = some (.int .i64 a.txn) := q0
  have q1' : w4.cell? ⟨w.heap.size + 1, 0, none⟩ = some (.int .i64 b.txn) := q1
  have i5 : w.heap.size < w4.heap.size := by omega
  have i6 : w.heap.size + 1 < w4.heap.size := by omega
  have c5 : Hid (Calls Tryz.prog 74 #[.slice (some ⟨w4.heap.size, 0, none⟩) 3 3] (w4.alloc (.cells #[.int .i64 x1, .int .i64 x2, .int .i64 x3] 3)).drew fun e w' => e = .returned (.int .i64 (orL [x1, x2, x3])) ∧ w' = (w4.alloc (.cells #[.int .i64 x1, .int .i64 x2, .int .i64 x3] 3)).drew) :=
    Lib.hid (or_ [x1, x2, x3] w4.heap.size _ (cells_of (cs := [.int .i64 x1, .int .i64 x2, .int .i64 x3]) (heap_alloc_new w4 _)).1 (by simp))
  clear q0 q1 A1 A2 A3 hz1 w0 w1 w2' f02
  go_region_held3 (fun w' => w'.cell? ⟨w.heap.size, 0, none⟩ = some (.int .i64 a.txn) ∧ w'.cell? ⟨w.heap.size + 1, 0, none⟩ = some (.int .i64 b.txn)) (first | exact ⟨q0', q1'⟩ | go_keep)
    (first
      | (go_at_call 75; with_reducible refine (c1.out _).mono ?_; rintro e w' ⟨rfl, rfl⟩)
      | (go_at_call 76; with_reducible refine (c2.out _).mono ?_; rintro e w' ⟨rfl, rfl⟩)
      | (go_at_call 76; with_reducible refine (c3.out _).mono ?_; rintro e w' ⟨rfl, rfl⟩)
      | (go_at_call 74; with_reducible refine (c5.out).mono ?_; rintro e w' ⟨rfl, rfl⟩))
  all_goals (
    go_wp2
    go_ret
    refine ⟨ret_int (by rw [H.out]), ?_⟩
    exact (hG1.trans hG14).trans ((Grs.alloc _ _).trans (Grs.drew _)))
end Go.Proofs.YtooigfkjdemnlaaGreatDoor

namespace Go.Proofs.YtooigfkjdemnlaaGreatDoor
set_option maxRecDepth 100000
open Go.RowKit Go.Lib Go.Sort Go.Shelf Xw

theorem zero_int (w : World) : (zeroValue 3).run Tryz.prog w = .ok (.int .i64 0) w := by kernel_rfl
theorem intC_len : ∀ x, (intC x).length = 1 := fun _ => rfl
theorem int_cell {w W : World} {g off cap : Nat} {l : List Int} {F : Nat → Prop} (h : Sl w 3 1 (.slice (some ⟨g, off, none⟩) l.length cap) l.length (l.flatMap intC) F) (hW : W.heap[g]? = w.heap[g]?) {i : Nat} {x : Int} (hx : l[i]? = some x) :
    W.cell? ⟨g, off + i, none⟩ = some (.int .i64 x) ∧ W.frozen? ⟨g, off + i, none⟩ = false := by
  have hH := holdsK_of_sl (enc := intC) (size := 1) (fun _ => rfl) h
  have hi : i < l.length := (List.getElem?_eq_some_iff.1 hx).1
  have hl : l.toArray[i]! = x := by rw [bang_list]; simp [List.getD_eq_getElem?_getD, hx]
  have := hH (i * 1 + 0) (by rw [size_flatK]; simp; omega)
  rw [get_flatK _ _ _ _ (by simp; omega)] at this
  rw [show (i * 1 + 0) / 1 = i by omega, show (i * 1 + 0) % 1 = 0 by omega, hl] at this
  rw [show off + (i * 1 + 0) = off + i by omega] at this
  exact ⟨(World.cell?_of_block (a := ⟨g, off + i, none⟩) hW).trans this.1, (World.frozen?_of_block (a := ⟨g, off + i, none⟩) hW).trans this.2⟩
theorem sl_block {α : Type} {enc : α → List Value} {w : World} {e : TypeId} {g off size n cap : Nat} {xs : List Value} {F : Nat → Prop} (h : Sl w e size (.slice (some ⟨g, off, none⟩) n cap) n xs F) : g < w.heap.size ∧ F g ∧ n ≤ cap ∧ cap ≤ 9223372036854775807 ∧ ∃ cur, w.heap[g]? = some (.cells cur e (0, 0)) ∧ off + cap * size ≤ cur.size := by
  rcases h.2 with ⟨h1, _⟩ | ⟨g', off', cap', cur', h1, hF, h3, h4, h5, h6, _⟩
  · cases h1
  · cases h1
    exact ⟨lt_of_heap h3, hF, h4, by simpa only [maxLen] using h5, cur', h3, h6⟩
def minL : List Int → Int → Int
  | [], m => m
  | x :: r, m => minL r (min m x)
theorem minL_le : ∀ (l : List Int) (m : Int), minL l m ≤ m ∧ ∀ x ∈ l, minL l m ≤ x
  | [], m => ⟨Int.le_refl _, by simp⟩
  | y :: r, m => by
    obtain ⟨h1, h2⟩ := minL_le r (min m y)
    have h3 : min m y ≤ m ∧ min m y ≤ y := by omega
    refine ⟨Int.le_trans h1 h3.1, fun x hx => ?_⟩
    simp only [minL]
    rcases List.mem_cons.1 hx with rfl | hx
    · exact Int.le_trans h1 h3.2
    · exact h2 x hx
theorem minL_mem : ∀ (l : List Int) (m : Int), minL l m = m ∨ minL l m ∈ l
  | [], m => .inl rfl
  | y :: r, m => by
    simp only [minL]
    rcases minL_mem r (min m y) with h1 | h1
    · by_cases hy : y < m
      · rw [h1, show min m y = y by omega]; exact .inr (List.mem_cons_self ..)
      · rw [h1]; exact .inl (by omega)
    · exact .inr (List.mem_cons_of_mem _ h1)
theorem minL_append (a b : List Int) (m : Int) : minL (a ++ b) m = minL b (minL a m) := by
  induction a generalizing m with
  | nil => rfl
  | cons x r ih => simp only [List.cons_append, minL, ih]
set_option maxHeartbeats 2000000 in
theorem minI_ {w : World} {g off cap : Nat} {l : List Int} {F : Nat → Prop} (h : Sl w 3 1 (.slice (some ⟨g, off, none⟩) l.length cap) l.length (l.flatMap intC) F) (hne : l ≠ []) :
    Calls Tryz.prog 25 #[.slice (some ⟨g, off, none⟩) l.length cap] w fun e w' => ∃ m, e = .returned (.int .i64 m) ∧ m ∈ l ∧ (∀ x ∈ l, m ≤ x) ∧ Below w.heap.size w w' := by
  obtain ⟨hgl, _, hnc, hcm, _⟩ := sl_block (enc := intC) h
  have hpos : 0 < l.length := List.length_pos_iff.2 hne
  obtain ⟨x0, hx0⟩ : ∃ x, l[0]? = some x := ⟨_, List.getElem?_eq_getElem hpos⟩
  have c0 := (int_cell h (W := w) rfl hx0).1
  rw [Nat.add_zero] at c0
  have hn1 : ¬ (l.length : Int) < 1 := by omega
  have hn0 : (0 : Int) < l.length := by omega
  have HX0 := Lib.hid hx0
  have HH := Lib.hid h
  clear hx0 h hne
  go_enter Tryz.func25, Tryz.ntmps25
  go_wp2
  go_loopw [3, 4] (fun m' i' wr => ∃ (i : Nat) (m : Int), 1 ≤ i ∧ i ≤ l.length ∧ i' = .int .i64 i ∧ m' = .int .i64 m ∧ Hid (m = minL (l.take i) x0) ∧ Below w.heap.size w wr) (fun _ i' _ => l.length - (intOf i').toNat)
  case atStart =>
    refine ⟨1, x0, by omega, by omega, rfl, rfl, Lib.hid ?_, Below.refl _ _⟩
    have : l.take 1 = [x0] := by
      rw [List.take_add_one, List.take_zero, HX0.out]; rfl
    rw [this]; simp [minL]
  case round =>
    obtain ⟨i, m, hi1, hi2, rfl, rfl, HM, hB⟩ := hrel
    by_cases hlt : i < l.length
    · obtain ⟨x, hx⟩ : ∃ x, l[i]? = some x := ⟨_, List.getElem?_eq_getElem hlt⟩
      have ci := (int_cell HH.out (W := wr) (hB.block g hgl) hx).1
      have hgr : g < wr.heap.size := by have := hB.size; omega
      have hii : (i : Int) < l.length := by omega
      have HX := Lib.hid hx
      clear hx
      go_wp2
      refine ⟨⟨i + 1, minL (l.take (i + 1)) x0, by omega, by omega, by simp, ?_, Lib.hid rfl, hB⟩, by simp [intOf]; omega⟩
      rw [List.take_add_one, HX.out, minL_append, ← HM.out]
      simp [minL]
    · obtain rfl : i = l.length := by omega
      have hii : ¬ (l.length : Int) < l.length := by omega
      go_wp2
      go_ret
      have hm := HM.out
      rw [List.take_length] at hm
      refine ⟨m, rfl, ?_, fun x hx => by rw [hm]; exact (minL_le l x0).2 x hx, hB⟩
      rcases minL_mem l x0 with h1 | h1
      · rw [hm, h1]; exact List.mem_of_getElem? HX0.out
      · rw [hm]; exact h1
def TestI (tb : Nat) (w : World) (M : FuncId) (caps : Array Value) (p : Int → Bool) : Prop := ∀ (u : Int) (W : World), W.heap[tb]? = w.heap[tb]? → tb < W.heap.size → Calls Tryz.prog M (#[.int .i64 u] ++ caps) W fun r W' => r = .returned (.bool (p u)) ∧ Below W.heap.size W W'
set_option maxHeartbeats 2000000 in
theorem indexI_ {w : World} {g off cap tb : Nat} {l : List Int} {F : Nat → Prop} (h : Sl w 3 1 (.slice (some ⟨g, off, none⟩) l.length cap) l.length (l.flatMap intC) F) (M : FuncId) (caps : Array Value) (p : Int → Bool)
    (eg : ∀ args w, (callFunc M args).run Tryz.prog w = .ok (.enter M args) w) (htb : tb < w.heap.size) (ht : TestI tb w M caps p) :
    Calls Tryz.prog 57 #[.slice (some ⟨g, off, none⟩) l.length cap, .func (.func M) #[] caps] w fun e w' => Below w.heap.size w w' ∧ ((e = .returned (.int .i64 (-1)) ∧ ∀ x ∈ l, p x = false) ∨ ∃ (i : Nat) (x : Int), e = .returned (.int .i64 i) ∧ l[i]? = some x ∧ p x = true ∧ ∀ j < i, ∀ y, l[j]? = some y → p y = false) := by
  obtain ⟨hgl, _, hnc, hcm, _⟩ := sl_block (enc := intC) h
  have HH := Lib.hid h
  have HT := Lib.hid ht
  clear h ht
  go_enter Tryz.func57, Tryz.ntmps57
  go_wp2
  go_loopw [5, 8] (fun _ i' wr => ∃ i : Nat, i ≤ l.length ∧ i' = .int .i64 i ∧ Hid (∀ j < i, ∀ y, l[j]? = some y → p y = false) ∧ Below w.heap.size w wr) (fun _ i' _ => l.length - (intOf i').toNat)
  case atStart => exact ⟨0, by omega, rfl, Lib.hid (fun j hj => by omega), Below.refl _ _⟩
  case round =>
    obtain ⟨i, hi, rfl, HI, hB⟩ := hrel
    have hz := hB.size
    by_cases hlt : i < l.length
    · obtain ⟨x, hx⟩ : ∃ x, l[i]? = some x := ⟨_, List.getElem?_eq_getElem hlt⟩
      have ci := (int_cell HH.out (W := wr) (hB.block g hgl) hx).1
      have hgr : g < wr.heap.size := by omega
      have hii : (i : Int) < l.length := by omega
      have HC := Lib.hid (HT.out x wr (hB.block tb htb) (by omega))
      have HX := Lib.hid hx
      clear hx
      cases hpx : p x with
      | false =>
        have HP := Lib.hid hpx
        clear hpx
        go_wp2_with (go_at_fn M; refine HC.out.mono ?_; rw [HP.out]; rintro r w9 ⟨rfl, hB9⟩)
        refine ⟨⟨i + 1, by omega, by simp, Lib.hid (fun j hj y hy => ?_), hB.trans (hB9.mono (by omega))⟩, by simp [intOf]; omega⟩
        by_cases hji : j = i
        · subst hji
          rw [HX.out] at hy; cases hy
          exact HP.out
        · exact HI.out j (by omega) y hy
      | true =>
        have HP := Lib.hid hpx
        clear hpx
        go_wp2_with (go_at_fn M; refine HC.out.mono ?_; rw [HP.out]; rintro r w9 ⟨rfl, hB9⟩)
        go_ret
        exact ⟨hB.trans (hB9.mono (by omega)), .inr ⟨i, x, rfl, HX.out, HP.out, HI.out⟩⟩
    · obtain rfl : i = l.length := by omega
      go_wp2
      go_ret
      refine ⟨hB, .inl ⟨rfl, fun x hx => ?_⟩⟩
      obtain ⟨j, hj⟩ := List.mem_iff_getElem?.1 hx
      exact HI.out j (List.getElem?_eq_some_iff.1 hj).1 x hj
theorem run_clearI {w : World} {g o n c : Nat} {cur : Array Value} (hb : w.heap[g]? = some (.cells cur 3 (0, 0))) (hn : 0 < n) (hfit : o + n ≤ cur.size) :
    ∃ zs : List Value, zs.length = n * 1 ∧ ∀ ty, (Builtin.clear_ #[34] ty #[.slice (some ⟨g, o, none⟩) n c]).run Tryz.prog w = .ok (.tuple #[]) (w.setCells g o zs) := by
  refine ⟨(Builtin.zeroCells #[.int .i64 0] n).toList, by simp [Builtin.zeroCells], fun ty => ?_⟩
  have hlen : (Builtin.zeroCells #[Value.int .i64 0] n).toList.length = n := by simp [Builtin.zeroCells]
  have hst := run_storeCells_cells (P := Tryz.prog) g o (Builtin.zeroCells #[.int .i64 0] n).toList 0 w
    (by intro j hj; rw [hlen] at hj; rw [cell_of_row w g (o + 0 + j) cur 3 (0, 0) hb, Array.getElem?_eq_getElem (by omega)]; rfl) (by intro j hj; simp [World.frozen?, hb]) (by
      intro v hv
      simp only [Builtin.zeroCells, Array.toList_map, List.mem_map] at hv
      obtain ⟨i, _, rfl⟩ := hv
      have : i % 1 = 0 := by omega
      have h1 : (#[Value.int .i64 0] : Array Value).size = 1 := rfl
      rw [h1, this]
      rfl)
  simp only [Nat.add_zero] at hst
  obtain ⟨m, rfl⟩ : ∃ m, n = m + 1 := ⟨n - 1, by omega⟩
  simp [Builtin.clear_, run_underlying Tryz.underlying34, zero_int, hst, Value.cells]
set_option maxHeartbeats 8000000 in
theorem deleteI_ {w : World} {g off cap tb : Nat} {l : List Int} {F : Nat → Prop} (h : Sl w 3 1 (.slice (some ⟨g, off, none⟩) l.length cap) l.length (l.flatMap intC) F) (M : FuncId) (caps : Array Value) (p : Int → Bool)
    (eg : ∀ args w, (callFunc M args).run Tryz.prog w = .ok (.enter M args) w) (htb : tb < w.heap.size) (htg : tb ≠ g) (ht : TestI tb w M caps p) (hlen : l.length < 4611686018427387904) :
    Calls Tryz.prog 26 #[.slice (some ⟨g, off, none⟩) l.length cap, .func (.func M) #[] caps] w fun e w' => e = .returned (.slice (some ⟨g, off, none⟩) (l.filter fun u => !p u).length cap) ∧
      Sl w' 3 1 (.slice (some ⟨g, off, none⟩) (l.filter fun u => !p u).length cap) (l.filter fun u => !p u).length ((l.filter fun u => !p u).flatMap intC) F ∧ Chg (fun j => j = g) w w' := by
  obtain ⟨hgl, _, hnc, hcm, _⟩ := sl_block (enc := intC) h
  have hix := Lib.hid (indexI_ h M caps p eg htb ht)
  have HH := Lib.hid h
  have HT := Lib.hid ht
  clear h ht
  go_enter Tryz.func26, Tryz.ntmps26
  go_wp2_with (go_at_call 57; with_reducible refine hix.out.mono ?_)
  rintro e w1 ⟨hB1, he⟩
  have hz1 := hB1.size
  rcases he with ⟨rfl, hall⟩ | ⟨i, x, rfl, hx, hpx, hbef⟩
  · have hfil : (l.filter fun u => !p u) = l := List.filter_eq_self.2 (fun u hu => by simp [hall u hu])
    have HF := Lib.hid hfil
    clear hfil hall
    go_wp2
    go_ret
    rw [HF.out]
    have hc1 : Chg (fun _ => False) w w1 := ⟨hB1.tape, hB1.os, hB1.output, hB1.size, fun b hb _ => hB1.block b hb⟩
    exact ⟨rfl, HH.out.chg hc1 (fun _ _ f => f), hc1.mono (fun _ _ f => f.elim)⟩
  · have hil := (List.getElem?_eq_some_iff.1 hx).1
    have hib : ((i : Int) == -1) = false := by simp
    have hiw : IntKind.i64.wrap ((i : Int) + 1) = (i + 1 : Nat) := by rw [IntKind.wrap_i64]; omega
    have hS1 : Sl w1 3 1 (.slice (some ⟨g, off, none⟩) l.length cap) l.length (l.flatMap intC) F := ⟨HH.out.1, by
      rcases HH.out.2 with hs | ⟨g', o', c', cur', e1, hF, h3, h4⟩
      · exact .inl hs
      · cases e1
        exact .inr ⟨g, off, cap, cur', rfl, hF, (hB1.block g hgl).trans h3, h4⟩⟩
    have hst : (l.take (i + 1)).filter (fun u => !p u) = l.take i := by
      rw [List.take_add_one, hx, List.filter_append]
      have h1 : (l.take i).filter (fun u => !p u) = l.take i := List.filter_eq_self.2 (fun u hu => by
        obtain ⟨j, hj⟩ := List.mem_iff_getElem?.1 hu
        have hj2 := (List.getElem?_eq_some_iff.1 hj).1
        rw [List.length_take] at hj2
        rw [List.getElem?_take, if_pos (by omega)] at hj
        simp [hbef j (by omega) u hj])
      rw [h1]
      simp [hpx]
    have HS1 := Lib.hid hS1
    have HST := Lib.hid hst
    have HX := Lib.hid hx
    clear hS1 hst hx hpx hbef
    go_wp2
    go_loopw [5, 6, 7] (fun m' j' _ wr => ∃ (m j : Nat) (c : List Int), m' = .int .i64 m ∧ j' = .int .i64 j ∧ m < j ∧ j ≤ l.length ∧ Hid (c.length = l.length ∧ c.take m = (l.take j).filter (fun u => !p u) ∧ c.drop j = l.drop j) ∧
      Sl wr 3 1 (.slice (some ⟨g, off, none⟩) c.length cap) c.length (c.flatMap intC) F ∧ Chg (fun j => j = g) w wr) (fun _ j' _ _ => l.length - (intOf j').toNat)
    case atStart => exact ⟨i, i + 1, l, rfl, by first | rfl | simp, by omega, by omega, Lib.hid ⟨rfl, HST.out.symm, rfl⟩, HS1.out, (Chg.of_below hB1).mono (fun j hj h => absurd h (by omega))⟩
    case round =>
      obtain ⟨m, j, c, rfl, rfl, hmj, hjl, HI, hS, hC⟩ := hrel
      have hz := hC.size
      obtain ⟨hcl, hct, hcd⟩ := HI.out
      by_cases hlt : j < l.length
      · obtain ⟨x, hx⟩ : ∃ x, l[j]? = some x := ⟨_, List.getElem?_eq_getElem hlt⟩
        have hcx : c[j]? = some x := by
          have := congrArg (fun z => z[0]?) hcd
          simpa [List.getElem?_drop, hx] using this
        obtain ⟨zm, hzm⟩ : ∃ z, c[m]? = some z := ⟨_, List.getElem?_eq_getElem (by omega)⟩
        have cj := (int_cell hS (W := wr) rfl hcx).1
        have hgr : g < wr.heap.size := by omega
        have hji : (j : Int) < l.length := by omega
        have hmi : (m : Int) < l.length := by omega
        have hjw : IntKind.i64.wrap ((j : Int) + 1) = (j + 1 : Nat) := by rw [IntKind.wrap_i64]; omega
        have hmw : IntKind.i64.wrap ((m : Int) + 1) = (m + 1 : Nat) := by rw [IntKind.wrap_i64]; omega
        have HC := Lib.hid (HT.out x wr (hC.block tb htb htg) (by omega))
        have hcd2 : ∀ d : List Int, d.drop j = l.drop j → d.drop (j + 1) = l.drop (j + 1) := fun d hd => by
          have := congrArg (List.drop 1) hd
          simpa [List.drop_drop] using this
        have HCD := Lib.hid hcd2
        have HX := Lib.hid hx
        have HZM := Lib.hid hzm
        have HS := Lib.hid hS
        have HCL := Lib.hid hcl
        have HCT := Lib.hid hct
        have HCDR := Lib.hid hcd
        clear hx hcx hzm hcl hct hcd hS hcd2
        cases hpx : p x with
        | true =>
          have HP := Lib.hid hpx
          clear hpx
          go_wp2_with (go_at_fn M; refine HC.out.mono ?_; rw [HP.out]; rintro r w9 ⟨rfl, hB9⟩)
          have hc9 : Chg (fun _ => False) wr w9 := ⟨hB9.tape, hB9.os, hB9.output, hB9.size, fun b hb _ => hB9.block b hb⟩
          refine ⟨⟨m, j + 1, c, rfl, by simp, by omega, by omega, Lib.hid ⟨HCL.out, ?_, HCD.out c HCDR.out⟩, HS.out.chg hc9 (fun _ _ f => f), hC.trans hc9 (fun _ _ f => f.elim)⟩, by simp [intOf]; omega⟩
          rw [List.take_add_one, HX.out, List.filter_append, ← HCT.out]
          simp [HP.out]
        | false =>
          have HP := Lib.hid hpx
          clear hpx
          go_wp2_with (go_at_fn M; refine HC.out.mono ?_; rw [HP.out]; rintro r w9 ⟨rfl, hB9⟩
                       have hc9 : Chg (fun _ => False) wr w9 := ⟨hB9.tape, hB9.os, hB9.output, hB9.size, fun b hb _ => hB9.block b hb⟩
                       have hS9 := HS.out.chg hc9 (fun _ _ f => f)
                       have hgr9 : g < w9.heap.size := by have := hc9.size; omega
                       obtain ⟨cm, fm⟩ := int_cell hS9 (W := w9) rfl HZM.out
                       have HS9 := Lib.hid hS9
                       clear hS9)
          obtain ⟨hp1, hp2⟩ := Sl.put (enc := intC) (size := 1) (fun _ => rfl) HS9.out m (by rw [HCL.out]; omega) x
          rw [Nat.mul_one] at hp1 hp2
          refine ⟨⟨m + 1, j + 1, c.set m x, by simp, by simp, by omega, by omega, Lib.hid ⟨by rw [List.length_set, HCL.out], ?_, by rw [List.drop_set_of_lt (by omega)]; exact HCD.out c HCDR.out⟩, ?_, ?_⟩, by simp [intOf]; omega⟩
          · rw [take_set_succ _ _ _ (by rw [HCL.out]; omega), List.take_add_one, HX.out, List.filter_append, HCT.out]
            simp [HP.out]
          · rw [List.length_set]
            exact hp1
          · exact (hC.trans hc9 (fun _ _ f => f.elim)).trans hp2 (fun _ _ h => h)
      · obtain rfl : j = l.length := by omega
        rw [List.take_length] at hct
        have hmd : (l.filter fun u => !p u).length = m := by rw [← hct, List.length_take]; omega
        obtain ⟨cur, hbc, hfit⟩ : ∃ cur, wr.heap[g]? = some (.cells cur 3 (0, 0)) ∧ off + c.length ≤ cur.size := by
          obtain ⟨_, _, h4, _, cur, h3, h5⟩ := sl_block (enc := intC) hS
          exact ⟨cur, h3, by omega⟩
        obtain ⟨zs, hzl, hclr⟩ := run_clearI (g := g) (o := off + m) (n := l.length - m) (c := cap - m) hbc (by omega) (by rw [hcl] at hfit; omega)
        obtain ⟨hp1, hp2⟩ := Sl.tail (enc := intC) (size := 1) (fun _ => rfl) hS m (by rw [hcl]; omega) zs (by rw [hzl, hcl])
        rw [Nat.mul_one] at hp1 hp2
        have hmi : (m : Int) ≤ l.length := by omega
        have hlc : (l.length : Int) ≤ cap := by omega
        have hmcap : m ≤ cap := by omega
        have hmci : (m : Int) ≤ cap := by omega
        have hmne : ¬ cap = m := by omega
        have hqn : ¬ (l.length : Int) < l.length := by omega
        have HMD := Lib.hid hmd
        have HCT := Lib.hid hct
        have HP := Lib.hid (And.intro hp1 hp2)
        clear hcl hct hcd hmd hp1 hp2 hbc hfit hzl hS
        go_wp2
        go_ret
        obtain ⟨hp1, hp2⟩ := HP.out
        rw [HMD.out, ← HCT.out]
        exact ⟨rfl, hp1, hC.trans hp2 (fun _ _ h => h)⟩
end Go.Proofs.YtooigfkjdemnlaaGreatDoor

namespace Go.Proofs.YtooigfkjdemnlaaGreatDoor
set_option maxRecDepth 100000
open Go.RowKit Go.Lib Go.Sort Go.Shelf Xw

def ptLt (h : List HTx) (a b : Pt) : Bool := decide (rank1 h a < rank1 h b ∨ rank1 h a = rank1 h b ∧ (rank2 h a < rank2 h b ∨ rank2 h a = rank2 h b ∧ a.txn < b.txn))
def clampP (h : List HTx) (p : Pt) : Pt := if p.txn < h.length then p else ⟨0, p.cm, p.pat⟩
theorem clampP_in {h : List HTx} {p : Pt} (hp : p.txn < h.length) : clampP h p = p := by unfold clampP; rw [if_pos hp]
theorem clampP_lt {h : List HTx} (h0 : 0 < h.length) (p : Pt) : ∃ x, h[(clampP h p).txn]? = some x := by
  unfold clampP
  split
  · exact ⟨_, List.getElem?_eq_getElem (by assumption)⟩
  · exact ⟨_, List.getElem?_eq_getElem h0⟩
theorem ltOf_pt (h : List HTx) (x y : Pt) : ltOf (ptCmp h) x y = ptLt h x y := by
  unfold ltOf ptLt
  congr 1
  unfold ptCmp orL orL orL orL cmpI
  apply propext
  generalize rank1 h x = a1
  generalize rank1 h y = b1
  generalize rank2 h x = a2
  generalize rank2 h y = b2
  repeat' split
  all_goals constructor
  all_goals intro h
  all_goals omega
theorem swo_pt (h : List HTx) (f : Pt → Pt) : SWO (fun x y => ptLt h (f x) (f y)) where
  irrefl x := by unfold ptLt; simp
  trans x y z h1 h2 := by
    unfold ptLt at *
    simp only [decide_eq_true_eq] at *
    omega
  ntrans x y z h1 h2 := by
    unfold ptLt at *
    simp only [decide_eq_false_iff_not] at *
    omega
theorem flat_clamp {h : List HTx} : ∀ {l : List Pt}, (∀ p ∈ l, p.txn < h.length) → l.flatMap (fun p => ptC (clampP h p)) = l.flatMap ptC
  | [], _ => rfl
  | a :: r, hl => by
    rw [List.flatMap_cons, List.flatMap_cons, flat_clamp (fun p hp => hl p (List.mem_cons_of_mem _ hp)), clampP_in (hl a (List.mem_cons_self ..))]
theorem ptC_one (f : Pt → Pt) : ∀ x : Pt, ∀ v ∈ ptC (f x), v.oneCell' = true := by
  intro x v hv
  simp only [ptC, List.mem_cons, List.not_mem_nil, or_false] at hv
  rcases hv with rfl | rfl | rfl <;> rfl
theorem sortPts_ {w : World} {B lp lb fb g off cap : Nat} {h : List HTx} {ty ty2 : TypeId} {l : List Pt} {F : Nat → Prop} (hl : Led w B lp h) (hlb : w.heap[lb]? = some (.cells #[.pointer (some ⟨lp, 0, none⟩)] ty)) (hfb : w.heap[fb]? = some (.cells #[.func (.func 71) #[] #[.pointer (some ⟨lb, 0, none⟩)]] ty2))
    (hgB : B ≤ g) (hgl : g ≠ lb) (hgf : g ≠ fb) (hin : ∀ p ∈ l, p.txn < h.length) (h0 : 0 < h.length) (hS : Sl w 112 3 (.slice (some ⟨g, off, none⟩) l.length cap) l.length (l.flatMap ptC) F) (hsz : l.length < 4611686018427387904) :
    Calls Tryz.prog 72 #[.slice (some ⟨g, off, none⟩) l.length cap, .func (.func 73) #[] #[.pointer (some ⟨fb, 0, none⟩)]] w fun e w' => e = .returned (.tuple #[]) ∧
      ∃ l' : List Pt, l'.Perm l ∧ l'.Pairwise (fun a b => ptLt h b a = false) ∧ Sl w' 112 3 (.slice (some ⟨g, off, none⟩) l'.length cap) l'.length (l'.flatMap ptC) F ∧ Chg (fun j => j = g) w w' := by
  have hS' : Sl w 112 3 (.slice (some ⟨g, off, none⟩) l.length cap) l.length (l.flatMap fun p => ptC (clampP h p)) F := by rw [flat_clamp hin]; exact hS
  have hH := holdsK_of_sl (enc := fun p => ptC (clampP h p)) (size := 3) (fun _ => rfl) hS'
  have hblk : g < w.heap.size := (sl_block (enc := ptC) hS).1
  have hlbl := lt_of_heap hlb
  have hfbl := lt_of_heap hfb
  have eg : ∀ args w, (callFunc 73 args).run Tryz.prog w = .ok (.enter 73 args) w := enters_of Tryz.func73 (by kernel_rfl) rfl
  have hcmp : CmpLays Tryz.prog 73 #[.pointer (some ⟨fb, 0, none⟩)] (fun p => ptC (clampP h p)) 3 (fun x y => ptCmp h (clampP h x) (clampP h y)) g off l.toArray.size w := fun m os dk hdk x y => by
    have S : SWK (fun p => ptC (clampP h p)) 3 w g off dk (sortWorldK (fun p => ptC (clampP h p)) 3 w g off m dk os) := ⟨m, os, rfl⟩
    obtain ⟨s1, s2, _⟩ := swk_heap S
    obtain ⟨x', hx⟩ := clampP_lt h0 x
    obtain ⟨y', hy⟩ := clampP_lt h0 y
    have hle := hl.le
    have := ptCmp_ (hl.keep (fun j hj => s2 j (by omega) (by omega)) s1) ((s2 lb hlbl (fun e => hgl e.symm)).trans hlb) ((s2 fb hfbl (fun e => hgf e.symm)).trans hfb) (clampP h x) (clampP h y) x' y' hx hy
    simpa [ptC, Grs] using this
  have hlt : ltOf (fun x y => ptCmp h (clampP h x) (clampP h y)) = fun x y => ptLt h (clampP h x) (clampP h y) := funext fun x => funext fun y => ltOf_pt h (clampP h x) (clampP h y)
  have hh := AnyQ.slices_SortFunc layP 3 Tryz.isAgg112 Tryz.sizeOf112 (fun p => ptC (clampP h p)) (fun _ => rfl) (ptC_one _) (fun x y => ptCmp h (clampP h x) (clampP h y)) (by rw [hlt]; exact swo_pt h _) 73 #[.pointer (some ⟨fb, 0, none⟩)] g off cap l.toArray w eg hcmp hH hblk (by simpa using hsz)
  rw [hlt] at hh
  have hll : l.toArray.size = l.length := by simp
  refine (show Calls Tryz.prog 72 _ w _ by rw [← hll]; exact hh).mono ?_
  rintro e w' ⟨he, d', n, os, hp, hs, hw⟩
  have hperm : d'.toList.Perm l := by
    obtain ⟨hz, _, hp⟩ := hp
    have e1 : d'.extract 0 l.toArray.size = d' := by rw [← hz]; exact Array.extract_size
    rw [e1, Array.extract_size] at hp
    simpa using hp
  have hin' : ∀ p ∈ d'.toList, p.txn < h.length := fun p hp' => hin p (hperm.mem_iff.1 hp')
  have hdl : d'.toList.length = l.length := hperm.length_eq
  refine ⟨he, d'.toList, hperm, ?_, ?_, ?_⟩
  · rw [List.pairwise_iff_getElem]
    intro i j hi hj hij
    have := hs i j (Nat.zero_le _) hij (by rw [hll, ← hdl]; exact hj)
    have ei : d'[i]! = d'.toList[i] := by
      rw [Array.length_toList] at hi
      simp [getElem!_pos d' i hi]
    have ej : d'[j]! = d'.toList[j] := by
      rw [Array.length_toList] at hj
      simp [getElem!_pos d' j hj]
    rw [ei, ej] at this
    dsimp only at this
    rw [clampP_in (hin' _ (List.getElem_mem hi)), clampP_in (hin' _ (List.getElem_mem hj))] at this
    exact this
  · have S : SWK (fun p => ptC (clampP h p)) 3 w g off d'.toList.toArray w' := ⟨n, os, by rw [hw]⟩
    have := sl_of_swk (enc := fun p => ptC (clampP h p)) (size := 3) (fun _ => rfl) hS' S hdl
    rw [flat_clamp hin'] at this
    exact this
  · have S : SWK (fun p => ptC (clampP h p)) 3 w g off d' w' := ⟨n, os, hw⟩
    exact swk_chg S
end Go.Proofs.YtooigfkjdemnlaaGreatDoor

namespace Go.Proofs.YtooigfkjdemnlaaGreatDoor
set_option maxRecDepth 100000
open Go.RowKit Go.Lib Go.Sort Go.Shelf Xw
set_option maxHeartbeats 2000000 in
theorem insNilP_ (fv : Value) (w : World) : Calls Tryz.prog 137 #[.slice none 0 0, .int .i64 0, .int .i64 0, fv] w fun e w' => e = .returned (.tuple #[]) ∧ w' = w := by
  go_enter Tryz.func137, Tryz.ntmps137
  go_wp2
  refine wp_loop_rounds 1 ?_
  rw [rounds_succ]
  go_wp2
  go_end0
  exact ⟨rfl, rfl⟩
set_option maxHeartbeats 2000000 in
theorem pdqNilP_ (lim : Int) (fv : Value) (w : World) : Calls Tryz.prog 107 #[.slice none 0 0, .int .i64 0, .int .i64 0, .int .i64 lim, fv] w fun e w' => e = .returned (.tuple #[]) ∧ w' = w := by
  go_enter Tryz.func107, Tryz.ntmps107
  go_wp2
  refine wp_loop_rounds 1 ?_
  rw [rounds_succ]
  go_wp2_with (go_at_call 137; refine (insNilP_ _ _).mono ?_; rintro e w' ⟨rfl, rfl⟩)
  (try simp only [Exit.inBlock, Exit.then]); refine bodyPost_ret (results_none rfl _ _ _) rfl ?_
  exact ⟨rfl, rfl⟩
set_option maxHeartbeats 2000000 in
theorem sortNilP_ (fv : Value) (w : World) : Calls Tryz.prog 72 #[.slice none 0 0, fv] w fun e w' => e = .returned (.tuple #[]) ∧ w' = w := by
  have hl : ∀ W, Calls Tryz.prog 99 #[.int .u64 0] W fun e w' => e = .returned (.int .i64 (Lib.bitLen 0 : Nat)) ∧ w' = W := fun W => by
    have h := Any.bits_Len (SlLaysF0.n15.bits (P := Tryz.prog) (ρ := renP) { layP with }) 0 W (by omega) (by omega)
    exact h
  go_enter Tryz.func72, Tryz.ntmps72
  go_wp2_with (first | (go_at_call 99; refine (hl _).mono ?_; rintro e w' ⟨rfl, rfl⟩) | (go_at_call 107; refine (pdqNilP_ _ _ _).mono ?_; rintro e w' ⟨rfl, rfl⟩))
  go_end0
  exact ⟨rfl, rfl⟩
end Go.Proofs.YtooigfkjdemnlaaGreatDoor
