/- Own texts of this claim, joined in build order: F4, F5, F6, F7, Pf, Mt1. -/
import Derived.Test.YtooigfkjdemnlaaGreatDoorG28
import Derived.Test.YtooigfkjdemnlaaGreatDoorG30
import Derived.Test.YtooigfkjdemnlaaGreatDoorG34
import Derived.Laws.EntriesVeiled
import Derived.Test.YtooigfkjdemnlaaGreatDoorG20
import Derived.Test.YtooigfkjdemnlaaGreatDoorG33
set_option linter.all false
namespace Go.Proofs.YtooigfkjdemnlaaGreatDoor
set_option maxRecDepth 100000
open Go.RowKit Go.Lib Go.Sort Go.Shelf Xw

def ptsRaw (h : List HTx) : Nat → List Pt
  | 0 => []
  | n + 1 => if com h n = true then ptsRaw h n ++ [⟨n, false, 0⟩, ⟨n, true, 0⟩] else ptsRaw h n
theorem ptsRaw_len (h : List HTx) : ∀ n, (ptsRaw h n).length ≤ 2 * n
  | 0 => Nat.le_refl _
  | n + 1 => by
    have := ptsRaw_len h n
    unfold ptsRaw
    split
    · simp; omega
    · omega
theorem mem_ptsRaw {h : List HTx} {p : Pt} : ∀ n, p ∈ ptsRaw h n ↔ p.txn < n ∧ com h p.txn = true ∧ p.pat = 0
  | 0 => by simp [ptsRaw]
  | n + 1 => by
    have ih := mem_ptsRaw (h := h) (p := p) n
    unfold ptsRaw
    by_cases hc : com h n = true
    · rw [if_pos hc, List.mem_append, ih]
      constructor
      · rintro (⟨h1, h2⟩ | h1)
        · exact ⟨by omega, h2⟩
        · simp only [List.mem_cons, List.not_mem_nil, or_false] at h1
          rcases h1 with rfl | rfl
          · exact ⟨by simp, hc, rfl⟩
          · exact ⟨by simp, hc, rfl⟩
      · rintro ⟨h1, h2, h3⟩
        by_cases hn : p.txn = n
        · right
          obtain ⟨t, c, a⟩ := p
          simp only at hn h3
          subst hn h3
          cases c <;> simp
        · exact .inl ⟨by omega, h2, h3⟩
    · rw [if_neg hc, ih]
      constructor
      · rintro ⟨h1, h2⟩; exact ⟨by omega, h2⟩
      · rintro ⟨h1, h2, h3⟩
        by_cases hn : p.txn = n
        · rw [hn] at h2; exact absurd h2 hc
        · exact ⟨by omega, h2, h3⟩
theorem pt_info : (Tryz.prog.info? 112).map (fun i => (i.zero.map (·.cells.size), i.size, i.bytes)) = some (some 3, 3, 24) := by kernel_rfl
theorem reads_newN (w : World) (cs : List Value) (m n : Nat) (hn : cs.length = m * n) (e : TypeId) : Reads (w.alloc (.cells cs.toArray e)) (w.heap.size + 1) n (some ⟨w.heap.size, 0, none⟩) m cs := by
  refine ⟨hn, fun _ => ⟨_, rfl, Nat.lt_succ_self _, fun j x hj => ?_⟩⟩
  have e1 : (⟨w.heap.size, 0, none⟩ : Addr).add j = ⟨w.heap.size, j, none⟩ := by unfold Addr.add; split <;> simp_all
  rw [e1, cell_of_row _ _ _ _ _ _ (heap_alloc_new w _)]
  simpa using hj
def Moments (h : List HTx) (l : List Pt) : Prop := l.Perm (ptsRaw h h.length) ∧ l.Pairwise (fun a b => ptLt h b a = false)
set_option maxHeartbeats 4000000 in
theorem moments_ {w : World} {B lp : Nat} {h : List HTx} (hl : Led w B lp h) (hn : h.length ≤ 256) :
    Calls Tryz.prog 35 #[.pointer (some ⟨lp, 0, none⟩)] w fun e w' => Below w.heap.size w w' ∧ ∃ v l F, e = .returned v ∧ Hid (Moments h l) ∧ Sl w' 112 3 v l.length (l.flatMap ptC) F ∧ ∀ j, F j → w.heap.size ≤ j ∧ j < w'.heap.size := by
  obtain ⟨tv, wv, ob, kv, tyl, l1, l2, l3, l4, l5⟩ := hl.ex
  have hlp := hl.lt
  have hle := hl.le
  obtain ⟨TA, tc, rfl, ht1, ht2⟩ := Rows.shape l2
  simp only [maxLen] at ht2
  obtain ⟨W1, hW1⟩ : ∃ W1, W1 = w.alloc (.cells #[.pointer (some ⟨lp, 0, none⟩)] 78) := ⟨_, rfl⟩
  have hB1 : Below w.heap.size w W1 := by rw [hW1]; exact bel1 _ _
  have hz1 : W1.heap.size = w.heap.size + 1 := by rw [hW1]; simp
  have hbx : W1.heap[w.heap.size]? = some (.cells #[.pointer (some ⟨lp, 0, none⟩)] 78) := by rw [hW1]; exact heap_alloc_new _ _
  have b0 := (cells_of (cs := [.pointer (some ⟨lp, 0, none⟩)]) hbx).1 0
  have q0 := (World.cell?_of_block (a := ⟨lp, 0, none⟩) (hB1.block lp (by omega))).trans ((cells_of l1).1 0)
  have i1 : w.heap.size < W1.heap.size := by omega
  have i2 : lp < W1.heap.size := by omega
  obtain ⟨ii, zi, j0, j1, j2, j3, j4⟩ := info_of pt_info
  have HW1 := Lib.hid hW1
  have HBX := Lib.hid hbx
  have HL := Lib.hid (hl.below hB1 hl.le)
  have hmf : ∀ (fn : Fn) (first cap : Array Value) (w : World), (Instr.makeFunc fn first cap).run Tryz.prog w = .ok (.func fn first cap) w := fun _ _ _ _ => rfl
  have HZ1 := Lib.hid hz1
  clear hW1 hbx l1 l2 l3 l4 l5 hl hz1
  go_enter Tryz.func35, Tryz.ntmps35
  go_upto_region 2 with (fail)
  rw [← HW1.out]
  go_wp2
  go_loopw [3, 4, 12] (fun v' _ i' wr => ∃ (t : Nat) (F : Nat → Prop), t ≤ h.length ∧ i' = .int .i64 t ∧ Sl wr 112 3 v' (ptsRaw h t).length ((ptsRaw h t).flatMap ptC) F ∧ Hid (ptsRaw h t = [] → v' = .slice none 0 0) ∧ (∀ j, F j → W1.heap.size ≤ j ∧ j < wr.heap.size) ∧ Below W1.heap.size W1 wr) (fun _ _ i' _ => h.length - (intOf i').toNat)
  case atStart => exact ⟨0, fun _ => False, by omega, rfl, Sl.nil _ _ _ _, Lib.hid (fun _ => rfl), fun _ f => f.elim, Below.refl _ _⟩
  case round =>
    obtain ⟨t, F, ht, rfl, hs, HNL, hF, hB⟩ := hrel
    have hz := hB.size
    have hln := ptsRaw_len h t
    obtain ⟨A5, c5, rfl, hca, hcb⟩ := hs.shape
    simp only [maxLen] at hca
    have b1 := (World.cell?_of_block (a := ⟨w.heap.size, 0, none⟩) (hB.block w.heap.size i1)).trans b0
    have i3 : w.heap.size < wr.heap.size := by omega
    by_cases hlt : t < h.length
    · obtain ⟨x, hx⟩ : ∃ x, h[t]? = some x := ⟨_, List.getElem?_eq_getElem hlt⟩
      have hcm := Lib.hid (committed_ (HL.out.below hB (by have := HZ1.out; omega)) t x hx)
      have HS := Lib.hid hs
      have hti : (t : Int) < h.length := by omega
      clear hx hs
      cases hct : com h t with
      | false =>
        have HC := Lib.hid hct
        have hr : ptsRaw h (t + 1) = ptsRaw h t := by rw [ptsRaw, if_neg (by rw [hct]; simp)]
        have HR := Lib.hid hr
        clear hct hr
        go_wp2_with (go_at_call 20; refine hcm.out.mono ?_; rw [HC.out]; rintro e w3 ⟨rfl, rfl⟩)
        exact ⟨⟨t + 1, F, by omega, by simp, by rw [HR.out]; exact HS.out, by rw [HR.out]; exact HNL, hF, hB⟩, by simp [intOf]; omega⟩
      | true =>
        have HC := Lib.hid hct
        have hr : ptsRaw h (t + 1) = ptsRaw h t ++ [⟨t, false, 0⟩, ⟨t, true, 0⟩] := by rw [ptsRaw, if_pos hct]
        have HR := Lib.hid hr
        clear hct hr
        go_wp2_with (first
          | (go_at_call 20; refine hcm.out.mono ?_; rw [HC.out]; rintro e w3 ⟨rfl, rfl⟩)
          | (refine wpList_append_sl _ rfl (.tmp 18) (.tmp 23) 44 rfl 112 ii zi 3 24 Tryz.underlying44 j0 j1 j2 j3 j4 (by omega) _ _ _ _ rfl (HS.out.chg ((Chg.refl (fun _ => False) _).alloc _) (fun _ _ f => f)) _ _ 2 2 [.int .i64 t, .bool false, .int .i64 0, .int .i64 t, .bool true, .int .i64 0] rfl (reads_newN _ _ 2 3 rfl _) (by intro u hu; simp at hu; rcases hu with rfl | rfl | rfl | rfl | rfl | rfl <;> rfl) (by simp only [maxLen]; omega) (by omega) ?_
             intro v4 w4 F4 hs4 hc4 hf4 hnz4
             have HN4 := Lib.hid hnz4
             clear hnz4))
        have hz4 := hc4.size
        have hza : ∀ o : Obj, (wr.alloc o).heap.size = wr.heap.size + 1 := fun o => by simp
        rw [hza] at hz4
        have hal : Chg F wr w4 := (((Chg.refl (fun _ => False) wr).alloc _).mono (G := F) (fun _ _ f => f.elim)).trans hc4 (fun _ _ h => h)
        refine ⟨⟨t + 1, F4, by omega, by simp, ?_, Lib.hid (fun h0 => by rw [HR.out] at h0; simp at h0), fun j hj => ?_, hB.trans (hal.below (fun j hj => (hF j hj).1) hz)⟩, by simp [intOf]; omega⟩
        · rw [HR.out, List.length_append, List.flatMap_append]
          simpa [ptC] using hs4
        · rcases hf4 j hj with h | ⟨h, h'⟩
          · have := hF j h; omega
          · rw [hza] at h; omega
    · obtain rfl : t = h.length := by omega
      obtain ⟨W9, hW9⟩ : ∃ W9, W9 = wr.alloc (.cells #[.func (.func 71) #[] #[.pointer (some ⟨w.heap.size, 0, none⟩)]] 145) := ⟨_, rfl⟩
      have hB9 : Below wr.heap.size wr W9 := by rw [hW9]; exact bel1 _ _
      have hz9 : W9.heap.size = wr.heap.size + 1 := by rw [hW9]; simp
      have hfb : W9.heap[wr.heap.size]? = some (.cells #[.func (.func 71) #[] #[.pointer (some ⟨w.heap.size, 0, none⟩)]] 145) := by rw [hW9]; exact heap_alloc_new _ _
      have hlb9 := (hB9.block w.heap.size i3).trans ((hB.block w.heap.size i1).trans HBX.out)
      have hz1 := HZ1.out
      have hl9 := (HL.out.below hB (by omega)).below hB9 (by omega)
      have hs9 := hs.keep (w' := W9) (fun j hj _ => hB9.block j hj)
      have hB19 : Below W1.heap.size W1 W9 := hB.trans (hB9.mono hz)
      have HW9 := Lib.hid hW9
      by_cases hp : ptsRaw h h.length = []
      · have hv0 := HNL.out hp
        have hv0' : (Value.slice A5 (ptsRaw h h.length).length c5) = .slice none 0 0 := hv0
        rw [hv0']
        have HM : Hid (Moments h []) := Lib.hid ⟨by rw [hp], List.Pairwise.nil⟩
        have HZ9 := Lib.hid hz9
        clear hs hs9 hfb hlb9 hl9 hW9 hp hz9 hz1 hv0 hv0'
        go_upto_region 9 with (fail)
        rw [← HW9.out]
        go_wp2_with (go_at_call 72; refine (sortNilP_ _ _).mono ?_; rintro e w5 ⟨rfl, rfl⟩)
        go_ret
        refine ⟨hB1.trans (hB19.mono (by have := HZ1.out; omega)), _, [], fun _ => False, rfl, HM, Sl.nil _ _ _ _, fun _ f => f.elim⟩
      · have hpos : 0 < (ptsRaw h h.length).length := List.length_pos_iff.2 hp
        obtain ⟨g, off, cap, hv⟩ := sl_some hs9 hpos
        cases hv
        obtain ⟨hgl, hgF, _, _, _⟩ := sl_block (enc := ptC) hs9
        have hgr := hF g hgF
        have hsort := Lib.hid (sortPts_ hl9 hlb9 hfb (by omega) (by omega) (by omega) (fun p hp => ((mem_ptsRaw _).1 hp).1) (by omega) hs9 (by omega))
        have HZ9 := Lib.hid hz9
        clear hs hs9 hfb hlb9 hl9 hW9 hp hz9 hz1
        go_upto_region 9 with (fail)
        rw [← HW9.out]
        go_wp2_with (go_at_call 72; with_reducible refine hsort.out.mono ?_; rintro e w5 ⟨rfl, l', hperm, hpw, hs5, hc5⟩
                     have HM : Hid (Moments h l') := Lib.hid ⟨hperm, hpw⟩
                     have HPL := Lib.hid hperm.length_eq
                     clear hperm hpw)
        go_ret
        have hz5 := hc5.size
        have hz9 := HZ9.out
        have hz1 := HZ1.out
        rw [← HPL.out]
        refine ⟨(hB1.trans (hB19.mono (by omega))).trans (hc5.below (fun j hj => by omega) (by omega)), _, l', F, rfl, HM, hs5, fun j hj => by have := hF j hj; omega⟩
end Go.Proofs.YtooigfkjdemnlaaGreatDoor

namespace Go.Proofs.YtooigfkjdemnlaaGreatDoor
set_option maxRecDepth 100000
open Go.RowKit Go.Lib Go.Sort Go.Shelf Xw

def lowP (h : List HTx) (p : Pt) : Int := match h[p.txn]? with
  | some x => if p.cm then x.ei else x.bi
  | none => 0
def highP (h : List HTx) (p : Pt) : Int := match h[p.txn]? with
  | some x => if p.cm then (if x.eo = 0 then 1073741824 else x.eo) else x.bo
  | none => 0
theorem below_any {B : Nat} {w w1 : World} (h : Below B w w1) (n : Nat) : Below B w (w1.drewN n) := below_drewN h n
set_option maxHeartbeats 4000000 in
theorem roomT_ {w : World} {B lp : Nat} {h : List HTx} (hl : Led w B lp h) (t : Nat) (pa : Int) (x : HTx) (hx : h[t]? = some x) :
    Calls Tryz.prog 77 #[.pointer (some ⟨lp, 0, none⟩), .agg #[.int .i64 t, .bool true, .int .i64 pa]] w fun e w' => e = .returned (.tuple #[.int .i64 (lowP h ⟨t, true, pa⟩), .int .i64 (highP h ⟨t, true, pa⟩)]) ∧ Below w.heap.size w w' := by
  obtain ⟨tv, wv, ob, kv, tyl, l1, l2, l3, l4, l5⟩ := hl.ex
  have hlp := hl.lt
  have hle := hl.le
  obtain ⟨W1, hW1⟩ : ∃ W1, W1 = w.alloc (.cells #[.int .i64 t, .bool true, .int .i64 pa] 112) := ⟨_, rfl⟩
  have hB1 : Below w.heap.size w W1 := by rw [hW1]; exact bel1 _ _
  have hz1 : W1.heap.size = w.heap.size + 1 := by rw [hW1]; simp
  have hbx : W1.heap[w.heap.size]? = some (.cells #[.int .i64 t, .bool true, .int .i64 pa] 112) := by rw [hW1]; exact heap_alloc_new _ _
  have hlow1 : ∀ j, j < B → W1.heap[j]? = w.heap[j]? := fun j hj => hB1.block j (by omega)
  have v0 := (cells_of (cs := [.int .i64 t, .bool true, .int .i64 pa]) hbx).1 0
  have v1 := (cells_of (cs := [.int .i64 t, .bool true, .int .i64 pa]) hbx).1 1
  have q0 := (World.cell?_of_block (a := ⟨lp, 0, none⟩) (hlow1 lp hlp)).trans ((cells_of l1).1 0)
  obtain ⟨b3, p3, c3, ov3, he3, hb3, ⟨x0, x1, x2, x3, x4, x5, x6, x7, x8⟩, hro⟩ := HistV.get l2 hx (wr := W1) hlow1
  cases he3
  obtain ⟨OA, oc, rfl, hoc1, hoc2⟩ := hro.shape
  obtain ⟨_, _, hth, ht1, ht2⟩ := Rows.shape l2
  cases hth
  simp only [maxLen] at ht2
  have hti : (t : Int) < h.length := by have := (List.getElem?_eq_some_iff.1 hx).1; omega
  have i2 : lp < W1.heap.size := by omega
  have i3 : b3 < W1.heap.size := by omega
  have i4 : w.heap.size < W1.heap.size := by omega
  have HW1 := Lib.hid hW1
  have HZ1 := Lib.hid hz1
  by_cases he0 : x.eo = 0
  · have hbq : (x.eo == 0) = true := by simp [he0]
    have HR : Hid (lowP h ⟨t, true, pa⟩ = x.ei ∧ highP h ⟨t, true, pa⟩ = 1073741824) := Lib.hid (by unfold lowP highP; simp only; rw [hx]; exact ⟨rfl, by simp [he0]⟩)
    clear he0
    clear hW1 hbx l1 l2 l3 l4 l5 hl hx hro hz1
    go_enter Tryz.func77, Tryz.ntmps77
    go_upto_region 1 with (fail)
    rw [← HW1.out]
    go_wp2_with (with_reducible refine wp_region_free (by kernel_rfl) (fun _ _ => ?_))
    refine bodyPost_ret (results_tmp2 rfl _ _ _) rfl ?_
    rw [HR.out.1, HR.out.2]
    exact ⟨rfl, hB1.trans (Below.mono (B := W1.heap.size) (by first | exact (bel1 W1 _).drew | exact (bel1 W1 _).drew.drew | exact (bel1 W1 _).drew.drew.drew) (by have := HZ1.out; omega))⟩
  · have hbq : (x.eo == 0) = false := by simp [he0]
    have HR : Hid (lowP h ⟨t, true, pa⟩ = x.ei ∧ highP h ⟨t, true, pa⟩ = x.eo) := Lib.hid (by unfold lowP highP; simp only; rw [hx]; exact ⟨rfl, by simp [he0]⟩)
    clear he0
    clear hW1 hbx l1 l2 l3 l4 l5 hl hx hro hz1
    go_enter Tryz.func77, Tryz.ntmps77
    go_upto_region 1 with (fail)
    rw [← HW1.out]
    go_wp2_with (with_reducible refine wp_region_free (by kernel_rfl) (fun _ _ => ?_))
    refine bodyPost_ret (results_tmp2 rfl _ _ _) rfl ?_
    rw [HR.out.1, HR.out.2]
    exact ⟨rfl, hB1.trans (Below.mono (B := W1.heap.size) (by first | exact (bel1 W1 _).drew | exact (bel1 W1 _).drew.drew | exact (bel1 W1 _).drew.drew.drew) (by have := HZ1.out; omega))⟩
set_option maxHeartbeats 4000000 in
theorem roomF_ {w : World} {B lp : Nat} {h : List HTx} (hl : Led w B lp h) (t : Nat) (pa : Int) (x : HTx) (hx : h[t]? = some x) :
    Calls Tryz.prog 77 #[.pointer (some ⟨lp, 0, none⟩), .agg #[.int .i64 t, .bool false, .int .i64 pa]] w fun e w' => e = .returned (.tuple #[.int .i64 (lowP h ⟨t, false, pa⟩), .int .i64 (highP h ⟨t, false, pa⟩)]) ∧ Below w.heap.size w w' := by
  obtain ⟨tv, wv, ob, kv, tyl, l1, l2, l3, l4, l5⟩ := hl.ex
  have hlp := hl.lt
  have hle := hl.le
  obtain ⟨W1, hW1⟩ : ∃ W1, W1 = w.alloc (.cells #[.int .i64 t, .bool false, .int .i64 pa] 112) := ⟨_, rfl⟩
  have hB1 : Below w.heap.size w W1 := by rw [hW1]; exact bel1 _ _
  have hz1 : W1.heap.size = w.heap.size + 1 := by rw [hW1]; simp
  have hbx : W1.heap[w.heap.size]? = some (.cells #[.int .i64 t, .bool false, .int .i64 pa] 112) := by rw [hW1]; exact heap_alloc_new _ _
  have hlow1 : ∀ j, j < B → W1.heap[j]? = w.heap[j]? := fun j hj => hB1.block j (by omega)
  have v0 := (cells_of (cs := [.int .i64 t, .bool false, .int .i64 pa]) hbx).1 0
  have v1 := (cells_of (cs := [.int .i64 t, .bool false, .int .i64 pa]) hbx).1 1
  have q0 := (World.cell?_of_block (a := ⟨lp, 0, none⟩) (hlow1 lp hlp)).trans ((cells_of l1).1 0)
  obtain ⟨b3, p3, c3, ov3, he3, hb3, ⟨x0, x1, x2, x3, x4, x5, x6, x7, x8⟩, hro⟩ := HistV.get l2 hx (wr := W1) hlow1
  cases he3
  obtain ⟨OA, oc, rfl, hoc1, hoc2⟩ := hro.shape
  obtain ⟨_, _, hth, ht1, ht2⟩ := Rows.shape l2
  cases hth
  simp only [maxLen] at ht2
  have hti : (t : Int) < h.length := by have := (List.getElem?_eq_some_iff.1 hx).1; omega
  have i2 : lp < W1.heap.size := by omega
  have i3 : b3 < W1.heap.size := by omega
  have i4 : w.heap.size < W1.heap.size := by omega
  have HW1 := Lib.hid hW1
  have HZ1 := Lib.hid hz1
  have HR : Hid (lowP h ⟨t, false, pa⟩ = x.bi ∧ highP h ⟨t, false, pa⟩ = x.bo) := Lib.hid (by unfold lowP highP; simp only; rw [hx]; exact ⟨rfl, rfl⟩)
  clear hW1 hbx l1 l2 l3 l4 l5 hl hx hro hz1
  go_enter Tryz.func77, Tryz.ntmps77
  go_upto_region 1 with (fail)
  rw [← HW1.out]
  go_wp2_with (with_reducible refine wp_region_free (by kernel_rfl) (fun _ _ => ?_))
  refine bodyPost_ret (results_tmp2 rfl _ _ _) rfl ?_
  rw [HR.out.1, HR.out.2]
  exact ⟨rfl, hB1.trans (Below.mono (B := W1.heap.size) (by first | exact (bel1 W1 _).drew | exact (bel1 W1 _).drew.drew | exact (bel1 W1 _).drew.drew.drew) (by have := HZ1.out; omega))⟩
theorem room_ {w : World} {B lp : Nat} {h : List HTx} (hl : Led w B lp h) (p : Pt) (x : HTx) (hx : h[p.txn]? = some x) :
    Calls Tryz.prog 77 #[.pointer (some ⟨lp, 0, none⟩), .agg #[.int .i64 p.txn, .bool p.cm, .int .i64 p.pat]] w fun e w' => e = .returned (.tuple #[.int .i64 (lowP h p), .int .i64 (highP h p)]) ∧ Below w.heap.size w w' := by
  obtain ⟨t, c, a⟩ := p
  cases c
  · exact roomF_ hl t a x hx
  · exact roomT_ hl t a x hx
end Go.Proofs.YtooigfkjdemnlaaGreatDoor

namespace Go.Proofs.YtooigfkjdemnlaaGreatDoor
set_option maxRecDepth 100000
open Go.RowKit Go.Lib Go.Sort Go.Shelf Xw

def nowP (h : List HTx) (l : List Pt) : Nat → Int
  | 0 => 0
  | n + 1 => match l[n]? with
    | some p => max (nowP h l n) (lowP h p)
    | none => nowP h l n
def FitsN (h : List HTx) (l : List Pt) (n : Nat) : Prop := ∀ i p, i < n → l[i]? = some p → nowP h l (i + 1) ≤ highP h p
def SamePts (l c : List Pt) : Prop := c.length = l.length ∧ ∀ (i : Nat) (p : Pt), l[i]? = some p → ∃ a : Int, c[i]? = some ⟨p.txn, p.cm, a⟩
theorem SamePts.refl (l : List Pt) : SamePts l l := ⟨rfl, fun i p hp => ⟨p.pat, hp⟩⟩
theorem pt_cells {w W : World} {g off cap : Nat} {l : List Pt} {F : Nat → Prop} (h : Sl w 112 3 (.slice (some ⟨g, off, none⟩) l.length cap) l.length (l.flatMap ptC) F) (hW : W.heap[g]? = w.heap[g]?) {i : Nat} {x : Pt} (hx : l[i]? = some x) :
    (W.cell? ⟨g, off + i * 3, none⟩ = some (.int .i64 x.txn) ∧ W.cell? ⟨g, off + i * 3 + 1, none⟩ = some (.bool x.cm) ∧ W.cell? ⟨g, off + i * 3 + 2, none⟩ = some (.int .i64 x.pat)) ∧
    (W.frozen? ⟨g, off + i * 3, none⟩ = false ∧ W.frozen? ⟨g, off + i * 3 + 1, none⟩ = false ∧ W.frozen? ⟨g, off + i * 3 + 2, none⟩ = false) := by
  have hH := holdsK_of_sl (enc := ptC) (size := 3) (fun _ => rfl) h
  have hi : i < l.length := (List.getElem?_eq_some_iff.1 hx).1
  have hl : l.toArray[i]! = x := by rw [bang_list]; simp [List.getD_eq_getElem?_getD, hx]
  have key : ∀ m, (hm : m < 3) → W.cell? ⟨g, off + i * 3 + m, none⟩ = some (ptC x)[m]! ∧ W.frozen? ⟨g, off + i * 3 + m, none⟩ = false := fun m hm => by
    have := hH (i * 3 + m) (by rw [size_flatK]; simp; omega)
    rw [get_flatK _ _ _ _ (by simp; omega)] at this
    rw [show (i * 3 + m) / 3 = i by omega, show (i * 3 + m) % 3 = m by omega, hl] at this
    rw [show off + (i * 3 + m) = off + i * 3 + m by omega] at this
    exact ⟨(World.cell?_of_block (a := ⟨g, off + i * 3 + m, none⟩) hW).trans this.1, (World.frozen?_of_block (a := ⟨g, off + i * 3 + m, none⟩) hW).trans this.2⟩
  exact ⟨⟨(key 0 (by omega)).1, (key 1 (by omega)).1, (key 2 (by omega)).1⟩, (key 0 (by omega)).2, (key 1 (by omega)).2, (key 2 (by omega)).2⟩
theorem Sl.set1 {w : World} {e : TypeId} {g off cap size n : Nat} {xs : List Value} {F : Nat → Prop} (h : Sl w e size (.slice (some ⟨g, off, none⟩) n cap) n xs F) (k : Nat) (hk : k < n * size) (u : Value) :
    Sl (w.setCell ⟨g, off + k, none⟩ u) e size (.slice (some ⟨g, off, none⟩) n cap) n (xs.set k u) F ∧ Chg (fun j => j = g) w (w.setCell ⟨g, off + k, none⟩ u) := by
  refine ⟨⟨by rw [List.length_set]; exact h.1, ?_⟩, (Chg.refl _ _).setCell _ _ (fun _ => rfl)⟩
  rcases h.2 with ⟨h1, _⟩ | ⟨g', off', cap', cur, hv, hF, hb, h1, h2, h3, h4⟩
  · cases h1
  · cases hv
    refine .inr ⟨g, off, cap, cur.setIfInBounds (off + k) u, rfl, hF, heap_setCell_same hb, h1, h2, by simpa using h3, ?_⟩
    rw [Array.toList_setIfInBounds, List.drop_set, if_neg (by omega), List.take_set, h4, show off + k - off = k by omega]
theorem flat_setPat (a : Int) : ∀ (l : List Pt) (i : Nat) (p : Pt), l[i]? = some p → (l.flatMap ptC).set (i * 3 + 2) (.int .i64 a) = (l.set i ⟨p.txn, p.cm, a⟩).flatMap ptC
  | [], i, p, h => by simp at h
  | x :: r, 0, p, h => by simp at h; subst h; simp [ptC]
  | x :: r, i + 1, p, h => by
    have ih := flat_setPat a r i p (by simpa using h)
    simp only [List.flatMap_cons, List.set_cons_succ]
    rw [← ih, show (i + 1) * 3 + 2 = (ptC x).length + (i * 3 + 2) by simp [ptC]; omega, List.set_append_right _ _ (by omega), Nat.add_sub_cancel_left]
set_option maxHeartbeats 4000000 in
theorem place_ {w : World} {B lp : Nat} {h : List HTx} {v : Value} {l c0 : List Pt} {F : Nat → Prop} (hl : Led w B lp h) (hin : ∀ p ∈ l, p.txn < h.length) (hsame : SamePts l c0) (hS : Sl w 112 3 v c0.length (c0.flatMap ptC) F) (hF : ∀ j, F j → B ≤ j) :
    Calls Tryz.prog 36 #[.pointer (some ⟨lp, 0, none⟩), v] w fun e w' => Chg F w w' ∧ ∃ (b : Bool) (c : List Pt), e = .returned (.bool b) ∧ Hid (b = true ↔ FitsN h l l.length) ∧ Hid (SamePts l c) ∧ Sl w' 112 3 v c.length (c.flatMap ptC) F := by
  obtain ⟨A, cp, rfl, hca, hcb⟩ := hS.shape
  simp only [maxLen] at hca
  have hle := hl.le
  have hcl := hsame.1
  have HL := Lib.hid hl
  have HS := Lib.hid hS
  have HSM := Lib.hid hsame
  have hll : c0.length ≤ cp := hcb
  rw [hcl] at hcb
  clear hl hS hsame
  go_enter Tryz.func36, Tryz.ntmps36
  rw [hcl]
  have HCL := Lib.hid hcl
  clear hcl hll
  go_wp2
  go_loopw [5, 6, 7, 8, 11] (fun n' _ _ _ i' wr => ∃ (i : Nat) (c : List Pt), i ≤ l.length ∧ i' = .int .i64 i ∧ n' = .int .i64 (nowP h l i) ∧ Hid (FitsN h l i) ∧ Hid (SamePts l c) ∧ Sl wr 112 3 (.slice A l.length cp) c.length (c.flatMap ptC) F ∧ Chg F w wr) (fun _ _ _ _ i' _ => l.length - (intOf i').toNat)
  case atStart => exact ⟨0, c0, by omega, rfl, rfl, Lib.hid (fun i p hi => by omega), HSM, by have := HS.out; rw [HCL.out] at this ⊢; exact this, Chg.refl _ _⟩
  case round =>
    obtain ⟨i, c, hi, rfl, rfl, HFT, HSP, hs, hC⟩ := hrel
    have hz := hC.size
    have hcl := HSP.out.1
    by_cases hlt : i < l.length
    · obtain ⟨p, hp⟩ : ∃ p, l[i]? = some p := ⟨_, List.getElem?_eq_getElem hlt⟩
      obtain ⟨a, hca⟩ := HSP.out.2 i p hp
      obtain ⟨x, hx⟩ : ∃ x, h[p.txn]? = some x := ⟨_, List.getElem?_eq_getElem (hin p (List.mem_of_getElem? hp))⟩
      have hlr := HL.out.keep (w' := wr) (fun j hj => hC.block j (by omega) (fun h => by have := hF j h; omega)) hz
      rw [hcl] at hs
      obtain ⟨g, off, cap, hv⟩ := sl_some hs (by omega)
      cases hv
      have hs' : Sl wr 112 3 (.slice (some ⟨g, off, none⟩) c.length cp) c.length (c.flatMap ptC) F := by rw [hcl]; exact hs
      obtain ⟨⟨d0, d1, d2⟩, f0, f1, f2⟩ := pt_cells hs' rfl hca
      obtain ⟨hgl, hgF, _, _, _⟩ := sl_block (enc := ptC) hs'
      have hroom := room_ hlr ⟨p.txn, p.cm, a⟩ x hx
      have hlo : lowP h ⟨p.txn, p.cm, a⟩ = lowP h p := rfl
      have hhi : highP h ⟨p.txn, p.cm, a⟩ = highP h p := rfl
      rw [hlo, hhi] at hroom
      have hnow : nowP h l (i + 1) = max (nowP h l i) (lowP h p) := by simp only [nowP, hp]
      obtain ⟨lo, hlo'⟩ : ∃ lo, lo = lowP h p := ⟨_, rfl⟩
      obtain ⟨hi', hhi'⟩ : ∃ hi', hi' = highP h p := ⟨_, rfl⟩
      obtain ⟨nw, hnw⟩ : ∃ nw, nw = nowP h l i := ⟨_, rfl⟩
      rw [← hlo', ← hhi'] at hroom
      rw [← hnw, ← hlo'] at hnow
      rw [← hnw]
      have HRM := Lib.hid hroom
      have HX := Lib.hid (And.intro hp (And.intro hca (And.intro hnow (And.intro hhi' hs'))))
      have HCL2 := Lib.hid hcl
      have hii : (i : Int) < l.length := by omega
      clear hroom hp hca hnow hhi' hs' hs hlr hx hcl hlo' hnw hlo hhi
      by_cases hfit : max nw lo ≤ hi'
      · have hgt : ¬ hi' < max nw lo := by omega
        go_wp2_with (go_at_call 77; refine HRM.out.mono ?_; rintro e w2 ⟨rfl, hB2⟩
                     have hz2 := hB2.size
                     have d2' := (World.cell?_of_block (a := ⟨g, off + i * 3 + 2, none⟩) (hB2.block g hgl)).trans d2
                     have f2' := (World.frozen?_of_block (a := ⟨g, off + i * 3 + 2, none⟩) (hB2.block g hgl)).trans f2
                     have hgl2 : g < w2.heap.size := by omega)
        obtain ⟨x1, x2, x3, x4, x5⟩ := HX.out
        have hc2 : Chg (fun _ => False) wr w2 := ⟨hB2.tape, hB2.os, hB2.output, hB2.size, fun b hb _ => hB2.block b hb⟩
        have hcl := HCL2.out
        obtain ⟨s1, s2⟩ := Sl.set1 (x5.chg hc2 (fun _ _ f => f)) (i * 3 + 2) (by omega) (.int .i64 (max nw lo))
        rw [flat_setPat (max nw lo) c i _ x2] at s1
        refine ⟨⟨i + 1, c.set i ⟨p.txn, p.cm, max nw lo⟩, by omega, by simp, by rw [x3], Lib.hid (fun i' p' hi1 hp' => ?_), Lib.hid ⟨by rw [List.length_set]; exact hcl, fun j q hq => ?_⟩, ?_, ?_⟩, by simp [intOf]; omega⟩
        · by_cases hii' : i' = i
          · subst hii'
            rw [x1] at hp'; cases hp'
            rw [x3, ← x4]
            exact hfit
          · exact HFT.out i' p' (by omega) hp'
        · by_cases hji : j = i
          · subst hji
            rw [x1] at hq; cases hq
            exact ⟨max nw lo, by rw [List.getElem?_set_self (by omega)]⟩
          · rw [List.getElem?_set_ne (by omega)]
            exact HSP.out.2 j q hq
        · rw [List.length_set]
          rw [hcl] at s1
          rw [hcl]
          exact s1
        · exact (hC.trans hc2 (fun _ _ f => f.elim)).trans s2 (fun j _ h => by subst h; exact hgF)
      · have hgt : hi' < max nw lo := by omega
        have HNF : Hid (¬ FitsN h l l.length) := Lib.hid (fun hF' => by
          have := hF' i p hlt HX.out.1
          rw [HX.out.2.2.1, ← HX.out.2.2.2.1] at this
          exact hfit this)
        go_wp2_with (go_at_call 77; refine HRM.out.mono ?_; rintro e w2 ⟨rfl, hB2⟩)
        go_ret
        have hc2 : Chg (fun _ => False) wr w2 := ⟨hB2.tape, hB2.os, hB2.output, hB2.size, fun b hb _ => hB2.block b hb⟩
        refine ⟨hC.trans hc2 (fun _ _ f => f.elim), false, c, rfl, Lib.hid ⟨fun h => (by cases h), fun h => absurd h HNF.out⟩, HSP, ?_⟩
        have := HX.out.2.2.2.2.chg hc2 (fun _ _ f => f)
        rw [HCL2.out] at this ⊢
        exact this
    · obtain rfl : i = l.length := by omega
      have HS2 := Lib.hid hs
      clear hs hcl
      go_wp2
      go_ret
      exact ⟨hC, true, c, rfl, Lib.hid ⟨fun _ => HFT.out, fun _ => rfl⟩, HSP, HS2.out⟩
end Go.Proofs.YtooigfkjdemnlaaGreatDoor

namespace Go.Proofs.YtooigfkjdemnlaaGreatDoor
set_option maxRecDepth 100000
open Go.RowKit Go.Lib Go.Sort Go.Shelf Xw

def ClashP (h : List HTx) (t u : Nat) : Prop := ∃ x y k, h[t]? = some x ∧ h[u]? = some y ∧ writes x k ≠ [] ∧ writes y k ≠ []
set_option maxHeartbeats 4000000 in
theorem clash_ {w : World} {B lp : Nat} {h : List HTx} (hl : Led w B lp h) (t u : Nat) (x y : HTx) (hx : h[t]? = some x) (hy : h[u]? = some y) :
    Calls Tryz.prog 81 #[.pointer (some ⟨lp, 0, none⟩), .int .i64 t, .int .i64 u] w fun e w' => Below w.heap.size w w' ∧ ∃ b, e = .returned (.bool b) ∧ Hid (b = true ↔ ClashP h t u) := by
  obtain ⟨tv, wv, ob, kv, tyl, l1, l2, l3, l4, l5⟩ := hl.ex
  have hlp := hl.lt
  have hle := hl.le
  obtain ⟨b1, o1, c1, cs1, hv1, hb1, hn1, hm1, -, ⟨mb1, rfl, hmo1⟩, hc1⟩ := l3.at_ hx
  obtain ⟨b2, o2, c2, mb2, L2, hv2, hb2, w2c, hmb2, hL2, hlk2⟩ := wr_get l3 hy (wr := w) (fun _ _ => rfl)
  subst hv1
  cases hv2
  have q1 := (cells_of l1).1 1
  have r1 := hc1 0 _ rfl
  simp only [Nat.mul_one, Nat.add_zero] at r1
  obtain ⟨hmb1, L1, hL1, hLa, hLb⟩ := hmo1
  simp only [maxLen] at hm1
  have hti : (t : Int) < h.length := by have := (List.getElem?_eq_some_iff.1 hx).1; omega
  have hui : (u : Int) < h.length := by have := (List.getElem?_eq_some_iff.1 hy).1; omega
  have i1 : lp < w.heap.size := by omega
  have i2 : b1 < w.heap.size := by omega
  have HX := Lib.hid (And.intro hx hy)
  have HLK := Lib.hid hlk2
  have HLA := Lib.hid (And.intro hLa hLb)
  clear l1 l2 l3 l4 l5 hl hx hy hlk2 hLa hLb hc1
  go_enter Tryz.func81, Tryz.ntmps81
  go_wp2_with (at_range; refine wpList_range_k _ _ _ _ rfl rfl Tryz.underlying159 _ rfl hL1 ?_; intro o' hit0)
  go_frame
  go_loopw [7] (fun _ wr => ∃ rem, MIter Value.string wr w.heap.size mb1 L1 rem ∧ Hid (∀ p ∈ L1, p ∉ rem → writes y p.1 = []) ∧ Below w.heap.size w wr) (fun _ wr => wr.rangeLeft mb1 w.heap.size)
  case atStart => exact ⟨L1, hit0, Lib.hid (fun p hp hn => absurd hp hn), bel1 _ _⟩
  case round =>
    obtain ⟨rem, hit, HR, hB⟩ := hrel
    have HLEFT := Lib.hid hit.left
    have hz := hB.size
    go_wp2_with (at_next; refine wpList_next_k _ rfl rfl rfl hit ?_ ?_)
    · intro h0r
      subst h0r
      go_wp2
      go_ret
      refine ⟨hB, false, rfl, Lib.hid ⟨fun h => (by cases h), fun ⟨x', y', k, h1, h2, h3, h4⟩ => ?_⟩⟩
      rw [HX.out.1] at h1; cases h1
      rw [HX.out.2] at h2; cases h2
      obtain ⟨p, hp, rfl⟩ := List.mem_map.1 (HLA.out.2 k h3)
      exact absurd (HR.out p hp (by simp)) h4
    · intro pk pv hp w3 hit3 hc3 hz3 hen
      have hlow : ∀ j, j < w.heap.size → w3.heap[j]? = w.heap[j]? := fun j hj => (hc3.block j (by omega) (by omega)).trans (hB.block j hj)
      have q1' := (World.cell?_of_block (a := ⟨lp, 1, none⟩) (hlow lp i1)).trans q1
      have r2' := (World.cell?_of_block (a := ⟨b1, o1 + u, none⟩) (hlow b1 i2)).trans w2c
      have hlkk := HLK.out pk
      obtain ⟨V, hV⟩ : ∃ V, V = (kget L2 pk).getD (.slice none 0 0) := ⟨_, rfl⟩
      rw [← hV] at hlkk
      obtain ⟨VA, vc, rfl, hva, hvb⟩ := hlkk.shape
      have lk : (Instr.lookup 159 (.map (some mb2)) (.string pk) false).run Tryz.prog w3 = .ok (.slice VA (writes y pk).length vc) w3 := by
        have := run_lookup_kmap kString Tryz.underlying159 (zero_slice_wrote w3) (hL2.keep (hlow mb2 (by omega))) pk false
        rw [hV]
        exact this
      have hpL : (pk, pv) ∈ L1 := hit3.map.nodup |> fun _ => hit.sub.subset hp
      have hzz := hc3.size
      have i3 : lp < w3.heap.size := by omega
      have i4 : b1 < w3.heap.size := by omega
      have HP := Lib.hid (And.intro hp hpL)
      have HC3 := Lib.hid hc3
      clear hlow hlkk hV hp hpL
      rcases Nat.eq_zero_or_pos (writes y pk).length with h0 | h0
      · have h0i : ¬ (0 : Int) < ((writes y pk).length : Nat) := by omega
        have hnil : writes y pk = [] := List.eq_nil_of_length_eq_zero h0
        have HN := Lib.hid hnil
        clear h0 hnil
        go_wp2
        have hB3 : Below w.heap.size w w3 := hB.trans (HC3.out.below (fun j hj => by omega) (by omega))
        refine ⟨⟨kdel rem pk, hit3, Lib.hid (fun p hp hn => ?_), hB3⟩, ?_⟩
        · by_cases hpk : p.1 = pk
          · rw [hpk]; exact HN.out
          · refine HR.out p hp (fun hr => hn ?_)
            unfold kdel
            exact List.mem_filter.2 ⟨hr, by simp [hpk]⟩
        · rw [hit3.left, HLEFT.out]
          have := kdel_len hit.nodup HP.out.1
          dsimp only at this
          omega
      · have h0i : (0 : Int) < ((writes y pk).length : Nat) := by omega
        have hne : writes y pk ≠ [] := List.length_pos_iff.1 h0
        have HN := Lib.hid hne
        clear h0 hne
        go_wp2
        go_ret
        have hB3 : Below w.heap.size w w3 := hB.trans (HC3.out.below (fun j hj => by omega) (by omega))
        exact ⟨hB3, true, rfl, Lib.hid ⟨fun _ => ⟨x, y, pk, HX.out.1, HX.out.2, (HLA.out.1 pk pv HP.out.2).1, HN.out⟩, fun _ => rfl⟩⟩
end Go.Proofs.YtooigfkjdemnlaaGreatDoor

namespace Go.Proofs.YtooigfkjdemnlaaGreatDoor

def nowAt (h : List HTx) (l : List Pt) : Nat → KSt
  | 0 => fun _ => none
  | p + 1 => match l[p]? with
    | some q => if q.cm then (match h[q.txn]? with
      | some x => applyN x q.txn (nowAt h l p) x.ops.length
      | none => nowAt h l p) else nowAt h l p
    | none => nowAt h l p
def begAt (l : List Pt) (k : Int) : Nat → Nat
  | 0 => 0
  | p + 1 => match l[p]? with
    | some q => if (q.txn : Int) = k ∧ q.cm = false then p else begAt l k p
    | none => begAt l k p
def begB (l : List Pt) (p : Nat) (k : Int) : Bool := (l.take p).any fun q => decide ((q.txn : Int) = k) && !q.cm
def cmB (l : List Pt) (p : Nat) (k : Int) : Bool := (l.take p).any fun q => decide ((q.txn : Int) = k) && q.cm
def actB (l : List Pt) (p : Nat) (k : Int) : Bool := begB l p k && !cmB l p k
def sinceF (l : List Pt) : Nat → Int → List Int
  | 0, _ => []
  | p + 1, k => match l[p]? with
    | some q => if q.cm then (if actB l p k = true ∧ k ≠ q.txn then sinceF l p k ++ [(q.txn : Int)] else sinceF l p k) else (if k = q.txn then [] else sinceF l p k)
    | none => sinceF l p k
structure WfPts (h : List HTx) (l : List Pt) : Prop where
  nd : (l.map fun p => (p.txn, p.cm)).Nodup
  beg : ∀ (p : Nat) (q : Pt), l[p]? = some q → q.cm = true → ∃ (b : Nat) (r : Pt), b < p ∧ l[b]? = some r ∧ r.txn = q.txn ∧ r.cm = false
  cm : ∀ q ∈ l, com h q.txn = true
variable {h : List HTx} {l : List Pt} {p : Nat} {q : Pt}
theorem begB_iff {k : Int} : begB l p k = true ↔ ∃ (b : Nat) (r : Pt), b < p ∧ l[b]? = some r ∧ (r.txn : Int) = k ∧ r.cm = false := by
  unfold begB
  rw [List.any_eq_true]
  constructor
  · rintro ⟨r, hr, h1⟩
    simp only [Bool.and_eq_true, decide_eq_true_eq, Bool.not_eq_true'] at h1
    obtain ⟨b, hb⟩ := List.mem_iff_getElem?.1 hr
    have hbl := (List.getElem?_eq_some_iff.1 hb).1
    rw [List.length_take] at hbl
    rw [List.getElem?_take, if_pos (by omega)] at hb
    exact ⟨b, r, by omega, hb, h1⟩
  · rintro ⟨b, r, hb, hr, h1, h2⟩
    exact ⟨r, List.mem_of_getElem? (i := b) (by rw [List.getElem?_take, if_pos hb]; exact hr), by simp [h1, h2]⟩
theorem cmB_iff {k : Int} : cmB l p k = true ↔ ∃ (b : Nat) (r : Pt), b < p ∧ l[b]? = some r ∧ (r.txn : Int) = k ∧ r.cm = true := by
  unfold cmB
  rw [List.any_eq_true]
  constructor
  · rintro ⟨r, hr, h1⟩
    simp only [Bool.and_eq_true, decide_eq_true_eq] at h1
    obtain ⟨b, hb⟩ := List.mem_iff_getElem?.1 hr
    have hbl := (List.getElem?_eq_some_iff.1 hb).1
    rw [List.length_take] at hbl
    rw [List.getElem?_take, if_pos (by omega)] at hb
    exact ⟨b, r, by omega, hb, h1⟩
  · rintro ⟨b, r, hb, hr, h1, h2⟩
    exact ⟨r, List.mem_of_getElem? (i := b) (by rw [List.getElem?_take, if_pos hb]; exact hr), by simp [h1, h2]⟩
theorem WfPts.inj (W : WfPts h l) {a b : Nat} {r s : Pt} (ha : l[a]? = some r) (hb : l[b]? = some s) (h1 : r.txn = s.txn) (h2 : r.cm = s.cm) : a = b := by
  have e : (l.map fun p => (p.txn, p.cm))[a]? = (l.map fun p => (p.txn, p.cm))[b]? := by rw [List.getElem?_map, List.getElem?_map, ha, hb]; simp [h1, h2]
  exact (List.getElem?_inj (by rw [List.length_map]; exact (List.getElem?_eq_some_iff.1 ha).1) W.nd).1 e
theorem begB_succ {k : Int} (hq : l[p]? = some q) : begB l (p + 1) k = (begB l p k || (decide ((q.txn : Int) = k) && !q.cm)) := by
  unfold begB
  rw [List.take_add_one, hq, List.any_append]
  simp
theorem cmB_succ {k : Int} (hq : l[p]? = some q) : cmB l (p + 1) k = (cmB l p k || (decide ((q.txn : Int) = k) && q.cm)) := by
  unfold cmB
  rw [List.take_add_one, hq, List.any_append]
  simp
theorem actB_begin (W : WfPts h l) (hq : l[p]? = some q) (hc : q.cm = false) (k : Int) : actB l (p + 1) k = true ↔ actB l p k = true ∨ k = q.txn := by
  unfold actB
  rw [begB_succ hq, cmB_succ hq, hc]
  simp only [Bool.not_false, Bool.and_true, Bool.and_false, Bool.or_false, Bool.and_eq_true, Bool.or_eq_true, decide_eq_true_eq, Bool.not_eq_true']
  constructor
  · rintro ⟨h1 | h1, h2⟩
    · exact .inl ⟨h1, h2⟩
    · exact .inr h1.symm
  · rintro (⟨h1, h2⟩ | h1)
    · exact ⟨.inl h1, h2⟩
    · refine ⟨.inr h1.symm, ?_⟩
      cases hcm : cmB l p k with
      | false => rfl
      | true =>
        obtain ⟨a, r, ha, hr, h3, h4⟩ := cmB_iff.1 hcm
        obtain ⟨b, s, hb, hs, h5, h6⟩ := W.beg a r hr h4
        have := W.inj hs hq (by omega) (by rw [h6, hc])
        omega
theorem actB_commit (hq : l[p]? = some q) (hc : q.cm = true) (k : Int) : actB l (p + 1) k = true ↔ actB l p k = true ∧ k ≠ q.txn := by
  unfold actB
  rw [begB_succ hq, cmB_succ hq, hc]
  simp only [Bool.not_true, Bool.and_true, Bool.and_false, Bool.or_false, Bool.and_eq_true, Bool.not_eq_true', Bool.or_eq_false_iff, decide_eq_false_iff_not]
  constructor
  · rintro ⟨h1, h2, h3⟩; exact ⟨⟨h1, h2⟩, fun e => h3 e.symm⟩
  · rintro ⟨⟨h1, h2⟩, h3⟩; exact ⟨h1, h2, fun e => h3 e.symm⟩
theorem actB_self (W : WfPts h l) (hq : l[p]? = some q) (hc : q.cm = true) : actB l p q.txn = true := by
  unfold actB
  rw [Bool.and_eq_true, Bool.not_eq_true']
  refine ⟨begB_iff.2 ?_, ?_⟩
  · obtain ⟨b, r, h1, h2, h3, h4⟩ := W.beg p q hq hc
    exact ⟨b, r, h1, h2, by omega, h4⟩
  · cases hcm : cmB l p q.txn with
    | false => rfl
    | true =>
      obtain ⟨a, r, ha, hr, h3, h4⟩ := cmB_iff.1 hcm
      have := W.inj hr hq (by omega) (by rw [h4, hc])
      omega
theorem sinceF_len (l : List Pt) : ∀ p k, (sinceF l p k).length ≤ p
  | 0, k => Nat.le_refl _
  | p + 1, k => by
    have := sinceF_len l p k
    simp only [sinceF]
    cases l[p]? with
    | none => simp only; omega
    | some q =>
      simp only
      split
      · split
        · simp; omega
        · omega
      · split
        · simp
        · omega
theorem sinceF_mem (l : List Pt) : ∀ p k u, u ∈ sinceF l p k → ∃ q ∈ l, u = (q.txn : Int)
  | 0, k, u, hu => by cases hu
  | p + 1, k, u, hu => by
    have ih := sinceF_mem l p k u
    simp only [sinceF] at hu
    cases hq : l[p]? with
    | none => rw [hq] at hu; exact ih hu
    | some q =>
      rw [hq] at hu
      simp only at hu
      split at hu
      · split at hu
        · rcases List.mem_append.1 hu with h1 | h1
          · exact ih h1
          · simp at h1; exact ⟨q, List.mem_of_getElem? hq, h1⟩
        · exact ih hu
      · split at hu
        · cases hu
        · exact ih hu
def StepOK (h : List HTx) (l : List Pt) (p : Nat) : Prop := ∀ q x, l[p]? = some q → q.cm = true → h[q.txn]? = some x → x.iso ≠ 1 →
  (∀ u : Nat, (u : Int) ∈ sinceF l p q.txn → ¬ ClashP h q.txn u) ∧ ∀ i o, x.ops[i]? = some o → o.kind ≠ 2 → SameP (applyN x q.txn (nowAt h l (begAt l q.txn p)) i) o
def RunOK (h : List HTx) (l : List Pt) : Prop := ∀ p, StepOK h l p
end Go.Proofs.YtooigfkjdemnlaaGreatDoor

namespace Go.Proofs.YtooigfkjdemnlaaGreatDoor
set_option maxRecDepth 100000
open Go.RowKit Go.Lib Go.Sort Go.Shelf Xw

set_option maxHeartbeats 2000000 in
theorem indexP_ {w : World} {B : Nat} {v : Value} {l : List Int} (hr : Rows w B 1 (Flat intC) v l) (hle : B ≤ w.heap.size) (M : FuncId) (caps : Array Value) (P : Int → Prop)
    (eg : ∀ args w, (callFunc M args).run Tryz.prog w = .ok (.enter M args) w)
    (hm : ∀ (u : Int) (W : World), u ∈ l → Below w.heap.size w W → Calls Tryz.prog M (#[.int .i64 u] ++ caps) W fun r W' => Below W.heap.size W W' ∧ ∃ b, r = .returned (.bool b) ∧ Hid (b = true ↔ P u)) :
    Calls Tryz.prog 58 #[v, .func (.func M) #[] caps] w fun e w' => Below w.heap.size w w' ∧ ∃ i : Int, e = .returned (.int .i64 i) ∧ Hid (0 ≤ i ↔ ∃ u ∈ l, P u) := by
  obtain ⟨EA, ec, rfl, hc1, hc2⟩ := hr.shape
  simp only [maxLen] at hc2
  have HM := Lib.hid hm
  clear hm
  go_enter Tryz.func58, Tryz.ntmps58
  go_wp2
  go_loopw [5, 8] (fun _ i' wr => ∃ i : Nat, i ≤ l.length ∧ i' = .int .i64 i ∧ Hid (∀ j < i, ∀ u, l[j]? = some u → ¬ P u) ∧ Below w.heap.size w wr) (fun _ i' _ => l.length - (intOf i').toNat)
  case atStart => exact ⟨0, by omega, rfl, Lib.hid (fun j hj => by omega), Below.refl _ _⟩
  case round =>
    obtain ⟨i, hi, rfl, HI, hB⟩ := hrel
    have hz := hB.size
    by_cases hlt : i < l.length
    · obtain ⟨u, hu⟩ : ∃ u, l[i]? = some u := ⟨_, List.getElem?_eq_getElem hlt⟩
      obtain ⟨b, o, c2, hq, hb, p0⟩ := hr.get1 hu (wr := wr) (fun j hj => hB.block j (by omega)) rfl
      cases hq
      have hbr : b < wr.heap.size := by omega
      have hii : (i : Int) < l.length := by omega
      have HC := Lib.hid (HM.out u wr (List.mem_of_getElem? hu) hB)
      have HU := Lib.hid hu
      clear hu
      rcases Classical.em (P u) with hP | hP
      · have HP := Lib.hid hP
        clear hP
        go_wp2_with (go_at_fn M; refine HC.out.mono ?_; rintro r w9 ⟨hB9, b, rfl, HBP⟩
                     obtain rfl : b = true := HBP.out.2 HP.out)
        go_ret
        exact ⟨hB.trans (hB9.mono (by omega)), i, rfl, Lib.hid ⟨fun _ => ⟨u, List.mem_of_getElem? HU.out, HP.out⟩, fun _ => by omega⟩⟩
      · have HP := Lib.hid hP
        clear hP
        go_wp2_with (go_at_fn M; refine HC.out.mono ?_; rintro r w9 ⟨hB9, b, rfl, HBP⟩
                     obtain rfl : b = false := by
                       cases b
                       · rfl
                       · exact absurd (HBP.out.1 rfl) HP.out)
        refine ⟨⟨i + 1, by omega, by simp, Lib.hid (fun j hj u' hu' => ?_), hB.trans (hB9.mono (by omega))⟩, by simp [intOf]; omega⟩
        by_cases hji : j = i
        · subst hji
          rw [HU.out] at hu'; cases hu'
          exact HP.out
        · exact HI.out j (by omega) u' hu'
    · obtain rfl : i = l.length := by omega
      go_wp2
      go_ret
      refine ⟨hB, -1, rfl, Lib.hid ⟨fun h => by omega, fun ⟨u, hu, hP⟩ => ?_⟩⟩
      obtain ⟨j, hj⟩ := List.mem_iff_getElem?.1 hu
      exact absurd hP (HI.out j (List.getElem?_eq_some_iff.1 hj).1 u hj)
set_option maxHeartbeats 2000000 in
theorem containsP_ {w : World} {B : Nat} {v : Value} {l : List Int} (hr : Rows w B 1 (Flat intC) v l) (hle : B ≤ w.heap.size) (M : FuncId) (caps : Array Value) (P : Int → Prop)
    (eg : ∀ args w, (callFunc M args).run Tryz.prog w = .ok (.enter M args) w)
    (hm : ∀ (u : Int) (W : World), u ∈ l → Below w.heap.size w W → Calls Tryz.prog M (#[.int .i64 u] ++ caps) W fun r W' => Below W.heap.size W W' ∧ ∃ b, r = .returned (.bool b) ∧ Hid (b = true ↔ P u)) :
    Calls Tryz.prog 30 #[v, .func (.func M) #[] caps] w fun e w' => Below w.heap.size w w' ∧ ∃ b, e = .returned (.bool b) ∧ Hid (b = true ↔ ∃ u ∈ l, P u) := by
  have hix := Lib.hid (indexP_ hr hle M caps P eg hm)
  obtain ⟨EA, ec, rfl, hc1, hc2⟩ := hr.shape
  clear hm hr
  go_enter Tryz.func30, Tryz.ntmps30
  rcases Classical.em (∃ u ∈ l, P u) with hP | hP
  · have HP := Lib.hid hP
    clear hP
    go_wp2_with (go_at_call 58; refine hix.out.mono ?_; rintro e w2 ⟨hB2, i, rfl, HI⟩
                 have h0 : 0 ≤ i := HI.out.2 HP.out)
    go_ret
    exact ⟨hB2, true, by simp, Lib.hid ⟨fun _ => HP.out, fun _ => rfl⟩⟩
  · have HP := Lib.hid hP
    clear hP
    go_wp2_with (go_at_call 58; refine hix.out.mono ?_; rintro e w2 ⟨hB2, i, rfl, HI⟩
                 have h0 : ¬ 0 ≤ i := fun h => HP.out (HI.out.1 h))
    go_ret
    exact ⟨hB2, false, by simp; omega, Lib.hid ⟨fun h => (by cases h), fun h => absurd h HP.out⟩⟩
end Go.Proofs.YtooigfkjdemnlaaGreatDoor
