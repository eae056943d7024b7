/- Own texts of this claim, joined in build order: W5, W6. -/
import Derived.Test.YtooigfkjdemnlaaGreatDoorG15
import Derived.Test.YtooigfkjdemnlaaGreatDoorG14
set_option linter.all false
namespace Go.Proofs.YtooigfkjdemnlaaGreatDoor
open Go.RowKit Xw Go.Shelf
attribute [local go_sem] Oper.semAt_some

set_option maxRecDepth 100000 in
theorem untold_ (lp : Nat) (sv : Value) (o : HOpr) (w : World) (hs : ∃ A n c, sv = .slice A n c) :
    Calls Tryz.prog 156 #[.pointer (some ⟨lp, 0, none⟩), .agg #[.int .i64 o.kind, .string o.ver.key, .int .i64 o.ver.frm, .int .i64 o.ver.nth, .bool o.dead, .string o.value, .string o.hi, sv, .int .u64 o.at_]] w fun e w' =>
      e = .returned (.func (.func 178) #[] #[.pointer (some ⟨w.heap.size, 0, none⟩), .pointer (some ⟨w.heap.size + 1, 0, none⟩)]) ∧
      w' = (w.alloc (.cells #[.pointer (some ⟨lp, 0, none⟩)] 78)).alloc (.cells #[.int .i64 o.kind, .string o.ver.key, .int .i64 o.ver.frm, .int .i64 o.ver.nth, .bool o.dead, .string o.value, .string o.hi, sv, .int .u64 o.at_] 59) := by
  obtain ⟨A, n, c, rfl⟩ := hs
  go_enter Tryz.func156, Tryz.ntmps156
  go_wp2
  go_ret
  exact ⟨rfl, rfl⟩

theorem abide_below {α : Type} {B : Nat} {J : α → World → Prop} (hJ : AbidesFrom B J) {s : α} {W W' : World} (h : J s W) (hb : Below W.heap.size W W') : J s W' :=
  hJ s W W' none h ⟨hb.os, hb.tape, hb.output, hb.size, fun i hi _ => hb.block i hi⟩ (fun r e => by cases e)
def untoldTo (o : HOpr) (ks : List ByteArray) (j : Nat) : List ByteArray := (ks.take j).filter fun k => (tellsAt o k).isNone && covers o k

set_option maxHeartbeats 2000000 in
set_option maxRecDepth 100000 in
theorem untold1_stops {w : World} {B lp lb ob n : Nat} {h : List HTx} (hl : Led w B lp h) (sv : Value) (o : HOpr) (hs : Rows w B 3 (Flat verC) sv o.seen) {ty1 ty2 : TypeId} (hlb : w.heap[lb]? = some (.cells #[.pointer (some ⟨lp, 0, none⟩)] ty1))
    (hob : w.heap[ob]? = some (.cells #[.int .i64 o.kind, .string o.ver.key, .int .i64 o.ver.frm, .int .i64 o.ver.nth, .bool o.dead, .string o.value, .string o.hi, sv, .int .u64 o.at_] ty2)) (hn : 4 ≤ n) :
    SeqStopsK Fence.wide n Tryz.prog 178 #[.pointer (some ⟨lb, 0, none⟩), .pointer (some ⟨ob, 0, none⟩)] (fun k : ByteArray => #[.string k]) (Below w.heap.size)
      (fun xs => xs = untoldTo o (keysOf h) (keysOf h).length) (fun pre => pre <+: untoldTo o (keysOf h) (keysOf h).length) ((keysOf h).length + 1) w := by
  intro l J Jx W hW hJ hJx hY h0
  have hn1 : 1 ≤ n := by omega
  refine callsIn_of_wp Tryz.func178 rfl trivial ?_
  simp only [Tryz.ntmps178, List.size_toArray, List.length_cons, List.length_nil, Nat.reduceAdd, Nat.reduceSub, Array.replicate_succ, Array.replicate_zero, List.push_toArray, List.append_toArray, List.nil_append, List.cons_append]
  have hle := hl.le
  have hlp := hl.lt
  obtain ⟨tv, wv, orb, kv, ty, h1, h2, h3, h4, h5⟩ := hl.ex
  obtain ⟨A, c, rfl, hnn, hm⟩ := h5.shape
  simp only [maxLen] at hm
  have hlbl := lt_of_heap hlb
  have hobl := lt_of_heap hob
  have g1 := (heap_cell ((hW.block _ hlbl).trans hlb)).1
  have g2 := (cells_of ((hW.block lp (by omega)).trans h1)).1 3
  have hWs := hW.size
  gi_wp2
  gi_loopw [5, 6, 7, 13] (fun _ _ _ i' wr => ∃ j : Nat, j ≤ (keysOf h).length ∧ i' = .int .i64 j ∧ J (untoldTo o (keysOf h) j) wr ∧ Below w.heap.size W wr) (fun _ _ _ i' _ => (keysOf h).length - (intOf i').toNat)
  case atStart => exact ⟨0, by omega, rfl, h0, Below.refl _ _⟩
  case round =>
    obtain ⟨j, hj, rfl, hJr, hB⟩ := hrel
    have hBw : Below w.heap.size w wr := hW.trans hB
    have hsz := hBw.size
    by_cases hlt2 : j < (keysOf h).length
    · obtain ⟨k, hk⟩ : ∃ k, (keysOf h)[j]? = some k := ⟨_, List.getElem?_eq_getElem hlt2⟩
      obtain ⟨b2, o2, c2, he, hb2, p0⟩ := h5.get1 hk (wr := wr) (keep_of hBw hle) rfl
      cases he
      have hb2r : b2 < wr.heap.size := by omega
      have hobr := (hBw.block _ hobl).trans hob
      have hlbr : lb < wr.heap.size := by omega
      have hobrl : ob < wr.heap.size := by omega
      obtain ⟨q, qf⟩ := cells_of (cs := [.int .i64 o.kind, .string o.ver.key, .int .i64 o.ver.frm, .int .i64 o.ver.nth, .bool o.dead, .string o.value, .string o.hi, sv, .int .u64 o.at_]) hobr
      obtain ⟨sA, sc, rfl, hsn, hsm⟩ := hs.shape
      have q0 := q 0
      have q1 := q 1
      have q2 := q 2
      have q3 := q 3
      have q4 := q 4
      have q5 := q 5
      have q6 := q 6
      have q7 := q 7
      have q8 := q 8
      clear q qf
      have hsr := hs.to (B' := wr.heap.size) hBw (by omega) (by omega)
      have hstep : untoldTo o (keysOf h) (j + 1) = untoldTo o (keysOf h) j ++ if (tellsAt o k).isNone && covers o k then [k] else [] := by
        unfold untoldTo
        rw [List.take_add_one, hk, List.filter_append]
        simp only [Option.toList_some, List.filter_cons, List.filter_nil]
      have HS := Lib.hid hstep; clear hstep
      have HK := Lib.hid hk; clear hk
      gi_wp2_with fail
      refine (callsIn_wide.2 (tells_ _ o k _ hsr)).mono ?_
      rintro e w1 ⟨rfl, hB1⟩
      have hz1 := hB1.size
      obtain ⟨TV, hTV⟩ : ∃ TV, TV = (tellsAt o k).getD ver0 := ⟨_, rfl⟩
      rw [← hTV]
      simp only [verC]
      have hobl1 : ob < w1.heap.size := by omega
      have hJ1 : J (untoldTo o (keysOf h) j) (w1.alloc (.cells #[.string TV.key, .int .i64 TV.frm, .int .i64 TV.nth] 56)) := abide_below hJ hJr (hB1.alloc (by omega) _)
      have hob1 := (hB1.block _ hobrl).trans hobr
      obtain ⟨q, qf⟩ := cells_of (cs := [.int .i64 o.kind, .string o.ver.key, .int .i64 o.ver.frm, .int .i64 o.ver.nth, .bool o.dead, .string o.value, .string o.hi, .slice sA o.seen.length sc, .int .u64 o.at_]) hob1
      have r0 := q 0
      have r1 := q 1
      have r2 := q 2
      have r3 := q 3
      have r4 := q 4
      have r5 := q 5
      have r6 := q 6
      have r7 := q 7
      have r8 := q 8
      clear q qf hTV q0 q1 q2 q3 q4 q5 q6 q7 q8
      have hBa : Below w.heap.size W (w1.alloc (.cells #[.string TV.key, .int .i64 TV.frm, .int .i64 TV.nth] 56)) := (hB.trans (hB1.mono (by omega))).alloc (by omega) _
      cases hT : (tellsAt o k).isSome
      · have hT' : (tellsAt o k).isNone = true := by cases hh : tellsAt o k <;> simp [hh] at hT ⊢
        cases hC : covers o k
        · have HS2 : Hid (untoldTo o (keysOf h) (j + 1) = untoldTo o (keysOf h) j) := Lib.hid (by rw [HS.out, hC]; simp)
          gi_wp2_with (gi_at_call 48; refine (callsIn_wide.2 (covers_ _ o k _)).mono ?_; rw [hC]; rintro e w2 ⟨rfl, rfl⟩)
          go_roundw
          case rel => exact ⟨j + 1, by omega, by simp, by rw [HS2.out]; exact abide_below hJ hJ1 (bel1 _ _), hBa.alloc (by simp; omega) _⟩
          case measure => simp [intOf]; omega
        · have HS2 : Hid (untoldTo o (keysOf h) (j + 1) = untoldTo o (keysOf h) j ++ [k]) := Lib.hid (by rw [HS.out, hC, hT']; simp)
          have hlen : (untoldTo o (keysOf h) j).length < (keysOf h).length + 1 := by
            unfold untoldTo
            have := List.length_filter_le (fun k => (tellsAt o k).isNone && covers o k) ((keysOf h).take j)
            rw [List.length_take] at this
            omega
          have hJ2 := abide_below hJ hJ1 (bel1 (w1.alloc (.cells #[.string TV.key, .int .i64 TV.frm, .int .i64 TV.nth] 56)) (.cells (opC (.slice sA o.seen.length sc) o).toArray 59))
          obtain ⟨fn, tmps, assign, body, hy, hR⟩ := hY (untoldTo o (keysOf h) j) k _ hJ2 hlen
          have hBb : Below w.heap.size W ((w1.alloc (.cells #[.string TV.key, .int .i64 TV.frm, .int .i64 TV.nth] 56)).alloc (.cells (opC (.slice sA o.seen.length sc) o).toArray 59)) := hBa.alloc (by simp; omega) _
          simp only [opC] at hy hR hBb
          gi_wp2_with (gi_at_call 48; refine (callsIn_wide.2 (covers_ _ o k _)).mono ?_; rw [hC]; rintro e w2 ⟨rfl, rfl⟩; simp only [opC])
          refine hR.mono ?_
          rintro e W3 (⟨rfl, hJ3, hk3⟩ | ⟨rfl, hJx3⟩)
          · gi_wp2
            go_roundw
            case rel => exact ⟨j + 1, by omega, by simp, by rw [HS2.out]; exact hJ3, hBb.trans hk3⟩
            case measure => simp [intOf]; omega
          · gi_wp2
            refine bodyPost_ret (results_none rfl _ _ _) rfl ?_
            refine ⟨⟨_, rfl⟩, .inr ⟨_, ?_, hJx3⟩⟩
            rw [← HS2.out]
            unfold untoldTo
            rw [List.take_length]
            exact (List.take_prefix _ _).filter _
      · have HS2 : Hid (untoldTo o (keysOf h) (j + 1) = untoldTo o (keysOf h) j) := Lib.hid (by rw [HS.out]; cases hh : tellsAt o k <;> simp [hh] at hT ⊢)
        gi_wp2
        go_roundw
        case rel => exact ⟨j + 1, by omega, by simp, by rw [HS2.out]; exact hJ1, hBa⟩
        case measure => simp [intOf]; omega
    · obtain rfl : j = (keysOf h).length := by omega
      gi_wp2
      go_end0
      exact ⟨⟨_, rfl⟩, .inl ⟨_, rfl, hJr⟩⟩
end Go.Proofs.YtooigfkjdemnlaaGreatDoor

namespace Go.Proofs.YtooigfkjdemnlaaGreatDoor
open Go.RowKit Xw Go.Shelf
attribute [local go_sem] Oper.semAt_some

theorem chosenUpto_le (t : Nat) (a : Int) (l : List Inst) : ∀ j, chosenUpto t a l j ≤ j
  | 0 => Nat.le_refl _
  | j + 1 => by
    have := chosenUpto_le t a l j
    simp only [chosenUpto]
    split
    · split <;> omega
    · omega
def CompIx (h : List HTx) (t : Nat) (x : HTx) (i : Nat) (o : HOpr) (w : World) (c : Code) (pre : List ByteArray) (W : World) : Prop :=
  c = .ret ∧ (∃ k ∈ pre, okKey h t x i o k = false) ∧ W.heap[w.heap.size + 4]? = some (.cells #[.bool false] 4) ∧ Below w.heap.size w W
set_option maxHeartbeats 4000000 in
set_option maxRecDepth 100000 in
theorem complete_ {w : World} {B lp : Nat} {h : List HTx} (hl : Led w B lp h) (t : Nat) (x : HTx) (hx : h[t]? = some x) (i : Nat) (sv : Value) (o : HOpr) (hs : Rows w B 3 (Flat verC) sv o.seen) :
    Calls Tryz.prog 116 #[.pointer (some ⟨lp, 0, none⟩), .int .i64 t, .int .i64 i, .agg #[.int .i64 o.kind, .string o.ver.key, .int .i64 o.ver.frm, .int .i64 o.ver.nth, .bool o.dead, .string o.value, .string o.hi, sv, .int .u64 o.at_]] w fun e w' =>
      e = .returned (.bool (complete h t x i o)) ∧ Below w.heap.size w w' := by
  have hle := hl.le
  have hlp := hl.lt
  obtain ⟨sA, sc, rfl, hsn, hsm⟩ := hs.shape
  obtain ⟨OS, hOS⟩ : ∃ OS : List Obj, OS = [.cells #[.pointer (some ⟨lp, 0, none⟩)] 78, .cells #[.int .i64 t] 3, .cells #[.int .i64 i] 3, .cells #[.int .i64 o.kind, .string o.ver.key, .int .i64 o.ver.frm, .int .i64 o.ver.nth, .bool o.dead, .string o.value, .string o.hi, .slice sA o.seen.length sc, .int .u64 o.at_] 59,
    .cells #[.bool false] 4, .cells #[.pointer (some ⟨lp, 0, none⟩)] 78, .cells #[.int .i64 o.kind, .string o.ver.key, .int .i64 o.ver.frm, .int .i64 o.ver.nth, .bool o.dead, .string o.value, .string o.hi, .slice sA o.seen.length sc, .int .u64 o.at_] 59] := ⟨_, rfl⟩
  obtain ⟨W1, hW1⟩ : ∃ W1, W1 = allocL w OS := ⟨_, rfl⟩
  have hz1 : W1.heap.size = w.heap.size + 7 := by rw [hW1, allocL_size, hOS]; rfl
  have hB1 : Below w.heap.size w W1 := by rw [hW1]; exact allocL_below _ _ _ (Nat.le_refl _)
  have hget : ∀ j o, OS[j]? = some o → W1.heap[w.heap.size + j]? = some o := by rw [hW1]; exact allocL_get _ w
  have x0 := hget 0 _ (by rw [hOS]; rfl)
  have x1 := hget 1 _ (by rw [hOS]; rfl)
  have x2 := hget 2 _ (by rw [hOS]; rfl)
  have x3 := hget 3 _ (by rw [hOS]; rfl)
  have x4 := hget 4 _ (by rw [hOS]; rfl)
  have x5 := hget 5 _ (by rw [hOS]; rfl)
  have x6 := hget 6 _ (by rw [hOS]; rfl)
  rw [hOS] at hW1
  simp only [allocL] at hW1
  have HW := Lib.hid hW1; clear hW1 hget hOS
  refine (callsIn_wide (n := 9)).1 ?_
  refine callsIn_of_wp_marks Tryz.func116 rfl trivial ?_ rfl
  simp only [Tryz.ntmps116, List.size_toArray, List.length_cons, List.length_nil, Nat.reduceAdd, Nat.reduceSub, Array.replicate_succ, Array.replicate_zero, List.push_toArray, List.append_toArray, List.nil_append, List.cons_append]
  gi_wp2_with (gi_at_call 156; refine (callsIn_wide.2 (untold_ lp _ o _ ⟨_, _, _, rfl⟩)).mono ?_; rintro e w1 ⟨rfl, rfl⟩)
  rw [← HW.out]
  have hl1 := hl.below hB1 hle
  have hst := untold1_stops (n := 9 - 1) hl1 (.slice sA o.seen.length sc) o (hs.to hB1 hle (Nat.le_refl _)) x5 x6 (by omega)
  refine wp_range_fn (by omega) (by simp) (by rfl) (enters_of Tryz.func178 (by kernel_rfl) rfl) hst (fun pre => ∀ k ∈ pre, okKey h t x i o k = true) (CompIx h t x i o w) ?_ (by simp) ?body ?done ?stop
  · intro c pre W W' row hx hg hr
    obtain ⟨e1, e2, e3, e4⟩ := hx
    exact ⟨e1, e2, (hg.block _ (lt_of_heap e3) (fun e => by obtain ⟨_, o', h1, h2⟩ := hr _ e.symm; rw [e3] at h1; cases h1; cases h2)).trans e3, e4.trans ((Below.refl _ W).grown hg e4.size (fun k e => by have := (hr k e).1; omega))⟩
  case body =>
    intro l pre k W hpre hBW hlen
    have hsz := hBW.size
    have hBw : Below w.heap.size w W := hB1.trans (hBW.mono (by omega))
    have hlW : Led W B lp h := hl1.below hBW (by omega)
    have c0 := (heap_cell ((hBW.block _ (by omega)).trans x0)).1
    have c1 := (heap_cell ((hBW.block _ (by omega)).trans x1)).1
    have c2 := (heap_cell ((hBW.block _ (by omega)).trans x2)).1
    have c3 := (cells_of (cs := [.int .i64 o.kind, .string o.ver.key, .int .i64 o.ver.frm, .int .i64 o.ver.nth, .bool o.dead, .string o.value, .string o.hi, .slice sA o.seen.length sc, .int .u64 o.at_]) ((hBW.block _ (by omega)).trans x3)).1 8
    have c4 := heap_cell ((hBW.block _ (by omega)).trans x4)
    rw [Nat.add_zero] at c0
    have z0 : w.heap.size < W.heap.size := by omega
    have z1 : w.heap.size + 1 < W.heap.size := by omega
    have z2 : w.heap.size + 2 < W.heap.size := by omega
    have z3 : w.heap.size + 3 < W.heap.size := by omega
    have z4 : w.heap.size + 4 < W.heap.size := by omega
    gi_wp2_with fail
    refine (CallsIn.inRound l (callsIn_wide.2 (ahead_ hlW t x hx k i))).mono ?_
    rintro e w1 ⟨rfl, hA1⟩
    have hA1s := hA1.size
    have hBW1 : Below W1.heap.size W1 w1 := hBW.trans (hA1.mono (by omega))
    have hl2 := hlW.below hA1 (by omega)
    obtain ⟨d4, d4f⟩ := heap_cell ((hBW1.block _ (by omega)).trans x4)
    have e4 := (hBW1.block (w.heap.size + 4) (by omega)).trans x4
    have d0 := (heap_cell ((hBW1.block _ (by omega)).trans x0)).1
    have d1 := (heap_cell ((hBW1.block _ (by omega)).trans x1)).1
    have d3 := (cells_of (cs := [.int .i64 o.kind, .string o.ver.key, .int .i64 o.ver.frm, .int .i64 o.ver.nth, .bool o.dead, .string o.value, .string o.hi, .slice sA o.seen.length sc, .int .u64 o.at_]) ((hBW1.block _ (by omega)).trans x3)).1 8
    rw [Nat.add_zero] at d0
    have y0 : w.heap.size < w1.heap.size := by omega
    have y1 : w.heap.size + 1 < w1.heap.size := by omega
    have y3 : w.heap.size + 3 < w1.heap.size := by omega
    have y4 : w.heap.size + 4 < w1.heap.size := by omega
    clear c0 c1 c2 c3 c4
    obtain ⟨r, hr⟩ : ∃ r, r = okKey h t x i o k := ⟨_, rfl⟩
    unfold okKey at hr
    cases hlast : (aheadL x k i).getLast? with
    | some u =>
      rw [hlast] at hr
      dsimp only at hr
      have hpos : 0 < (aheadL x k i).length := by
        rcases Nat.eq_zero_or_pos (aheadL x k i).length with h0 | h0
        · rw [List.eq_nil_of_length_eq_zero h0] at hlast; simp at hlast
        · exact h0
      have hgl : (aheadL x k i).getLastD wrote0 = u := by rw [List.getLastD_eq_getLast?, hlast]; rfl
      rw [hgl]
      simp only [wroteC]
      obtain ⟨N, hN⟩ : ∃ N, N = (aheadL x k i).length := ⟨_, rfl⟩
      rw [← hN] at hpos ⊢
      have hposi : (0 : Int) < N := by omega
      have HL := Lib.hid hlast; clear hlast hgl hN
      cases hd : u.dead
      · rw [hd] at hr
        have HR : Hid (okKey h t x i o k = false) := Lib.hid (by unfold okKey; rw [HL.out]; exact hd)
        clear hr
        gi_wp2
        exact ⟨((keepsFrom_below hA1).trans ((KeepsOthers.setCell _ _ _).from _)).trans (keepsFrom_below (bel1 _ _)), rfl, ⟨k, by simp, HR.out⟩, (heap_alloc_lt (by simp; omega)).trans (heap_setCell_same e4),
          ((hBw.trans (hA1.mono (by omega))).setCell (p := ⟨w.heap.size + 4, 0, none⟩) (by simp) _).alloc (by simp; omega) _⟩
      · rw [hd] at hr
        have HR : Hid (okKey h t x i o k = true) := Lib.hid (by unfold okKey; rw [HL.out]; exact hd)
        clear hr
        gi_wp2
        refine ⟨hA1.alloc (by omega) _, ?_⟩
        intro k' hk'
        rcases List.mem_append.1 hk' with h1 | h1
        · exact hpre k' h1
        · simp at h1; subst h1; exact HR.out
    | none =>
      rw [hlast] at hr
      dsimp only at hr
      have hnil : aheadL x k i = [] := by
        cases hA : aheadL x k i with
        | nil => rfl
        | cons a l => rw [hA] at hlast; simp at hlast
      have HL := Lib.hid hlast; clear hlast
      rw [hnil]
      simp only [List.length_nil, List.getLastD_nil, wroteC, wrote0]
      have hl3 := hl2.below (bel1 w1 (.cells #[.int .i64 (0 : Nat), .bool false, .string ⟨#[]⟩] 129)) (by omega)
      have HN := Lib.hid hnil; clear hnil
      simp only [Int.natCast_zero] at hl3
      obtain ⟨wA, hwA⟩ : ∃ wA, wA = w1.alloc (.cells #[.int .i64 0, .bool false, .string ⟨#[]⟩] 129) := ⟨_, rfl⟩
      gi_wp2_with fail
      rw [← hwA] at hl3 ⊢
      refine (CallsIn.inRound l (callsIn_wide.2 (chosen_ hl3 t k o.at_))).mono ?_
      rintro e w2 ⟨rfl, hC⟩
      have hzA : wA.heap.size = w1.heap.size + 1 := by rw [hwA]; simp
      have hAA : Below w1.heap.size w1 wA := by rw [hwA]; exact bel1 _ _
      have hC1 : Below w1.heap.size w1 w2 := hAA.trans (hC.mono (by omega))
      have hCs := hC.size
      have hBW2 : Below W1.heap.size W1 w2 := hBW1.trans (hC1.mono (by omega))
      have hAll : Below W.heap.size W w2 := hA1.trans (hC1.mono (by omega))
      have e5 := (hC1.block (w.heap.size + 4) (by omega)).trans e4
      obtain ⟨f4, f4f⟩ := heap_cell e5
      have f0 := (heap_cell ((hBW2.block _ (by omega)).trans x0)).1
      rw [Nat.add_zero] at f0
      have v0 : w.heap.size < w2.heap.size := by omega
      have v4 : w.heap.size + 4 < w2.heap.size := by omega
      have hl4 := hl3.below hC (by omega)
      have HwA := Lib.hid hwA; clear hwA
      clear d0 d1 d3 d4 d4f
      have hch := chosenUpto_le t o.at_ (order h k) (order h k).length
      change chosen h t k o.at_ ≤ _ at hch
      generalize hcc : chosen h t k o.at_ = cc at hr hch ⊢
      cases cc with
      | zero =>
        have HR : Hid (okKey h t x i o k = true) := Lib.hid (by unfold okKey; rw [HL.out]; dsimp only; rw [hcc])
        clear hr hcc
        gi_wp2
        refine ⟨hAll, ?_⟩
        intro k' hk'
        rcases List.mem_append.1 hk' with h1 | h1
        · exact hpre k' h1
        · simp at h1; subst h1; exact HR.out
      | succ m =>
        obtain ⟨v, hv⟩ : ∃ v, (order h k)[m]? = some v := ⟨_, List.getElem?_eq_getElem (by omega)⟩
        obtain ⟨tv, wv, ob, kv, ty, h1, h2, h3, h4, h5⟩ := hl4.ex
        have hob := h4.1
        have g2 := (cells_of h1).1 2
        obtain ⟨LO, hLO, hlk⟩ := h4.look
        have hrw := hlk k
        obtain ⟨A, cp, hsh, hn, hm⟩ := hrw.shape
        have HU := Lib.hid hsh.symm
        rw [hsh] at hrw
        clear hsh
        obtain ⟨b2, o2, c2', he, hb2, p0, p1, p2⟩ := hrw.get3 hv (wr := w2) (fun _ _ => rfl) rfl
        cases he
        simp only [maxLen] at hm
        have hb2w : b2 < w2.heap.size := by omega
        have hlp2 : lp < w2.heap.size := by omega
        have hml : (m : Int) < (order h k).length := by omega
        have hok : okKey h t x i o k = v.dead := by unfold okKey; rw [HL.out]; dsimp only; rw [hcc]; dsimp only; rw [hv]
        have HV := Lib.hid hv; clear hv
        clear h1 h2 h3 h4 h5 hlk hr hcc
        cases hd : v.dead
        · rw [hd] at hok p2
          have HR := Lib.hid hok; clear hok
          clear hd
          gi_wp2_with (gi_at_lookup; go_loud (refine wpListIn_lookup_k kString _ _ _ 123 rfl rfl Tryz.underlying81 (.slice none 0 0) zero_slice_inst ob k rfl rfl hLO ?_; rw [← HU.out]))
          exact ⟨((keepsFrom_below hAll)).trans ((KeepsOthers.setCell _ _ _).from _), rfl, ⟨k, by simp, HR.out⟩, heap_setCell_same e5, ((hBw.trans (hAll.mono (by omega))).setCell (p := ⟨w.heap.size + 4, 0, none⟩) (by simp) _)⟩
        · rw [hd] at hok p2
          have HR := Lib.hid hok; clear hok
          clear hd
          gi_wp2_with (gi_at_lookup; go_loud (refine wpListIn_lookup_k kString _ _ _ 123 rfl rfl Tryz.underlying81 (.slice none 0 0) zero_slice_inst ob k rfl rfl hLO ?_; rw [← HU.out]))
          refine ⟨hAll, ?_⟩
          intro k' hk'
          rcases List.mem_append.1 hk' with h1 | h1
          · exact hpre k' h1
          · simp at h1; subst h1; exact HR.out
  case done =>
    intro D xs W hD hS hpre hBW hK
    subst hS
    have hsz := hBW.size
    have hBw : Below w.heap.size w W := hB1.trans (hBW.mono (by omega))
    have hcomp : complete h t x i o = true := by
      unfold complete
      rw [List.all_eq_true]
      intro k hk
      apply hpre
      unfold untoldTo
      rw [List.take_length]
      exact hk
    have HC := Lib.hid hcomp; clear hcomp
    obtain ⟨c4, c4f⟩ := heap_cell ((hBW.block _ (by omega)).trans x4)
    have e4 := (hBW.block (w.heap.size + 4) (by omega)).trans x4
    have z4 : w.heap.size + 4 < W.heap.size := by omega
    gi_wp2
    have hK' := (KeepsOthers.setCell W ⟨w.heap.size + 4, 0, none⟩ (.bool true)).same D _ hK rfl
    refine ⟨by simp, .inl ⟨_, _, rfl, run_takeDeferred hK', ?_⟩⟩
    have hDl : W.heap.size > D := lt_of_heap hK
    have hh : ((W.setCell ⟨w.heap.size + 4, 0, none⟩ (.bool true)).putObj D (.deferred none)).heap[w.heap.size + 4]? = some (.cells #[.bool true] 4) :=
      (World.putObj_heap_other (by omega)).trans (heap_setCell_same e4)
    have hc5 := (heap_cell hh).1
    refine ⟨.bool true, ?_, by rw [HC.out], (hBw.setCell (p := ⟨w.heap.size + 4, 0, none⟩) (by simp) _).trans (belowK_b (w := w) (Nat.le_refl _) _ D _ _ (by omega) hK' rfl rfl)⟩
    simp [results, Tryz.f116, go_sem, hc5]
  case stop =>
    rintro D c pre W hD hS ⟨rfl, ⟨k, hk, hbad⟩, hc4, hBw⟩ hK
    have hcomp : complete h t x i o = false := by
      unfold complete
      rw [List.all_eq_false]
      refine ⟨k, ?_, by rw [hbad]; simp⟩
      have := hS.subset hk
      unfold untoldTo at this
      rwa [List.take_length] at this
    have HC := Lib.hid hcomp; clear hcomp
    gi_wp2
    refine ⟨by simp, .inl ⟨_, _, rfl, run_takeDeferred hK, ?_⟩⟩
    have hDl : W.heap.size > D := lt_of_heap hK
    have hh : (W.putObj D (.deferred none)).heap[w.heap.size + 4]? = some (.cells #[.bool false] 4) := (World.putObj_heap_other (by omega)).trans hc4
    have hc5 := (heap_cell hh).1
    refine ⟨.bool false, ?_, by rw [HC.out], hBw.trans (belowK_b (w := w) (Nat.le_refl _) _ D _ _ (by omega) hK rfl rfl)⟩
    simp [results, Tryz.f116, go_sem, hc5]
end Go.Proofs.YtooigfkjdemnlaaGreatDoor
