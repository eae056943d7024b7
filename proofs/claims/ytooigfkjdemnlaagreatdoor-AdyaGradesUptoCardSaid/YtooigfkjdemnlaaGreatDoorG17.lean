/- Own texts of this claim, joined in build order: T1, T2. -/
import Derived.Test.YtooigfkjdemnlaaGreatDoorG13
import Derived.Test.YtooigfkjdemnlaaGreatDoorG14
import Derived.Test.YtooigfkjdemnlaaGreatDoorG16
set_option linter.all false
namespace Go.Proofs.YtooigfkjdemnlaaGreatDoor
set_option maxRecDepth 100000
open Go.RowKit Xw Go.Shelf
attribute [local go_sem] Oper.semAt_some

theorem turns_ (sv : Value) (fm st : Int) (w : World) (hs : ∃ A n c, sv = .slice A n c) :
    Calls Tryz.prog 97 #[sv, .int .i64 fm, .int .i64 st] w fun e w' =>
      e = .returned (.func (.func 123) #[] #[.pointer (some ⟨w.heap.size + 1, 0, none⟩), .pointer (some ⟨w.heap.size, 0, none⟩), .pointer (some ⟨w.heap.size + 2, 0, none⟩)]) ∧
      w' = ((w.alloc (.cells #[sv] 123)).alloc (.cells #[.int .i64 fm] 3)).alloc (.cells #[.int .i64 st] 3) := by
  obtain ⟨A, n, c, rfl⟩ := hs
  go_enter Tryz.func97, Tryz.ntmps97
  go_wp2
  go_ret
  exact ⟨rfl, rfl⟩
def downL (o : List Inst) : Nat → List Nat
  | 0 => []
  | k + 1 => if turnAt o k = true then k :: downL o k else downL o k
def upL (o : List Inst) (n : Nat) : Nat → List Nat
  | 0 => []
  | m + 1 => if turnAt o n = true then n :: upL o (n + 1) m else upL o (n + 1) m
theorem downL_head (o : List Inst) : ∀ n, (downL o n).head? = downTurn o n
  | 0 => rfl
  | k + 1 => by
    unfold downL downTurn
    split
    · rfl
    · exact downL_head o k
theorem upL_head (o : List Inst) : ∀ m n, (upL o n m).head? = upTurn o n m
  | 0, n => rfl
  | m + 1, n => by
    unfold upL upTurn
    split
    · rfl
    · exact upL_head o m (n + 1)
end Go.Proofs.YtooigfkjdemnlaaGreatDoor

namespace Go.Proofs.YtooigfkjdemnlaaGreatDoor
set_option maxRecDepth 100000
open Go.RowKit Xw Go.Shelf
attribute [local go_sem] Oper.semAt_some
theorem turn_cells {w W : World} {sv : Value} {o : List Inst} {k : Nat} (hr : Rows w w.heap.size 3 (Flat instC) sv o) (hW : Below w.heap.size w W) (hk : k < o.length) :
    ∃ b off c x, sv = .slice (some ⟨b, off, none⟩) o.length c ∧ b < W.heap.size ∧ W.cell? ⟨b, off + k * 3 + 2, none⟩ = some (.bool x) ∧
      ((k = 0 ∧ turnAt o k = (x != true)) ∨ ∃ j u, k = j + 1 ∧ W.cell? ⟨b, off + j * 3 + 2, none⟩ = some (.bool u) ∧ turnAt o k = (x != u)) := by
  obtain ⟨x, hx⟩ : ∃ x, o[k]? = some x := ⟨_, List.getElem?_eq_getElem hk⟩
  obtain ⟨b, off, c, hv, hb, z0, z1, z2⟩ := hr.get3 hx (wr := W) (keep_of hW (Nat.le_refl _)) rfl
  refine ⟨b, off, c, x.dead, hv, Nat.lt_of_lt_of_le hb hW.size, z2, ?_⟩
  cases k with
  | zero => exact .inl ⟨rfl, by unfold turnAt; rw [hx]⟩
  | succ j =>
    obtain ⟨u, hu⟩ : ∃ u, o[j]? = some u := ⟨_, List.getElem?_eq_getElem (by omega)⟩
    obtain ⟨b', off', c', hv', hb', y0, y1, y2⟩ := hr.get3 hu (wr := W) (keep_of hW (Nat.le_refl _)) rfl
    rw [hv] at hv'
    cases hv'
    exact .inr ⟨j, u.dead, rfl, y2, by unfold turnAt; rw [hx]; dsimp only; rw [hu]⟩
theorem downL_len (o : List Inst) : ∀ n, (downL o n).length ≤ n
  | 0 => Nat.le_refl _
  | k + 1 => by
    have := downL_len o k
    unfold downL
    split
    · simp only [List.length_cons]; omega
    · omega
theorem upL_len (o : List Inst) : ∀ m n, (upL o n m).length ≤ m
  | 0, n => Nat.le_refl _
  | m + 1, n => by
    have := upL_len o m (n + 1)
    unfold upL
    split
    · simp only [List.length_cons]; omega
    · omega

set_option maxHeartbeats 4000000 in
theorem turnsDown_stops {w : World} {fb ob sb n n0 : Nat} {o : List Inst} {sv : Value} {ty1 ty2 ty3 : TypeId} (hr : Rows w w.heap.size 3 (Flat instC) sv o) (hfb : w.heap[fb]? = some (.cells #[.int .i64 ((n0 : Int) - 1)] ty1)) (hob : w.heap[ob]? = some (.cells #[sv] ty2)) (hsb : w.heap[sb]? = some (.cells #[.int .i64 (-1)] ty3))
    (hn0 : n0 ≤ o.length) (hlen : o.length ≤ 256) (hn : 4 ≤ n) :
    SeqStopsK Fence.wide n Tryz.prog 123 #[.pointer (some ⟨fb, 0, none⟩), .pointer (some ⟨ob, 0, none⟩), .pointer (some ⟨sb, 0, none⟩)] (fun k : Fin o.length => #[.int .i64 (k.1 : Nat)]) (Below w.heap.size)
      (fun xs => xs.map (·.1) = downL o n0) (fun pre => pre.map (·.1) <+: downL o n0) (o.length + 1) w := by
  intro l J Jx W hW hJ hJx hY h0
  have hn1 : 1 ≤ n := by omega
  refine callsIn_of_wp Tryz.func123 rfl trivial ?_
  simp only [Tryz.ntmps123, List.size_toArray, List.length_cons, List.length_nil, Nat.reduceAdd, Nat.reduceSub, Array.replicate_succ, Array.replicate_zero, List.push_toArray, List.append_toArray, List.nil_append, List.cons_append]
  have g1 := (heap_cell ((hW.block _ (lt_of_heap hfb)).trans hfb)).1
  obtain ⟨A, c, rfl, hc1, hc2⟩ := hr.shape
  simp only [maxLen] at hc2
  gi_wp2
  gi_loopw [5, 6] (fun i' _ wr => (∃ (n1 : Nat) (pre : List (Fin o.length)), n1 ≤ n0 ∧ i' = .int .i64 ((n1 : Int) - 1) ∧ pre.map (·.1) ++ downL o n1 = downL o n0 ∧ J pre wr) ∧ Below w.heap.size W wr) (fun i' _ _ => (intOf i' + 1).toNat)
  case atStart => exact ⟨⟨n0, [], Nat.le_refl _, rfl, rfl, h0⟩, Below.refl _ _⟩
  case round =>
    obtain ⟨⟨n1, pre, hn1l, rfl, hpre, hJr⟩, hB⟩ := hrel
    have hBw : Below w.heap.size w wr := hW.trans hB
    have hz := hBw.size
    have hobl := lt_of_heap hob
    have hsbl := lt_of_heap hsb
    have hob1 : ob < wr.heap.size := by omega
    have hsb1 : sb < wr.heap.size := by omega
    have g2 := (heap_cell ((hBw.block _ hobl).trans hob)).1
    have g3 := (heap_cell ((hBw.block _ hsbl).trans hsb)).1
    rcases Nat.eq_zero_or_pos n1 with hz0 | hz0
    · have hst := hpre
      subst hz0
      have hfin : pre.map (·.1) = downL o n0 := by rw [← hpre]; simp [downL]
      gi_wp2
      go_end0
      exact ⟨⟨_, rfl⟩, .inl ⟨_, hfin, hJr⟩⟩
    · obtain ⟨k, rfl⟩ : ∃ k, n1 = k + 1 := ⟨n1 - 1, by omega⟩
      have hk : k < o.length := by omega
      have hcast : ((k + 1 : Nat) : Int) - 1 = k := by omega
      rw [hcast]
      obtain ⟨b, off, c', x, hv, hb, zx, hcase⟩ := turn_cells hr hBw hk
      cases hv
      have hki : (k : Int) < o.length := by omega
      rcases hcase with ⟨hk0, hturn⟩ | ⟨j, u, hkj, zu, hturn⟩
      · have hk0b : ((k : Int) == 0) = true := by simp [hk0]
        clear hk0
        cases x
        · have HT : Hid (turnAt o k = true) := Lib.hid hturn
          clear hturn
          obtain ⟨fn, tmps, assign, body, hy, hR⟩ := hY pre ⟨k, hk⟩ wr hJr (by have := congrArg List.length hpre; rw [List.length_append, List.length_map] at this; have := downL_len o n0; omega)
          gi_wp2
          refine hR.mono ?_
          rintro e W3 (⟨rfl, hJ3, hk3⟩ | ⟨rfl, hJx3⟩)
          · have hb3 := (hk3.block sb hsbl).trans ((hBw.block _ hsbl).trans hsb)
            have g4 := (heap_cell hb3).1
            gi_wp2
            go_roundw
            case rel => exact ⟨⟨k, pre ++ [⟨k, hk⟩], by omega, rfl, by rw [List.map_append, List.append_assoc, ← hpre]; congr 1; show k :: downL o k = downL o (k + 1); rw [downL, if_pos HT.out], hJ3⟩, hB.trans hk3⟩
            case measure => simp [intOf]; omega
          · gi_wp2
            refine bodyPost_ret (results_none rfl _ _ _) rfl ?_
            exact ⟨⟨_, rfl⟩, .inr ⟨_, by rw [← hpre, show downL o (k + 1) = k :: downL o k by rw [downL, if_pos HT.out]]; exact ⟨downL o k, by simp⟩, hJx3⟩⟩
        · have HT : Hid (turnAt o k = false) := Lib.hid hturn
          clear hturn
          gi_wp2
          go_roundw
          case rel => exact ⟨⟨k, pre, by omega, rfl, by rw [← hpre, show downL o (k + 1) = downL o k by rw [downL, if_neg (by rw [HT.out]; simp)]], hJr⟩, hB⟩
          case measure => simp [intOf]; omega
      · have hk0b : ((k : Int) == 0) = false := by simp; omega
        have hkw : IntKind.i64.wrap ((k : Int) - 1) = j := by rw [show (k : Int) - 1 = j by omega, IntKind.wrap_i64]; omega
        have hji : (j : Int) < o.length := by omega
        clear hkj
        cases x <;> cases u
        · have HT : Hid (turnAt o k = false) := Lib.hid hturn
          clear hturn
          gi_wp2
          go_roundw
          case rel => exact ⟨⟨k, pre, by omega, rfl, by rw [← hpre, show downL o (k + 1) = downL o k by rw [downL, if_neg (by rw [HT.out]; simp)]], hJr⟩, hB⟩
          case measure => simp [intOf]; omega
        · have HT : Hid (turnAt o k = true) := Lib.hid hturn
          clear hturn
          obtain ⟨fn, tmps, assign, body, hy, hR⟩ := hY pre ⟨k, hk⟩ wr hJr (by have := congrArg List.length hpre; rw [List.length_append, List.length_map] at this; have := downL_len o n0; omega)
          gi_wp2
          refine hR.mono ?_
          rintro e W3 (⟨rfl, hJ3, hk3⟩ | ⟨rfl, hJx3⟩)
          · have hb3 := (hk3.block sb hsbl).trans ((hBw.block _ hsbl).trans hsb)
            have g4 := (heap_cell hb3).1
            gi_wp2
            go_roundw
            case rel => exact ⟨⟨k, pre ++ [⟨k, hk⟩], by omega, rfl, by rw [List.map_append, List.append_assoc, ← hpre]; congr 1; show k :: downL o k = downL o (k + 1); rw [downL, if_pos HT.out], hJ3⟩, hB.trans hk3⟩
            case measure => simp [intOf]; omega
          · gi_wp2
            refine bodyPost_ret (results_none rfl _ _ _) rfl ?_
            exact ⟨⟨_, rfl⟩, .inr ⟨_, by rw [← hpre, show downL o (k + 1) = k :: downL o k by rw [downL, if_pos HT.out]]; exact ⟨downL o k, by simp⟩, hJx3⟩⟩
        · have HT : Hid (turnAt o k = true) := Lib.hid hturn
          clear hturn
          obtain ⟨fn, tmps, assign, body, hy, hR⟩ := hY pre ⟨k, hk⟩ wr hJr (by have := congrArg List.length hpre; rw [List.length_append, List.length_map] at this; have := downL_len o n0; omega)
          gi_wp2
          refine hR.mono ?_
          rintro e W3 (⟨rfl, hJ3, hk3⟩ | ⟨rfl, hJx3⟩)
          · have hb3 := (hk3.block sb hsbl).trans ((hBw.block _ hsbl).trans hsb)
            have g4 := (heap_cell hb3).1
            gi_wp2
            go_roundw
            case rel => exact ⟨⟨k, pre ++ [⟨k, hk⟩], by omega, rfl, by rw [List.map_append, List.append_assoc, ← hpre]; congr 1; show k :: downL o k = downL o (k + 1); rw [downL, if_pos HT.out], hJ3⟩, hB.trans hk3⟩
            case measure => simp [intOf]; omega
          · gi_wp2
            refine bodyPost_ret (results_none rfl _ _ _) rfl ?_
            exact ⟨⟨_, rfl⟩, .inr ⟨_, by rw [← hpre, show downL o (k + 1) = k :: downL o k by rw [downL, if_pos HT.out]]; exact ⟨downL o k, by simp⟩, hJx3⟩⟩
        · have HT : Hid (turnAt o k = false) := Lib.hid hturn
          clear hturn
          gi_wp2
          go_roundw
          case rel => exact ⟨⟨k, pre, by omega, rfl, by rw [← hpre, show downL o (k + 1) = downL o k by rw [downL, if_neg (by rw [HT.out]; simp)]], hJr⟩, hB⟩
          case measure => simp [intOf]; omega

set_option maxHeartbeats 4000000 in
theorem turnsUp_stops {w : World} {fb ob sb n n0 : Nat} {o : List Inst} {sv : Value} {ty1 ty2 ty3 : TypeId} (hr : Rows w w.heap.size 3 (Flat instC) sv o) (hfb : w.heap[fb]? = some (.cells #[.int .i64 n0] ty1)) (hob : w.heap[ob]? = some (.cells #[sv] ty2)) (hsb : w.heap[sb]? = some (.cells #[.int .i64 1] ty3))
    (hn0 : n0 ≤ o.length) (hlen : o.length ≤ 256) (hn : 4 ≤ n) :
    SeqStopsK Fence.wide n Tryz.prog 123 #[.pointer (some ⟨fb, 0, none⟩), .pointer (some ⟨ob, 0, none⟩), .pointer (some ⟨sb, 0, none⟩)] (fun k : Fin o.length => #[.int .i64 (k.1 : Nat)]) (Below w.heap.size)
      (fun xs => xs.map (·.1) = upL o n0 (o.length - n0)) (fun pre => pre.map (·.1) <+: upL o n0 (o.length - n0)) (o.length + 1) w := by
  intro l J Jx W hW hJ hJx hY h0
  have hn1 : 1 ≤ n := by omega
  refine callsIn_of_wp Tryz.func123 rfl trivial ?_
  simp only [Tryz.ntmps123, List.size_toArray, List.length_cons, List.length_nil, Nat.reduceAdd, Nat.reduceSub, Array.replicate_succ, Array.replicate_zero, List.push_toArray, List.append_toArray, List.nil_append, List.cons_append]
  have g1 := (heap_cell ((hW.block _ (lt_of_heap hfb)).trans hfb)).1
  obtain ⟨A, c, rfl, hc1, hc2⟩ := hr.shape
  simp only [maxLen] at hc2
  gi_wp2
  gi_loopw [5, 6] (fun i' _ wr => (∃ (k m : Nat) (pre : List (Fin o.length)), k + m = o.length ∧ i' = .int .i64 k ∧ pre.map (·.1) ++ upL o k m = upL o n0 (o.length - n0) ∧ J pre wr) ∧ Below w.heap.size W wr) (fun i' _ _ => o.length - (intOf i').toNat)
  case atStart => exact ⟨⟨n0, o.length - n0, [], by omega, rfl, rfl, h0⟩, Below.refl _ _⟩
  case round =>
    obtain ⟨⟨k, m, pre, hkm, rfl, hpre, hJr⟩, hB⟩ := hrel
    have hBw : Below w.heap.size w wr := hW.trans hB
    have hz := hBw.size
    have hobl := lt_of_heap hob
    have hsbl := lt_of_heap hsb
    have hob1 : ob < wr.heap.size := by omega
    have hsb1 : sb < wr.heap.size := by omega
    have g2 := (heap_cell ((hBw.block _ hobl).trans hob)).1
    have g3 := (heap_cell ((hBw.block _ hsbl).trans hsb)).1
    rcases Nat.eq_zero_or_pos m with hz0 | hz0
    · have hst := hpre
      subst hz0
      have hfin : pre.map (·.1) = upL o n0 (o.length - n0) := by rw [← hpre]; simp [upL]
      obtain rfl : k = o.length := by omega
      gi_wp2
      go_end0
      exact ⟨⟨_, rfl⟩, .inl ⟨_, hfin, hJr⟩⟩
    · obtain ⟨m', rfl⟩ : ∃ m', m = m' + 1 := ⟨m - 1, by omega⟩
      have hk : k < o.length := by omega
      have hcw : IntKind.i64.wrap ((k : Int) + 1) = (k + 1 : Nat) := by rw [IntKind.wrap_i64]; omega
      obtain ⟨b, off, c', x, hv, hb, zx, hcase⟩ := turn_cells hr hBw hk
      cases hv
      have hki : (k : Int) < o.length := by omega
      rcases hcase with ⟨hk0, hturn⟩ | ⟨j, u, hkj, zu, hturn⟩
      · have hk0b : ((k : Int) == 0) = true := by simp [hk0]
        clear hk0
        cases x
        · have HT : Hid (turnAt o k = true) := Lib.hid hturn
          clear hturn
          obtain ⟨fn, tmps, assign, body, hy, hR⟩ := hY pre ⟨k, hk⟩ wr hJr (by have := congrArg List.length hpre; rw [List.length_append, List.length_map] at this; have := upL_len o (o.length - n0) n0; omega)
          gi_wp2
          refine hR.mono ?_
          rintro e W3 (⟨rfl, hJ3, hk3⟩ | ⟨rfl, hJx3⟩)
          · have hb3 := (hk3.block sb hsbl).trans ((hBw.block _ hsbl).trans hsb)
            have g4 := (heap_cell hb3).1
            gi_wp2
            go_roundw
            case rel => exact ⟨⟨k + 1, m', pre ++ [⟨k, hk⟩], by omega, by first | rfl | simp, by rw [List.map_append, List.append_assoc, ← hpre]; congr 1; show k :: upL o (k + 1) m' = upL o k (m' + 1); rw [upL, if_pos HT.out], hJ3⟩, hB.trans hk3⟩
            case measure => simp [intOf]; omega
          · gi_wp2
            refine bodyPost_ret (results_none rfl _ _ _) rfl ?_
            exact ⟨⟨_, rfl⟩, .inr ⟨_, by rw [← hpre, show upL o k (m' + 1) = k :: upL o (k + 1) m' by rw [upL, if_pos HT.out]]; exact ⟨upL o (k + 1) m', by simp⟩, hJx3⟩⟩
        · have HT : Hid (turnAt o k = false) := Lib.hid hturn
          clear hturn
          gi_wp2
          go_roundw
          case rel => exact ⟨⟨k + 1, m', pre, by omega, by first | rfl | simp, by rw [← hpre, show upL o k (m' + 1) = upL o (k + 1) m' by rw [upL, if_neg (by rw [HT.out]; simp)]], hJr⟩, hB⟩
          case measure => simp [intOf]; omega
      · have hk0b : ((k : Int) == 0) = false := by simp; omega
        have hkw : IntKind.i64.wrap ((k : Int) - 1) = j := by rw [show (k : Int) - 1 = j by omega, IntKind.wrap_i64]; omega
        have hji : (j : Int) < o.length := by omega
        clear hkj
        cases x <;> cases u
        · have HT : Hid (turnAt o k = false) := Lib.hid hturn
          clear hturn
          gi_wp2
          go_roundw
          case rel => exact ⟨⟨k + 1, m', pre, by omega, by first | rfl | simp, by rw [← hpre, show upL o k (m' + 1) = upL o (k + 1) m' by rw [upL, if_neg (by rw [HT.out]; simp)]], hJr⟩, hB⟩
          case measure => simp [intOf]; omega
        · have HT : Hid (turnAt o k = true) := Lib.hid hturn
          clear hturn
          obtain ⟨fn, tmps, assign, body, hy, hR⟩ := hY pre ⟨k, hk⟩ wr hJr (by have := congrArg List.length hpre; rw [List.length_append, List.length_map] at this; have := upL_len o (o.length - n0) n0; omega)
          gi_wp2
          refine hR.mono ?_
          rintro e W3 (⟨rfl, hJ3, hk3⟩ | ⟨rfl, hJx3⟩)
          · have hb3 := (hk3.block sb hsbl).trans ((hBw.block _ hsbl).trans hsb)
            have g4 := (heap_cell hb3).1
            gi_wp2
            go_roundw
            case rel => exact ⟨⟨k + 1, m', pre ++ [⟨k, hk⟩], by omega, by first | rfl | simp, by rw [List.map_append, List.append_assoc, ← hpre]; congr 1; show k :: upL o (k + 1) m' = upL o k (m' + 1); rw [upL, if_pos HT.out], hJ3⟩, hB.trans hk3⟩
            case measure => simp [intOf]; omega
          · gi_wp2
            refine bodyPost_ret (results_none rfl _ _ _) rfl ?_
            exact ⟨⟨_, rfl⟩, .inr ⟨_, by rw [← hpre, show upL o k (m' + 1) = k :: upL o (k + 1) m' by rw [upL, if_pos HT.out]]; exact ⟨upL o (k + 1) m', by simp⟩, hJx3⟩⟩
        · have HT : Hid (turnAt o k = true) := Lib.hid hturn
          clear hturn
          obtain ⟨fn, tmps, assign, body, hy, hR⟩ := hY pre ⟨k, hk⟩ wr hJr (by have := congrArg List.length hpre; rw [List.length_append, List.length_map] at this; have := upL_len o (o.length - n0) n0; omega)
          gi_wp2
          refine hR.mono ?_
          rintro e W3 (⟨rfl, hJ3, hk3⟩ | ⟨rfl, hJx3⟩)
          · have hb3 := (hk3.block sb hsbl).trans ((hBw.block _ hsbl).trans hsb)
            have g4 := (heap_cell hb3).1
            gi_wp2
            go_roundw
            case rel => exact ⟨⟨k + 1, m', pre ++ [⟨k, hk⟩], by omega, by first | rfl | simp, by rw [List.map_append, List.append_assoc, ← hpre]; congr 1; show k :: upL o (k + 1) m' = upL o k (m' + 1); rw [upL, if_pos HT.out], hJ3⟩, hB.trans hk3⟩
            case measure => simp [intOf]; omega
          · gi_wp2
            refine bodyPost_ret (results_none rfl _ _ _) rfl ?_
            exact ⟨⟨_, rfl⟩, .inr ⟨_, by rw [← hpre, show upL o k (m' + 1) = k :: upL o (k + 1) m' by rw [upL, if_pos HT.out]]; exact ⟨upL o (k + 1) m', by simp⟩, hJx3⟩⟩
        · have HT : Hid (turnAt o k = false) := Lib.hid hturn
          clear hturn
          gi_wp2
          go_roundw
          case rel => exact ⟨⟨k + 1, m', pre, by omega, by first | rfl | simp, by rw [← hpre, show upL o k (m' + 1) = upL o (k + 1) m' by rw [upL, if_neg (by rw [HT.out]; simp)]], hJr⟩, hB⟩
          case measure => simp [intOf]; omega
end Go.Proofs.YtooigfkjdemnlaaGreatDoor
