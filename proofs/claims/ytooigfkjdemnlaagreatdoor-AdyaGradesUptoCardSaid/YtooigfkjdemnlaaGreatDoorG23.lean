/- Own texts of this claim, joined in build order: W8, W9, W10. -/
import Derived.Test.YtooigfkjdemnlaaGreatDoorG16
import Derived.Test.YtooigfkjdemnlaaGreatDoorG06
import Derived.StillTailTactics
import Derived.Deep.QuietTactic
import Derived.BigQuiet
set_option linter.all false
namespace Go.Proofs.YtooigfkjdemnlaaGreatDoor
open Go.RowKit Xw

def opB (sv : Value) (o : HOpr) : Obj := .cells #[.int .i64 o.kind, .string o.ver.key, .int .i64 o.ver.frm, .int .i64 o.ver.nth, .bool o.dead, .string o.value, .string o.hi, sv, .int .u64 o.at_] 59
def txB (ov : Value) (x : HTx) : Obj := .cells #[.int .i64 x.iso, .int .i64 x.fate, .int .u64 x.bgn, .int .u64 x.fin, .int .i64 x.bi, .int .i64 x.bo, .int .i64 x.ei, .int .i64 x.eo, ov] 53

theorem op_cells {W : World} {g : Nat} {sv : Value} {o : HOpr} {ty : TypeId} (h : W.heap[g]? = some (.cells #[.int .i64 o.kind, .string o.ver.key, .int .i64 o.ver.frm, .int .i64 o.ver.nth, .bool o.dead, .string o.value, .string o.hi, sv, .int .u64 o.at_] ty)) :
    W.cell? ⟨g, 0, none⟩ = some (.int .i64 o.kind) ∧ W.cell? ⟨g, 1, none⟩ = some (.string o.ver.key) ∧ W.cell? ⟨g, 2, none⟩ = some (.int .i64 o.ver.frm) ∧ W.cell? ⟨g, 3, none⟩ = some (.int .i64 o.ver.nth) ∧ W.cell? ⟨g, 4, none⟩ = some (.bool o.dead) ∧
    W.cell? ⟨g, 5, none⟩ = some (.string o.value) ∧ W.cell? ⟨g, 6, none⟩ = some (.string o.hi) ∧ W.cell? ⟨g, 7, none⟩ = some sv ∧ W.cell? ⟨g, 8, none⟩ = some (.int .u64 o.at_) := by
  have q := (cells_of (cs := [.int .i64 o.kind, .string o.ver.key, .int .i64 o.ver.frm, .int .i64 o.ver.nth, .bool o.dead, .string o.value, .string o.hi, sv, .int .u64 o.at_]) h).1
  exact ⟨q 0, q 1, q 2, q 3, q 4, q 5, q 6, q 7, q 8⟩
theorem tx_cells {W : World} {g : Nat} {ov : Value} {x : HTx} {ty : TypeId} (h : W.heap[g]? = some (.cells #[.int .i64 x.iso, .int .i64 x.fate, .int .u64 x.bgn, .int .u64 x.fin, .int .i64 x.bi, .int .i64 x.bo, .int .i64 x.ei, .int .i64 x.eo, ov] ty)) :
    W.cell? ⟨g, 0, none⟩ = some (.int .i64 x.iso) ∧ W.cell? ⟨g, 1, none⟩ = some (.int .i64 x.fate) ∧ W.cell? ⟨g, 2, none⟩ = some (.int .u64 x.bgn) ∧ W.cell? ⟨g, 3, none⟩ = some (.int .u64 x.fin) ∧ W.cell? ⟨g, 4, none⟩ = some (.int .i64 x.bi) ∧
    W.cell? ⟨g, 5, none⟩ = some (.int .i64 x.bo) ∧ W.cell? ⟨g, 6, none⟩ = some (.int .i64 x.ei) ∧ W.cell? ⟨g, 7, none⟩ = some (.int .i64 x.eo) ∧ W.cell? ⟨g, 8, none⟩ = some ov := by
  have q := (cells_of (cs := [.int .i64 x.iso, .int .i64 x.fate, .int .u64 x.bgn, .int .u64 x.fin, .int .i64 x.bi, .int .i64 x.bo, .int .i64 x.ei, .int .i64 x.eo, ov]) h).1
  exact ⟨q 0, q 1, q 2, q 3, q 4, q 5, q 6, q 7, q 8⟩

set_option maxHeartbeats 8000000 in
set_option maxRecDepth 100000 in
theorem operation_early_ {w : World} {B lp : Nat} {h : List HTx} (hl : Led w B lp h) (t : Nat) (x : HTx) (hx : h[t]? = some x) (i : Nat) (sv : Value) (o : HOpr) (hs : Rows w B 3 (Flat verC) sv o.seen)
    (hE : o.kind = 2 ∨ (o.kind ≠ 1 ∧ o.kind ≠ 3) ∨ (4611686018427387903 < o.at_ ∨ (com h t = true ∧ (o.at_ < x.bgn ∨ x.fin < o.at_)))) :
    Calls Tryz.prog 90 #[.pointer (some ⟨lp, 0, none⟩), .int .i64 t, .int .i64 i, .agg #[.int .i64 o.kind, .string o.ver.key, .int .i64 o.ver.frm, .int .i64 o.ver.nth, .bool o.dead, .string o.value, .string o.hi, sv, .int .u64 o.at_]] w fun e w' =>
      e = .returned (.int .i64 (operation h t x i o)) ∧ Below w.heap.size w w' := by
  have hle := hl.le
  have hlp := hl.lt
  have HE := Lib.hid hE; clear hE
  obtain ⟨sA, sc, rfl, hsn, hsm⟩ := hs.shape
  obtain ⟨tv, wv, ob, kv, ty, h1, h2, h3, h4, h5⟩ := hl.ex
  have l0 := (cells_of h1).1 0
  obtain ⟨b, p, c, ov, rfl, hb, ⟨a0, a1, a2, a3, a4, a5, a6, a7, a8⟩, hro⟩ := h2.get hx (wr := w) (fun _ _ => rfl)
  obtain ⟨Ao, co, rfl, hno, hmo⟩ := hro.shape
  obtain ⟨_, _, he, hn0, hm0⟩ := Rows.shape h2
  cases he
  have hlt : t < h.length := (List.getElem?_eq_some_iff.1 hx).1
  have hlw : lp < w.heap.size := by omega
  have hbw : b < w.heap.size := by omega
  simp only [maxLen] at hm0 hsm
  have hbe : Below w.heap.size w ((w.alloc (opB (.slice sA o.seen.length sc) o)).alloc (txB (.slice Ao x.ops.length co) x)) := bel2 _ _ _
  have hl2 := hl.below hbe hle
  simp only [opB, txB] at hl2 hbe
  obtain ⟨r, hr⟩ : ∃ r, r = operation h t x i o := ⟨_, rfl⟩
  rw [← hr]
  unfold operation at hr
  clear h1 h3 h4 h5 hro
  by_cases k2 : o.kind = 2
  · rw [if_pos k2] at hr
    have b2 : (o.kind == 2) = true := by simp [k2]
    have HR := Lib.hid hr; clear hr k2
    go_enter Tryz.func90, Tryz.ntmps90
    go_wp2
    go_ret
    exact ⟨ret_int (by rw [HR.out]), hbe⟩
  rw [if_neg k2] at hr
  have b2 : (o.kind == 2) = false := by simp [k2]
  have K2 := Lib.hid k2; clear k2
  by_cases k13 : o.kind ≠ 1 ∧ o.kind ≠ 3
  · rw [if_pos k13] at hr
    have b1 : (o.kind == 1) = false := by simp [k13.1]
    have b3 : (o.kind == 3) = false := by simp [k13.2]
    have HR := Lib.hid hr; clear hr k13
    go_enter Tryz.func90, Tryz.ntmps90
    go_wp2
    go_ret
    exact ⟨ret_int (by rw [HR.out]), hbe⟩
  rw [if_neg k13] at hr
  have hk : o.kind = 1 ∨ o.kind = 3 := by omega
  have K13 := Lib.hid k13; clear k13
  by_cases ka : 4611686018427387903 < o.at_ ∨ (com h t = true ∧ (o.at_ < x.bgn ∨ x.fin < o.at_))
  · rw [if_pos ka] at hr
    have HR := Lib.hid hr; clear hr
    have hb13 : ((o.kind == 1) = true) ∨ ((o.kind == 1) = false ∧ (o.kind == 3) = true) := by rcases hk with hk | hk <;> simp [hk]
    clear hk
    have fin : ∀ w', w' = ((w.alloc (opB (.slice sA o.seen.length sc) o)).alloc (txB (.slice Ao x.ops.length co) x)) → Below w.heap.size w w' := fun w' e => by rw [e]; exact bel2 _ _ _
    rcases ka with ka | ⟨kc, ka⟩
    · rcases hb13 with b1 | ⟨b1, b3⟩
      all_goals
        go_enter Tryz.func90, Tryz.ntmps90
        go_wp2
        go_ret
        exact ⟨ret_int (by rw [HR.out]), hbe⟩
    · have KC := Lib.hid kc; clear kc
      by_cases ka0 : 4611686018427387903 < o.at_
      · rcases hb13 with b1 | ⟨b1, b3⟩
        all_goals
          go_enter Tryz.func90, Tryz.ntmps90
          go_wp2
          go_ret
          exact ⟨ret_int (by rw [HR.out]), hbe⟩
      · rcases ka with ka | ka
        · rcases hb13 with b1 | ⟨b1, b3⟩
          all_goals
            go_enter Tryz.func90, Tryz.ntmps90
            go_wp2_with (go_at_call 20; refine (committed_ hl2 t x hx).mono ?_; rw [KC.out]; rintro e w1 ⟨rfl, rfl⟩)
            go_ret
            exact ⟨ret_int (by rw [HR.out]), hbe⟩
        · by_cases kb0 : o.at_ < x.bgn
          · rcases hb13 with b1 | ⟨b1, b3⟩
            all_goals
              go_enter Tryz.func90, Tryz.ntmps90
              go_wp2_with (go_at_call 20; refine (committed_ hl2 t x hx).mono ?_; rw [KC.out]; rintro e w1 ⟨rfl, rfl⟩)
              go_ret
              exact ⟨ret_int (by rw [HR.out]), hbe⟩
          · rcases hb13 with b1 | ⟨b1, b3⟩
            all_goals
              go_enter Tryz.func90, Tryz.ntmps90
              go_wp2_with (go_at_call 20; refine (committed_ hl2 t x hx).mono ?_; rw [KC.out]; rintro e w1 ⟨rfl, rfl⟩)
              go_ret
              exact ⟨ret_int (by rw [HR.out]), hbe⟩
  exact absurd HE.out (by rintro (h1 | h1 | h1); exact K2.out h1; exact K13.out h1; exact ka h1)
end Go.Proofs.YtooigfkjdemnlaaGreatDoor

namespace Go.Proofs.YtooigfkjdemnlaaGreatDoor
open Go.RowKit Xw

def HOpr.bgnOk (o : HOpr) (x : HTx) : Prop := x.bgn ≤ o.at_ ∧ o.at_ ≤ x.fin
set_option maxHeartbeats 8000000 in
set_option maxRecDepth 100000 in
theorem operation_read_ {w : World} {B lp : Nat} {h : List HTx} (hl : Led w B lp h) (t : Nat) (x : HTx) (hx : h[t]? = some x) (i : Nat) (sv : Value) (o : HOpr) (hs : Rows w B 3 (Flat verC) sv o.seen)
    (hk : o.kind = 1) (ha : ¬ (4611686018427387903 < o.at_ ∨ (com h t = true ∧ (o.at_ < x.bgn ∨ x.fin < o.at_)))) :
    Calls Tryz.prog 90 #[.pointer (some ⟨lp, 0, none⟩), .int .i64 t, .int .i64 i, .agg #[.int .i64 o.kind, .string o.ver.key, .int .i64 o.ver.frm, .int .i64 o.ver.nth, .bool o.dead, .string o.value, .string o.hi, sv, .int .u64 o.at_]] w fun e w' =>
      e = .returned (.int .i64 (operation h t x i o)) ∧ Below w.heap.size w w' := by
  have hle := hl.le
  have hlp := hl.lt
  obtain ⟨sA, sc, rfl, hsn, hsm⟩ := hs.shape
  obtain ⟨tv, wv, ob, kv, ty, h1, h2, h3, h4, h5⟩ := hl.ex
  have l0 := (cells_of h1).1 0
  obtain ⟨b, p, c, ov, rfl, hb, ⟨a0, a1, a2, a3, a4, a5, a6, a7, a8⟩, hro⟩ := h2.get hx (wr := w) (fun _ _ => rfl)
  obtain ⟨Ao, co, rfl, hno, hmo⟩ := hro.shape
  obtain ⟨_, _, he, hn0, hm0⟩ := Rows.shape h2
  cases he
  have hlt : t < h.length := (List.getElem?_eq_some_iff.1 hx).1
  have hlw : lp < w.heap.size := by omega
  have hbw : b < w.heap.size := by omega
  simp only [maxLen] at hm0 hsm
  have hbe : Below w.heap.size w ((w.alloc (opB (.slice sA o.seen.length sc) o)).alloc (txB (.slice Ao x.ops.length co) x)) := bel2 _ _ _
  have hl2 := hl.below hbe hle
  simp only [opB, txB] at hl2 hbe
  obtain ⟨r, hr⟩ : ∃ r, r = operation h t x i o := ⟨_, rfl⟩
  rw [← hr]
  unfold operation at hr
  clear h1 h3 h4 h5 hro
  rw [if_neg (by omega), if_neg (by omega), if_neg ha, if_pos hk] at hr
  have b2 : (o.kind == 2) = false := by simp [hk]
  have b1 : (o.kind == 1) = true := by simp [hk]
  have ha0 : ¬ 4611686018427387903 < o.at_ := fun h => ha (.inl h)
  have ha1 : com h t = true → o.bgnOk x := fun hc => ⟨Int.not_lt.1 fun h => ha (.inr ⟨hc, .inl h⟩), Int.not_lt.1 fun h => ha (.inr ⟨hc, .inr h⟩)⟩
  have HA := Lib.hid ha1
  clear ha ha1 hk
  obtain ⟨T, hT⟩ : ∃ T, T = tellable h t x i o.ver := ⟨_, rfl⟩
  rw [← hT] at hr
  have HT := Lib.hid hT; clear hT
  have hbx : ((w.alloc (opB (.slice sA o.seen.length sc) o)).alloc (txB (.slice Ao x.ops.length co) x)).heap[w.heap.size]? = some (opB (.slice sA o.seen.length sc) o) := (heap_alloc_lt (by simp)).trans (heap_alloc_new _ _)
  simp only [opB, txB] at hbx
  cases hc : com h t
  · have HC := Lib.hid hc; clear hc
    go_enter Tryz.func90, Tryz.ntmps90
    go_wp2_with (first
      | (go_at_call 20; refine (committed_ hl2 t x hx).mono ?_; rw [HC.out]; rintro e w1 ⟨rfl, rfl⟩)
      | fail)
    refine (tellable_ hl2 t x hx i o.ver).mono ?_
    rintro e w1 ⟨rfl, hB1⟩
    rw [← HT.out]
    have hz1 := hB1.size
    simp only [World.size_alloc] at hz1
    have hbx1 := (hB1.block w.heap.size (by simp; omega)).trans hbx
    have v5 := (cells_of (cs := [.int .i64 o.kind, .string o.ver.key, .int .i64 o.ver.frm, .int .i64 o.ver.nth, .bool o.dead, .string o.value, .string o.hi, .slice sA o.seen.length sc, .int .u64 o.at_]) hbx1).1 5
    have hw0 : w.heap.size < w1.heap.size := by omega
    have hBw : Below w.heap.size w w1 := hbe.trans (hB1.mono (by simp; omega))
    cases T with
    | none =>
      dsimp only at hr
      have HR := Lib.hid hr; clear hr
      simp only [tellV, wroteC, wrote0, Option.getD_none, Option.isSome_none]
      go_wp2
      go_ret
      exact ⟨ret_int (by rw [HR.out]), hBw.alloc (by omega) _⟩
    | some u =>
      dsimp only at hr
      simp only [tellV, wroteC, Option.getD_some, Option.isSome_some]
      cases hq : (u.value.toList == o.value.toList)
      · rw [hq, if_neg (by simp)] at hr
        have HR := Lib.hid hr; clear hr
        go_wp2
        go_ret
        exact ⟨ret_int (by rw [HR.out]), hBw.alloc (by omega) _⟩
      · rw [hq, if_pos rfl] at hr
        have HR := Lib.hid hr; clear hr
        go_wp2
        go_ret
        exact ⟨ret_int (by rw [HR.out]), hBw.alloc (by omega) _⟩
  · obtain ⟨ga, gb⟩ := HA.out hc
    have HC := Lib.hid hc; clear hc
    go_enter Tryz.func90, Tryz.ntmps90
    go_wp2_with (first
      | (go_at_call 20; refine (committed_ hl2 t x hx).mono ?_; rw [HC.out]; rintro e w1 ⟨rfl, rfl⟩)
      | fail)
    refine (tellable_ hl2 t x hx i o.ver).mono ?_
    rintro e w1 ⟨rfl, hB1⟩
    rw [← HT.out]
    have hz1 := hB1.size
    simp only [World.size_alloc] at hz1
    have hbx1 := (hB1.block w.heap.size (by simp; omega)).trans hbx
    have v5 := (cells_of (cs := [.int .i64 o.kind, .string o.ver.key, .int .i64 o.ver.frm, .int .i64 o.ver.nth, .bool o.dead, .string o.value, .string o.hi, .slice sA o.seen.length sc, .int .u64 o.at_]) hbx1).1 5
    have hw0 : w.heap.size < w1.heap.size := by omega
    have hBw : Below w.heap.size w w1 := hbe.trans (hB1.mono (by simp; omega))
    cases T with
    | none =>
      dsimp only at hr
      have HR := Lib.hid hr; clear hr
      simp only [tellV, wroteC, wrote0, Option.getD_none, Option.isSome_none]
      go_wp2
      go_ret
      exact ⟨ret_int (by rw [HR.out]), hBw.alloc (by omega) _⟩
    | some u =>
      dsimp only at hr
      simp only [tellV, wroteC, Option.getD_some, Option.isSome_some]
      cases hq : (u.value.toList == o.value.toList)
      · rw [hq, if_neg (by simp)] at hr
        have HR := Lib.hid hr; clear hr
        go_wp2
        go_ret
        exact ⟨ret_int (by rw [HR.out]), hBw.alloc (by omega) _⟩
      · rw [hq, if_pos rfl] at hr
        have HR := Lib.hid hr; clear hr
        go_wp2
        go_ret
        exact ⟨ret_int (by rw [HR.out]), hBw.alloc (by omega) _⟩
end Go.Proofs.YtooigfkjdemnlaaGreatDoor

namespace Go.Proofs.YtooigfkjdemnlaaGreatDoor
open Go.RowKit Xw

theorem below_drewN {B : Nat} {w w1 : World} (h : Below B w w1) (n : Nat) : Below B w (w1.drewN n) := ⟨h.os, h.tape, h.output, h.size, h.block⟩
theorem seenOk_mono (h : List HTx) (t : Nat) (x : HTx) (i : Nat) (o : HOpr) {u n : Nat} (h1 : seenOk h t x i o u = false) (hu : u ≤ n) : seenOk h t x i o n = false := by
  induction n with
  | zero =>
    obtain rfl : u = 0 := by omega
    exact h1
  | succ n ih =>
    by_cases e : u = n + 1
    · subst e; exact h1
    · simp only [seenOk, ih (by omega), Bool.false_and]

set_option maxHeartbeats 8000000 in
set_option maxRecDepth 100000 in
theorem operation_scan_ {w : World} {B lp : Nat} {h : List HTx} (hl : Led w B lp h) (t : Nat) (x : HTx) (hx : h[t]? = some x) (i : Nat) (sv : Value) (o : HOpr) (hs : Rows w B 3 (Flat verC) sv o.seen)
    (hk : o.kind = 3) (ha : ¬ (4611686018427387903 < o.at_ ∨ (com h t = true ∧ (o.at_ < x.bgn ∨ x.fin < o.at_)))) :
    Calls Tryz.prog 90 #[.pointer (some ⟨lp, 0, none⟩), .int .i64 t, .int .i64 i, .agg #[.int .i64 o.kind, .string o.ver.key, .int .i64 o.ver.frm, .int .i64 o.ver.nth, .bool o.dead, .string o.value, .string o.hi, sv, .int .u64 o.at_]] w fun e w' =>
      e = .returned (.int .i64 (operation h t x i o)) ∧ Below w.heap.size w w' := by
  have hle := hl.le
  have hlp := hl.lt
  obtain ⟨sA, sc, rfl, hsn, hsm⟩ := hs.shape
  obtain ⟨tv, wv, ob, kv, ty, h1, h2, h3, h4, h5⟩ := hl.ex
  have l0 := (cells_of h1).1 0
  obtain ⟨b, p, c, ov, rfl, hb, ⟨a0, a1, a2, a3, a4, a5, a6, a7, a8⟩, hro⟩ := h2.get hx (wr := w) (fun _ _ => rfl)
  obtain ⟨Ao, co, rfl, hno, hmo⟩ := hro.shape
  obtain ⟨_, _, he, hn0, hm0⟩ := Rows.shape h2
  cases he
  have hlt : t < h.length := (List.getElem?_eq_some_iff.1 hx).1
  have hlw : lp < w.heap.size := by omega
  have hbw : b < w.heap.size := by omega
  simp only [maxLen] at hm0 hsm
  have hbe : Below w.heap.size w ((w.alloc (opB (.slice sA o.seen.length sc) o)).alloc (txB (.slice Ao x.ops.length co) x)) := bel2 _ _ _
  have hl2 := hl.below hbe hle
  simp only [opB, txB] at hl2 hbe
  obtain ⟨r, hr⟩ : ∃ r, r = operation h t x i o := ⟨_, rfl⟩
  rw [← hr]
  unfold operation at hr
  clear h1 h3 h4 h5 hro
  rw [if_neg (by omega), if_neg (by omega), if_neg ha, if_neg (by omega)] at hr
  have b2 : (o.kind == 2) = false := by simp [hk]
  have b1 : (o.kind == 1) = false := by simp [hk]
  have b3 : (o.kind == 3) = true := by simp [hk]
  have ha0 : ¬ 4611686018427387903 < o.at_ := fun h => ha (.inl h)
  have ha1 : com h t = true → o.bgnOk x := fun hc => ⟨Int.not_lt.1 fun h => ha (.inr ⟨hc, .inl h⟩), Int.not_lt.1 fun h => ha (.inr ⟨hc, .inr h⟩)⟩
  have hbool : com h t = false ∨ (com h t = true ∧ x.bgn ≤ o.at_ ∧ o.at_ ≤ x.fin) := by
    cases hc : com h t
    · exact .inl rfl
    · exact .inr ⟨rfl, ha1 hc⟩
  clear ha ha1 hk
  have hbx : ((w.alloc (opB (.slice sA o.seen.length sc) o)).alloc (txB (.slice Ao x.ops.length co) x)).heap[w.heap.size]? = some (opB (.slice sA o.seen.length sc) o) := (heap_alloc_lt (by simp)).trans (heap_alloc_new _ _)
  have hbt : ((w.alloc (opB (.slice sA o.seen.length sc) o)).alloc (txB (.slice Ao x.ops.length co) x)).heap[w.heap.size + 1]? = some (txB (.slice Ao x.ops.length co) x) := top_al _ _ (by simp)
  simp only [opB, txB] at hbx hbt
  by_cases hlen : 256 < o.seen.length
  · rw [if_pos hlen] at hr
    have HR := Lib.hid hr; clear hr
    have hli : (256 : Int) < o.seen.length := by omega
    rcases hbool with hc | ⟨hc, ga, gb⟩
    all_goals
      have HC := Lib.hid hc; clear hc
      go_enter Tryz.func90, Tryz.ntmps90
      go_wp2_with (go_at_call 20; refine (committed_ hl2 t x hx).mono ?_; rw [HC.out]; rintro e w1 ⟨rfl, rfl⟩)
      go_ret
      exact ⟨ret_int (by rw [HR.out]), hbe⟩
  rw [if_neg hlen] at hr
  have hli : (o.seen.length : Int) ≤ 256 := by omega
  have hli2 : o.seen.length ≤ 256 := by omega
  clear hlen
  obtain ⟨C, hC⟩ : ∃ C, C = com h t := ⟨_, rfl⟩
  rw [← hC] at hbool hr
  have HC := Lib.hid hC; clear hC
  have HR := Lib.hid hr; clear hr
  obtain ⟨W2, hW2⟩ : ∃ W2, W2 = ((w.alloc (opB (.slice sA o.seen.length sc) o)).alloc (txB (.slice Ao x.ops.length co) x)) := ⟨_, rfl⟩
  have hz2 : W2.heap.size = w.heap.size + 2 := by rw [hW2]; simp
  simp only [opB, txB] at hW2
  rw [← hW2] at hbe hl2 hbx hbt
  obtain ⟨q0, q1, q2, q3, q4, q5, q6, q7, q8⟩ := op_cells hbx
  obtain ⟨r0, r1, r2, r3, r4, r5, r6, r7, r8⟩ := tx_cells hbt
  have hw0 : w.heap.size < W2.heap.size := by omega
  have hw1 : w.heap.size + 1 < W2.heap.size := by omega
  have HW2 := Lib.hid hW2; clear hW2
  have main : ∀ (fr : Act), True := fun _ => trivial
  clear main
  rcases hbool with hc | ⟨hc, ga, gb⟩
  all_goals
    subst hc
    go_enter Tryz.func90, Tryz.ntmps90
    go_wp2_with fail
    rw [← HW2.out]
    refine (committed_ hl2 t x hx).mono ?_
    rw [← HC.out]
    rintro e w1 ⟨rfl, rfl⟩
    go_wp2
    go_loopw [12, 13, 14, 15, 16, 82] (fun _ _ _ _ _ i' wr => ∃ j : Nat, j ≤ o.seen.length ∧ i' = .int .i64 j ∧ Hid (seenOk h t x i o j = true) ∧ Below W2.heap.size W2 wr) (fun _ _ _ _ _ i' _ => o.seen.length - (intOf i').toNat)
    case atStart => exact ⟨0, by omega, rfl, Lib.hid rfl, Below.refl _ _⟩
    case round =>
      clear q0 q1 q2 q3 q4 q5 q6 q7 q8 r0 r1 r2 r3 r4 r5 r6 r7 r8
      obtain ⟨j, hj, rfl, hE, hB⟩ := hrel
      have hsz := hB.size
      have hBw : Below w.heap.size w wr := hbe.trans (hB.mono (by omega))
      have hlr : Led wr B lp h := hl2.below hB (by omega)
      have hbxr := (hB.block _ hw0).trans hbx
      obtain ⟨q0, q1, q2, q3, q4, q5, q6, q7, q8⟩ := op_cells hbxr
      have hwr : w.heap.size < wr.heap.size := by omega
      by_cases hlt2 : j < o.seen.length
      · obtain ⟨v, hv⟩ : ∃ v, o.seen[j]? = some v := ⟨_, List.getElem?_eq_getElem hlt2⟩
        have hstep : seenOk h t x i o (j + 1) = ((tellable h t x i v).isSome && covers o v.key && riseOk h t o v j) := by simp only [seenOk, hE.out, hv, Bool.true_and]
        obtain ⟨b2, o2, c2, he, hb2, p0, p1, p2⟩ := hs.get3 hv (wr := wr) (keep_of hBw hle) rfl
        cases he
        have hb2r : b2 < wr.heap.size := by omega
        have HV := Lib.hid hv; clear hv
        have hl3 := hlr.below (bel1 wr (.cells #[.string v.key, .int .i64 v.frm, .int .i64 v.nth] 56)) (by omega)
        obtain ⟨T, hT⟩ : ∃ T, T = tellable h t x i v := ⟨_, rfl⟩
        rw [← hT] at hstep
        have HT := Lib.hid hT; clear hT
        have hvx := heap_alloc_new wr (.cells #[.string v.key, .int .i64 v.frm, .int .i64 v.nth] 56)
        go_wp2_with fail
        refine (tellable_ hl3 t x hx i v).mono ?_
        rintro e w1 ⟨rfl, hB1⟩
        rw [← HT.out]
        have hz1 := hB1.size
        simp only [World.size_alloc] at hz1
        have hBr1 : Below wr.heap.size wr w1 := (bel1 wr _).trans (hB1.mono (by simp))
        have hvx1 := (hB1.block wr.heap.size (by simp)).trans hvx
        have v0 := (cells_of (cs := [.string v.key, .int .i64 v.frm, .int .i64 v.nth]) hvx1).1 0
        have hbx1 := (hBr1.block _ hwr).trans hbxr
        have hw1r : wr.heap.size < w1.heap.size := by omega
        have hw1w : w.heap.size < w1.heap.size := by omega
        have hBW1 : Below W2.heap.size W2 w1 := hB.trans (hBr1.mono (by omega))
        clear q0 q1 q2 q3 q4 q5 q6 q7 q8 p0 p1 p2
        obtain ⟨q0, q1, q2, q3, q4, q5, q6, q7, q8⟩ := op_cells hbx1
        have hBww := hbe.trans (hBW1.mono (by omega))
        cases T with
        | none =>
          have HR2 : Hid (r = 140) := Lib.hid (by rw [HR.out, if_pos (seenOk_mono h t x i o (by rw [hstep]; rfl) (show j + 1 ≤ _ by omega))])
          clear hstep
          simp only [tellV, wroteC, wrote0, Option.getD_none, Option.isSome_none]
          go_wp2
          go_ret
          exact ⟨ret_int (by rw [HR2.out]), hBww.alloc (by omega) _⟩
        | some u =>
          simp only [tellV, wroteC, Option.getD_some, Option.isSome_some]
          rw [Option.isSome_some, Bool.true_and] at hstep
          cases hcv : covers o v.key
          · have HR2 : Hid (r = 140) := Lib.hid (by rw [HR.out, if_pos (seenOk_mono h t x i o (by rw [hstep, hcv]; rfl) (show j + 1 ≤ _ by omega))])
            clear hstep
            go_wp2_with (go_at_call 48; refine (covers_ _ o v.key _).mono ?_; rw [hcv]; rintro e w2 ⟨rfl, rfl⟩; simp only [opC])
            go_ret
            exact ⟨ret_int (by rw [HR2.out]), (hBww.alloc (by omega) _).alloc (by simp; omega) _⟩
          · rw [hcv, Bool.true_and] at hstep
            cases j with
            | zero =>
              have HS : Hid (seenOk h t x i o (0 + 1) = true) := Lib.hid hstep
              clear hstep
              go_wp2_with (go_at_call 48; refine (covers_ _ o v.key _).mono ?_; rw [hcv]; rintro e w2 ⟨rfl, rfl⟩; simp only [opC])
              exact ⟨⟨1, by omega, by simp, HS, (hBW1.alloc (by omega) _).alloc (by simp; omega) _⟩, by simp [intOf]; omega⟩
            | succ m =>
              obtain ⟨u0, hu0⟩ : ∃ u0, o.seen[m]? = some u0 := ⟨_, List.getElem?_eq_getElem (by omega)⟩
              obtain ⟨b3, o3, c3, he, hb3, p0, p1, p2⟩ := hs.get3 hu0 (wr := w1) (keep_of hBww hle) rfl
              cases he
              have hb3w : b2 < w1.heap.size := by omega
              simp only [riseOk, hu0] at hstep
              have HU0 := Lib.hid hu0; clear hu0
              rw [← HC.out] at hstep
              obtain ⟨cc, hcc⟩ : ∃ cc, cc = cmpS u0.key v.key := ⟨_, rfl⟩
              rw [← hcc] at hstep
              have HCC := Lib.hid hcc; clear hcc
              have hmi : (m : Int) < o.seen.length := by omega
              have HST := Lib.hid hstep; clear hstep
              have hW5 : Below W2.heap.size W2 ((w1.alloc (.cells #[.int .i64 u.op, .bool u.dead, .string u.value] 129)).alloc (.cells #[.int .i64 o.kind, .string o.ver.key, .int .i64 o.ver.frm, .int .i64 o.ver.nth, .bool o.dead, .string o.value, .string o.hi, .slice (some ⟨b2, o2, none⟩) o.seen.length sc, .int .u64 o.at_] 59)) := (hBW1.alloc (by omega) _).alloc (by simp; omega) _
              go_wp2_with (go_at_call 48; refine (covers_ _ o v.key _).mono ?_; rw [hcv]; rintro e w2 ⟨rfl, rfl⟩; simp only [opC])
              go_quiet ((go_at_call 101; exact Calls.quiet_of_same ((compare_str_ _ _ _).mono (by rintro e w' ⟨rfl, rfl⟩; exact ⟨rfl, rfl⟩))))
              rw [← HCC.out]
              have hl5 := ((hl2.below hW5 (by omega)).keep (w' := ((w1.alloc (.cells #[.int .i64 u.op, .bool u.dead, .string u.value] 129)).alloc (.cells #[.int .i64 o.kind, .string o.ver.key, .int .i64 o.ver.frm, .int .i64 o.ver.nth, .bool o.dead, .string o.value, .string o.hi, .slice (some ⟨b2, o2, none⟩) o.seen.length sc, .int .u64 o.at_] 59)).drewN nq) (fun _ _ => rfl) (Nat.le_refl _))
              have hW6 := below_drewN hW5 nq
              by_cases hc0 : 0 < cc
              · have HR2 : Hid (r = 140) := Lib.hid (by rw [HR.out, if_pos (seenOk_mono h t x i o (by rw [HST.out]; simp; omega) (show m + 1 + 1 ≤ _ by omega))])
                go_wp2
                go_ret
                exact ⟨ret_int (by rw [HR2.out]), hbe.trans (hW6.mono (by omega))⟩
              · cases hce : (cc == 0)
                · have HS : Hid (seenOk h t x i o (m + 1 + 1) = true) := Lib.hid (by rw [HST.out, hce]; simp; omega)
                  go_wp2
                  exact ⟨⟨m + 1 + 1, by omega, by simp, HS, hW6⟩, by simp [intOf]; omega⟩
                · have hcz : cc = 0 := by simpa using hce
                  have HCZ := Lib.hid hcz; clear hcz
                  go_wp2_with (go_at_call 20; refine (committed_ hl5 t x hx).mono ?_; rw [← HC.out]; rintro e w3 ⟨rfl, rfl⟩)
                  first
                    | exact ⟨⟨m + 1 + 1, by omega, by simp, Lib.hid (by rw [HST.out, HCZ.out]; rfl), hW6⟩, by simp [intOf]; omega⟩
                    | (go_ret
                       exact ⟨ret_int (by rw [HR.out, if_pos (seenOk_mono h t x i o (by rw [HST.out, HCZ.out]; rfl) (show m + 1 + 1 ≤ _ by omega))]), hbe.trans (hW6.mono (by omega))⟩)
      · obtain rfl : j = o.seen.length := by omega
        have hz := hE.out
        have HR2 := HR.out
        rw [if_neg (by rw [hz]; simp)] at HR2
        have HR3 := Lib.hid HR2; clear HR2
        cases hcp : complete h t x i o
        all_goals
          rw [hcp] at HR3
          go_wp2_with (first
            | (go_at_call 20; refine (committed_ hlr t x hx).mono ?_; rw [← HC.out]; rintro e w1 ⟨rfl, rfl⟩)
            | (go_at_call 116; refine (complete_ hlr t x hx i _ o (hs.flat (keep_of hBw hle))).mono ?_; rw [hcp]; rintro e w1 ⟨rfl, hB1⟩))
          go_ret
          first
            | exact ⟨ret_int (by rw [HR3.out]; simp), hBw⟩
            | exact ⟨ret_int (by rw [HR3.out]; simp), hBw.trans (hB1.mono (by omega))⟩

theorem operation_ {w : World} {B lp : Nat} {h : List HTx} (hl : Led w B lp h) (t : Nat) (x : HTx) (hx : h[t]? = some x) (i : Nat) (sv : Value) (o : HOpr) (hs : Rows w B 3 (Flat verC) sv o.seen) :
    Calls Tryz.prog 90 #[.pointer (some ⟨lp, 0, none⟩), .int .i64 t, .int .i64 i, .agg #[.int .i64 o.kind, .string o.ver.key, .int .i64 o.ver.frm, .int .i64 o.ver.nth, .bool o.dead, .string o.value, .string o.hi, sv, .int .u64 o.at_]] w fun e w' =>
      e = .returned (.int .i64 (operation h t x i o)) ∧ Below w.heap.size w w' := by
  by_cases hE : o.kind = 2 ∨ (o.kind ≠ 1 ∧ o.kind ≠ 3) ∨ (4611686018427387903 < o.at_ ∨ (com h t = true ∧ (o.at_ < x.bgn ∨ x.fin < o.at_)))
  · exact operation_early_ hl t x hx i sv o hs hE
  · by_cases h1 : o.kind = 1
    · exact operation_read_ hl t x hx i sv o hs h1 (fun h => hE (.inr (.inr h)))
    · have h3 : o.kind = 3 := by
        by_cases h3 : o.kind = 3
        · exact h3
        · exact absurd (Or.inr (Or.inl ⟨h1, h3⟩)) hE
      exact operation_scan_ hl t x hx i sv o hs h3 (fun h => hE (.inr (.inr h)))
end Go.Proofs.YtooigfkjdemnlaaGreatDoor
