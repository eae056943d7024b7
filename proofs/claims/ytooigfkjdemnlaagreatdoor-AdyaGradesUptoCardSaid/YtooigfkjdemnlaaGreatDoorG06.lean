/- Own texts of this claim, joined in build order: W1, W2, W7. -/
import Derived.Test.YtooigfkjdemnlaaGreatDoorG03
import Derived.Test.YtooigfkjdemnlaaGreatDoorChecked
import Derived.Lib.Hide
import Derived.WalkLawsBesides
import Derived.WalkSpells
import Derived.BigQuiet
import Derived.Deep.QuietTactic
import Derived.Test.YtooigfkjdemnlaaGreatDoorG05
set_option linter.all false
namespace Go.Proofs.YtooigfkjdemnlaaGreatDoor
open Go.RowKit Xw

theorem bcell {W w1 : World} {B : Nat} (hb : Below B W w1) : (∀ b o, b < B → w1.cell? ⟨b, o, none⟩ = W.cell? ⟨b, o, none⟩) ∧ (∀ b o, b < B → w1.frozen? ⟨b, o, none⟩ = W.frozen? ⟨b, o, none⟩) :=
  ⟨fun b o h => hb.cell (p := ⟨b, o, none⟩) h, fun b o h => hb.frozen (p := ⟨b, o, none⟩) h⟩
theorem ret_int {k : IntKind} {a b : Int} (h : a = b) : Ending.returned (.int k a) = .returned (.int k b) := by rw [h]

set_option maxRecDepth 100000 in
theorem committed_ {w : World} {B lp : Nat} {h : List HTx} (hl : Led w B lp h) (t : Nat) (x : HTx) (hx : h[t]? = some x) :
    Calls Tryz.prog 20 #[.pointer (some ⟨lp, 0, none⟩), .int .i64 t] w fun e w' => e = .returned (.bool (com h t)) ∧ w = w' := by
  obtain ⟨⟨tv, wv, ob, kv, ty, h1, h2, h3, h4, h5⟩, -, -⟩ := hl
  obtain ⟨b, o, c, cs, rfl, hb, hlc, hcm, hcl, ⟨ov, rfl, -⟩, hc⟩ := h2.at_ hx
  have hlt : t < h.length := (List.getElem?_eq_some_iff.1 hx).1
  have l0 := (cells_of h1).1 0
  have f1 := hc 1 _ rfl
  have hcom : com h t = (x.fate == 1) := by simp [com, hx]
  have H := Lib.hid hcom; clear hcom
  have H2 := Lib.hid hx; clear hx
  clear h1 h3 h4 h5 hc
  simp only [maxLen] at hcm
  go_enter Tryz.func20, Tryz.ntmps20
  go_wp2
  go_ret
  exact ⟨by rw [H.out]; rfl, rfl⟩

/-! ### covers -/
theorem ret_bool {a b : Bool} (h : a = b) : Ending.returned (.bool a) = .returned (.bool b) := by rw [h]
theorem empty_str : (ByteArray.mk #[]) = ByteArray.empty := rfl
set_option maxRecDepth 100000 in
theorem covers_ (sv : Value) (o : HOpr) (k : ByteArray) (w : World) :
    Calls Tryz.prog 48 #[.agg #[.int .i64 o.kind, .string o.ver.key, .int .i64 o.ver.frm, .int .i64 o.ver.nth, .bool o.dead, .string o.value, .string o.hi, sv, .int .u64 o.at_], .string k] w fun e w' => e = .returned (.bool (covers o k)) ∧ w' = w.alloc (.cells (opC sv o).toArray 59) := by
  have hr : covers o k = (kle o.ver.key k && (o.hi.toList.isEmpty || klt k o.hi)) := rfl
  unfold kle klt at hr
  have H := Lib.hid hr; clear hr
  go_enter Tryz.func48, Tryz.ntmps48
  go_wp2
  all_goals go_ret
  all_goals exact ⟨ret_bool (by rw [H.out] <;> simp_all), rfl⟩

/-! ### ahead -/
theorem takeWhile_take {α : Type} (p : α → Bool) (l : List α) (k : Nat) (hk : k ≤ l.length) (h1 : ∀ j x, j < k → l[j]? = some x → p x = true) (h2 : ∀ x, l[k]? = some x → p x = false) : l.takeWhile p = l.take k := by
  induction l generalizing k with
  | nil => simp
  | cons a l ih =>
    cases k with
    | zero => simp [h2 a rfl]
    | succ k =>
      rw [List.takeWhile_cons, h1 0 a (by omega) rfl, if_pos rfl, List.take_succ_cons, ih k (by simpa using hk) (fun j x hj hx => h1 (j + 1) x (by omega) (by simpa using hx)) (fun x hx => h2 x (by simpa using hx))]

def wrote0 : Wrote := ⟨0, false, ⟨#[]⟩⟩
theorem zero_slice_wrote (w : World) : (zeroValue 160).run Tryz.prog w = .ok (.slice none 0 0) w := by kernel_rfl
theorem zero_slice_inst (w : World) : (zeroValue 123).run Tryz.prog w = .ok (.slice none 0 0) w := by kernel_rfl
noncomputable def kString : KeyEnc Tryz.prog 9 ByteArray := strKey Tryz.underlying9

theorem heap_set3 {w : World} {g : Nat} {x0 x1 x2 a0 a1 a2 : Value} {t : TypeId} (h : w.heap[g]? = some (.cells #[x0, x1, x2] t)) : (((w.setCell ⟨g, 0, none⟩ a0).setCell ⟨g, 1, none⟩ a1).setCell ⟨g, 2, none⟩ a2).heap[g]? = some (.cells #[a0, a1, a2] t) :=
  heap_setCell_same (heap_setCell_same (heap_setCell_same h))
theorem heap_alloc_lt {w : World} {o : Obj} {g : Nat} (hg : g < w.heap.size) : (w.alloc o).heap[g]? = w.heap[g]? := Below.heap_alloc w o g hg

set_option maxHeartbeats 1000000 in
set_option maxRecDepth 100000 in
theorem ahead_ {w : World} {B lp : Nat} {h : List HTx} (hl : Led w B lp h) (t : Nat) (x : HTx) (hx : h[t]? = some x) (k : ByteArray) (i : Nat) :
    Calls Tryz.prog 52 #[.pointer (some ⟨lp, 0, none⟩), .int .i64 t, .string k, .int .i64 i] w fun e w' =>
      e = .returned (.tuple #[.int .i64 (aheadL x k i).length, .agg (wroteC ((aheadL x k i).getLastD wrote0)).toArray]) ∧ Below w.heap.size w w' := by
  obtain ⟨⟨tv, wv, ob, kv, ty, h1, h2, h3, h4, h5⟩, hlp, hle⟩ := hl
  obtain ⟨b, o, c, cs, rfl, hb, hlc, hcm, hcl, ⟨mb, rfl, hmo⟩, hc⟩ := h3.at_ hx
  have hmb := hmo.1
  obtain ⟨L, hL, hlook⟩ := hmo.look
  have hr := hlook k
  have hlt : t < h.length := (List.getElem?_eq_some_iff.1 hx).1
  have l1 := (cells_of h1).1 1
  have f1 : w.cell? ⟨b, o + t, none⟩ = some (.map (some mb)) := by simpa using hc 0 _ rfl
  obtain ⟨u, hu⟩ : ∃ u, u = (kget L k).getD (.slice none 0 0) := ⟨_, rfl⟩
  rw [← hu] at hr
  obtain ⟨A, cp, hsh, hn, hm⟩ := hr.shape
  have HU := Lib.hid hu; clear hu
  have H2 := Lib.hid hx; clear hx
  have hLa := hL.keep (w' := w.alloc (.cells #[.int .i64 0, .bool false, Value.string ⟨#[]⟩] 129)) (Below.heap_alloc w _ mb (by omega))
  clear h1 h2 h3 h4 h5 hc hlook hmo
  simp only [maxLen] at hcm hm
  have hbw : b < w.heap.size := by omega
  have hlw : lp < w.heap.size := by omega
  have hmw : mb < w.heap.size := by omega
  subst hsh
  go_enter Tryz.func52, Tryz.ntmps52
  go_wp2_with (first
    | (at_lookup; go_loud (refine wpList_lookup_k kString _ _ _ 160 rfl rfl Tryz.underlying159 (.slice none 0 0) zero_slice_wrote mb k rfl rfl hLa ?_; rw [← HU.out])))
  go_loopw [8, 22] (fun n i' wr => ∃ (j : Nat) (l : Wrote), j ≤ (writes x k).length ∧ i' = .int .i64 j ∧ n = .int .i64 j ∧ Hid (l = ((writes x k).take j).getLastD wrote0) ∧ wr.heap[w.heap.size]? = some (.cells #[.int .i64 l.op, .bool l.dead, .string l.value] 129) ∧ Below w.heap.size w wr ∧ ∀ m u, m < j → (writes x k)[m]? = some u → u.op < i) (fun _ i' _ => (writes x k).length - (intOf i').toNat)
  case atStart => exact ⟨0, wrote0, by omega, rfl, rfl, Lib.hid rfl, heap_alloc_new w _, (Below.refl _ _).alloc (Nat.le_refl _) _, fun _ _ h => absurd h (by omega)⟩
  case round =>
    obtain ⟨j, l, hj, rfl, rfl, hl, hbx, hB, hall⟩ := hrel
    obtain ⟨q, qf⟩ := cells_of (cs := [.int .i64 l.op, .bool l.dead, .string l.value]) hbx
    have q0 := q 0
    have q1 := q 1
    have q2 := q 2
    have g0 := qf 0
    have g1 := qf 1
    have g2 := qf 2
    have hsz := hB.size
    have hlB := lt_of_heap hbx
    by_cases hlt2 : j < (writes x k).length
    · obtain ⟨u, hu⟩ : ∃ u, (writes x k)[j]? = some u := ⟨_, List.getElem?_eq_getElem hlt2⟩
      obtain ⟨b2, o2, c2, cs2, he, hb2, -, -, -, rfl, hc2⟩ := hr.at_ hu
      cases he
      have hb2w : b2 < w.heap.size := by omega
      have p0 : wr.cell? ⟨b2, o2 + j * 3, none⟩ = some (.int .i64 u.op) := ((bcell hB).1 _ _ hb2w).trans (by simpa using hc2 0 _ rfl)
      have p1 : wr.cell? ⟨b2, o2 + j * 3 + 1, none⟩ = some (.bool u.dead) := ((bcell hB).1 _ _ hb2w).trans (by simpa using hc2 1 _ rfl)
      have p2 : wr.cell? ⟨b2, o2 + j * 3 + 2, none⟩ = some (.string u.value) := ((bcell hB).1 _ _ hb2w).trans (by simpa using hc2 2 _ rfl)
      have hb2r : b2 < wr.heap.size := by omega
      clear hc2 q qf
      by_cases hop : u.op < i
      · go_wp2
        go_region
        all_goals (try go_wp2)
        refine ⟨⟨j + 1, u, by omega, by simp, by simp, Lib.hid ?_, ?_, ?_, ?_⟩, by simp [intOf]; omega⟩
        · rw [List.take_add_one, hu]; simp
        · exact (heap_alloc_lt (by simpa using hlB)).trans (heap_set3 hbx)
        · exact ((((hB.setCell (p := ⟨w.heap.size, 0, none⟩) (Nat.le_refl _) _).setCell (p := ⟨w.heap.size, 1, none⟩) (Nat.le_refl _) _).setCell (p := ⟨w.heap.size, 2, none⟩) (Nat.le_refl _) _).alloc (by simp; omega) _).drew
        · intro m v hm hv
          by_cases e : m = j
          · subst e; rw [hu] at hv; cases hv; exact hop
          · exact hall m v (by omega) hv
      · have e1 : aheadL x k i = (writes x k).take j := takeWhile_take _ _ _ hj (fun m v hm hv => by simpa using hall m v hm hv) (fun v hv => by rw [hu] at hv; cases hv; simpa using hop)
        have E1 := Lib.hid e1; clear e1
        go_wp2_with (with_reducible refine wp_region_free (by kernel_rfl) (fun _ _ => ?_))
        refine ret_tc (vs := [.int .i64 l.op, .bool l.dead, .string l.value]) Tryz.results52 ⟨_, Tryz.underlying129⟩ (by kernel_rfl) rfl rfl ((heap_alloc_lt (by simpa using hlB)).trans (heap_set3 hbx)) ⟨?_, ?_⟩
        · rw [E1.out, ← hl.out]; simp [wroteC]; omega
        · exact ((((hB.setCell (p := ⟨w.heap.size, 0, none⟩) (Nat.le_refl _) _).setCell (p := ⟨w.heap.size, 1, none⟩) (Nat.le_refl _) _).setCell (p := ⟨w.heap.size, 2, none⟩) (Nat.le_refl _) _).alloc (by simp; omega) _).drew
    · obtain rfl : j = (writes x k).length := by omega
      have e1 : aheadL x k i = (writes x k).take (writes x k).length := takeWhile_take _ _ _ hj (fun m v hm hv => by simpa using hall m v hm hv) (fun v hv => by simp at hv)
      have E1 := Lib.hid e1; clear e1
      go_wp2_with (with_reducible refine wp_region_free (by kernel_rfl) (fun _ _ => ?_))
      refine ret_tc (vs := [.int .i64 l.op, .bool l.dead, .string l.value]) Tryz.results52 ⟨_, Tryz.underlying129⟩ (by kernel_rfl) rfl rfl (heap_set3 hbx) ⟨?_, ?_⟩
      · rw [E1.out, ← hl.out]; simp [wroteC]
      · exact (((hB.setCell (p := ⟨w.heap.size, 0, none⟩) (Nat.le_refl _) _).setCell (p := ⟨w.heap.size, 1, none⟩) (Nat.le_refl _) _).setCell (p := ⟨w.heap.size, 2, none⟩) (Nat.le_refl _) _).drew

/-! ### chosen -/
set_option maxHeartbeats 1000000 in
set_option maxRecDepth 100000 in
theorem chosen_ {w : World} {B lp : Nat} {h : List HTx} (hl : Led w B lp h) (t : Nat) (k : ByteArray) (at_ : Int) :
    Calls Tryz.prog 96 #[.pointer (some ⟨lp, 0, none⟩), .int .i64 t, .string k, .int .u64 at_] w fun e w' => e = .returned (.int .i64 (chosen h t k at_)) ∧ Below w.heap.size w w' := by
  obtain ⟨⟨tv, wv, ob, kv, ty, h1, h2, h3, h4, h5⟩, hlp, hle⟩ := hl
  have hmb := h4.1
  obtain ⟨L, hL, hlook⟩ := h4.look
  have hr := hlook k
  have l2 := (cells_of h1).1 2
  obtain ⟨u, hu⟩ : ∃ u, u = (kget L k).getD (.slice none 0 0) := ⟨_, rfl⟩
  rw [← hu] at hr
  obtain ⟨A, cp, hsh, hn, hm⟩ := hr.shape
  have HU := Lib.hid hu; clear hu
  have HC : Hid (chosen h t k at_ = chosenUpto t at_ (order h k) (order h k).length) := Lib.hid rfl
  generalize order h k = O at *
  clear h1 h2 h3 h4 h5 hlook
  simp only [maxLen] at hm
  have hlw : lp < w.heap.size := by omega
  have hmw : ob < w.heap.size := by omega
  subst hsh
  go_enter Tryz.func96, Tryz.ntmps96
  go_wp2_with (first
    | (at_lookup; go_loud (refine wpList_lookup_k kString _ _ _ 123 rfl rfl Tryz.underlying81 (.slice none 0 0) zero_slice_inst ob k rfl rfl hL ?_; rw [← HU.out])))
  go_loopw [9, 19] (fun n i' wr => ∃ j : Nat, j ≤ O.length ∧ i' = .int .i64 j ∧ n = .int .i64 (chosenUpto t at_ O j) ∧ Below w.heap.size w wr) (fun _ i' _ => O.length - (intOf i').toNat)
  case atStart => exact ⟨0, by omega, rfl, rfl, Below.refl _ _⟩
  case round =>
    obtain ⟨j, hj, rfl, rfl, hB⟩ := hrel
    have hsz := hB.size
    by_cases hlt2 : j < O.length
    · obtain ⟨v, hv⟩ : ∃ v, O[j]? = some v := ⟨_, List.getElem?_eq_getElem hlt2⟩
      obtain ⟨b2, o2, c2, cs2, he, hb2, -, -, -, rfl, hc2⟩ := hr.at_ hv
      cases he
      have hb2w : b2 < w.heap.size := by omega
      have p0 : wr.cell? ⟨b2, o2 + j * 3, none⟩ = some (.int .i64 v.txn) := ((bcell hB).1 _ _ hb2w).trans (by simpa using hc2 0 _ rfl)
      have p1 : wr.cell? ⟨b2, o2 + j * 3 + 1, none⟩ = some (.int .u64 v.fin) := ((bcell hB).1 _ _ hb2w).trans (by simpa using hc2 1 _ rfl)
      have p2 : wr.cell? ⟨b2, o2 + j * 3 + 2, none⟩ = some (.bool v.dead) := ((bcell hB).1 _ _ hb2w).trans (by simpa using hc2 2 _ rfl)
      have hb2r : b2 < wr.heap.size := by omega
      have hstep : chosenUpto t at_ O (j + 1) = if v.txn ≠ t ∧ v.fin ≤ at_ then j + 1 else chosenUpto t at_ O j := by simp only [chosenUpto, hv]
      have HS := Lib.hid hstep; clear hstep
      have HV := Lib.hid hv; clear hv
      clear hc2
      by_cases hop : v.txn ≠ t ∧ v.fin ≤ at_
      · obtain ⟨ho1, ho2⟩ := hop
        have hb1 : ((v.txn : Int) != t) = true := by rw [bne_iff_ne]; omega
        go_wp2
        refine ⟨⟨j + 1, by omega, by simp, by rw [HS.out, if_pos ⟨ho1, ho2⟩]; simp, hB.alloc (by omega) _⟩, by simp [intOf]; omega⟩
      · by_cases ho1 : v.txn = t
        · have hb1 : ((v.txn : Int) != t) = false := by simp [ho1]
          go_wp2
          refine ⟨⟨j + 1, by omega, by simp, by rw [HS.out, if_neg hop], hB.alloc (by omega) _⟩, by simp [intOf]; omega⟩
        · have hb1 : ((v.txn : Int) != t) = true := by rw [bne_iff_ne]; omega
          have ho2 : ¬ v.fin ≤ at_ := fun h => hop ⟨ho1, h⟩
          go_wp2
          refine ⟨⟨j + 1, by omega, by simp, by rw [HS.out, if_neg hop], hB.alloc (by omega) _⟩, by simp [intOf]; omega⟩
    · obtain rfl : j = O.length := by omega
      go_wp2
      go_ret
      exact ⟨by rw [HC.out]; rfl, hB⟩
end Go.Proofs.YtooigfkjdemnlaaGreatDoor

namespace Go.Proofs.YtooigfkjdemnlaaGreatDoor
open Go.RowKit Xw

theorem heap_cell {w : World} {g : Nat} {u : Value} {t : TypeId} (h : w.heap[g]? = some (.cells #[u] t)) : w.cell? ⟨g, 0, none⟩ = some u ∧ w.frozen? ⟨g, 0, none⟩ = false :=
  ⟨(cells_of (cs := [u]) h).1 0, (cells_of (cs := [u]) h).2 0⟩

set_option maxRecDepth 100000 in
theorem tells1_ (v : HVer) (k : ByteArray) (kb : Nat) (ty : TypeId) (w : World) (hk : w.heap[kb]? = some (.cells #[.string k] ty)) :
    Calls Tryz.prog 122 #[.agg #[.string v.key, .int .i64 v.frm, .int .i64 v.nth], .pointer (some ⟨kb, 0, none⟩)] w fun e w' => e = .returned (.bool (decide (v.key = k))) ∧ Below w.heap.size w w' := by
  have hkl := lt_of_heap hk
  have hc := (heap_cell hk).1
  have hr : decide (v.key = k) = (v.key.toList == k.toList) := by rw [← bytes_beq]; exact beq_toListBytes _ _
  have HR := Lib.hid hr; clear hr
  clear hk
  go_enter Tryz.func122, Tryz.ntmps122
  go_wp2
  go_ret
  exact ⟨ret_bool (by rw [HR.out]), (Below.refl _ _).alloc (Nat.le_refl _) _⟩

set_option maxHeartbeats 1000000 in
set_option maxRecDepth 100000 in
theorem indexVer_ (k : ByteArray) (kb : Nat) (ty : TypeId) (w : World) (hk : w.heap[kb]? = some (.cells #[.string k] ty)) (v : Value) (l : List HVer) (hl : Rows w w.heap.size 3 (Flat verC) v l) :
    Calls Tryz.prog 121 #[v, .func (.func 122) #[] #[.pointer (some ⟨kb, 0, none⟩)]] w fun e w' => e = .returned (.int .i64 (idxI (l.findIdx? fun v => decide (v.key = k)))) ∧ Below w.heap.size w w' := by
  obtain ⟨A, c, rfl, hn, hm⟩ := hl.shape
  simp only [maxLen] at hm
  have hkl := lt_of_heap hk
  go_enter Tryz.func121, Tryz.ntmps121
  go_wp2
  go_loopw [5, 8] (fun _ i' wr => ∃ j : Nat, j ≤ l.length ∧ i' = .int .i64 j ∧ Below w.heap.size w wr ∧ ∀ m x, m < j → l[m]? = some x → decide (x.key = k) = false) (fun _ i' _ => l.length - (intOf i').toNat)
  case atStart => exact ⟨0, by omega, rfl, Below.refl _ _, fun _ _ h => absurd h (by omega)⟩
  case round =>
    obtain ⟨j, hj, rfl, hB, hall⟩ := hrel
    have hsz := hB.size
    by_cases hlt2 : j < l.length
    · obtain ⟨x, hx⟩ : ∃ x, l[j]? = some x := ⟨_, List.getElem?_eq_getElem hlt2⟩
      obtain ⟨b2, o2, c2, cs2, he, hb2, -, -, -, rfl, hc2⟩ := hl.at_ hx
      cases he
      have p0 : wr.cell? ⟨b2, o2 + j * 3, none⟩ = some (.string x.key) := ((bcell hB).1 _ _ hb2).trans (by simpa using hc2 0 _ rfl)
      have p1 : wr.cell? ⟨b2, o2 + j * 3 + 1, none⟩ = some (.int .i64 x.frm) := ((bcell hB).1 _ _ hb2).trans (by simpa using hc2 1 _ rfl)
      have p2 : wr.cell? ⟨b2, o2 + j * 3 + 2, none⟩ = some (.int .i64 x.nth) := ((bcell hB).1 _ _ hb2).trans (by simpa using hc2 2 _ rfl)
      have hkr := (hB.block kb hkl).trans hk
      clear hc2
      cases hd : decide (x.key = k)
      · go_wp2_with (go_at_call 122; refine (tells1_ x k kb ty _ hkr).mono ?_; rw [hd]; rintro e w1 ⟨rfl, hB1⟩)
        refine ⟨⟨j + 1, by omega, by simp, hB.trans (hB1.mono (by omega)), fun m y hm hy => ?_⟩, by simp [intOf]; omega⟩
        by_cases e : m = j
        · subst e; rw [hx] at hy; cases hy; exact hd
        · exact hall m y (by omega) hy
      · have hfi : l.findIdx? (fun v => decide (v.key = k)) = some j := by
          rw [List.findIdx?_eq_some_iff_getElem]
          refine ⟨hlt2, ?_, fun i hi => ?_⟩
          · rw [List.getElem?_eq_getElem hlt2] at hx; cases hx; exact hd
          · have := hall i _ hi (List.getElem?_eq_getElem (by omega))
            simpa using this
        have HF := Lib.hid hfi; clear hfi
        go_wp2_with (go_at_call 122; refine (tells1_ x k kb ty _ hkr).mono ?_; rw [hd]; rintro e w1 ⟨rfl, hB1⟩)
        go_ret
        exact ⟨by rw [HF.out]; rfl, hB.trans (hB1.mono (by omega))⟩
    · obtain rfl : j = l.length := by omega
      have hfi : l.findIdx? (fun v => decide (v.key = k)) = none := by
        rw [List.findIdx?_eq_none_iff]
        intro x hx
        obtain ⟨i, hi⟩ := List.mem_iff_getElem?.1 hx
        exact hall i x (List.getElem?_eq_some_iff.1 hi).1 hi
      have HF := Lib.hid hfi; clear hfi
      go_wp2
      go_ret
      exact ⟨by rw [HF.out]; rfl, hB⟩

theorem find_of_idx {α : Type} (l : List α) (p : α → Bool) : l.find? p = (l.findIdx? p).bind fun j => l[j]? := by
  induction l with
  | nil => rfl
  | cons a l ih =>
    rw [List.find?_cons, List.findIdx?_cons]
    cases p a
    · simp only [Bool.false_eq_true, if_false, ih]
      cases l.findIdx? p <;> simp
    · simp
def ver0 : HVer := ⟨⟨#[]⟩, 0, 0⟩

set_option maxHeartbeats 1000000 in
set_option maxRecDepth 100000 in
theorem tells_ (sv : Value) (o : HOpr) (k : ByteArray) (w : World) (hs : Rows w w.heap.size 3 (Flat verC) sv o.seen) :
    Calls Tryz.prog 95 #[.agg #[.int .i64 o.kind, .string o.ver.key, .int .i64 o.ver.frm, .int .i64 o.ver.nth, .bool o.dead, .string o.value, .string o.hi, sv, .int .u64 o.at_], .string k] w fun e w' =>
      e = .returned (.tuple #[.agg (verC ((tellsAt o k).getD ver0)).toArray, .bool (tellsAt o k).isSome]) ∧ Below w.heap.size w w' := by
  obtain ⟨A, c, rfl, hn, hm⟩ := hs.shape
  simp only [maxLen] at hm
  obtain ⟨W3, hW3⟩ : ∃ W3, W3 = ((w.alloc (.cells #[.int .i64 o.kind, .string o.ver.key, .int .i64 o.ver.frm, .int .i64 o.ver.nth, .bool o.dead, .string o.value, .string o.hi, .slice A o.seen.length c, .int .u64 o.at_] 59)).alloc (.cells #[.string k] 9)).alloc (.cells #[.string ⟨#[]⟩, .int .i64 0, .int .i64 0] 56) := ⟨_, rfl⟩
  have hB3 : Below w.heap.size w W3 := by rw [hW3]; exact (((Below.refl _ _).alloc (Nat.le_refl _) _).alloc (by simp) _).alloc (by simp; omega) _
  have hz3 : W3.heap.size = w.heap.size + 3 := by rw [hW3]; simp
  have hb0 : W3.heap[w.heap.size]? = some (.cells #[.int .i64 o.kind, .string o.ver.key, .int .i64 o.ver.frm, .int .i64 o.ver.nth, .bool o.dead, .string o.value, .string o.hi, .slice A o.seen.length c, .int .u64 o.at_] 59) := by
    rw [hW3, heap_alloc_lt (by simp; omega), heap_alloc_lt (by simp), heap_alloc_new]
  have hb1 : W3.heap[w.heap.size + 1]? = some (.cells #[.string k] 9) := by
    rw [hW3, heap_alloc_lt (by simp)]
    have := heap_alloc_new (w.alloc (.cells #[.int .i64 o.kind, .string o.ver.key, .int .i64 o.ver.frm, .int .i64 o.ver.nth, .bool o.dead, .string o.value, .string o.hi, .slice A o.seen.length c, .int .u64 o.at_] 59)) (.cells #[.string k] 9)
    simpa using this
  have hb2 : W3.heap[w.heap.size + 2]? = some (.cells #[.string ⟨#[]⟩, .int .i64 0, .int .i64 0] 56) := by
    rw [hW3]
    have := heap_alloc_new ((w.alloc (.cells #[.int .i64 o.kind, .string o.ver.key, .int .i64 o.ver.frm, .int .i64 o.ver.nth, .bool o.dead, .string o.value, .string o.hi, .slice A o.seen.length c, .int .u64 o.at_] 59)).alloc (.cells #[.string k] 9)) (.cells #[.string ⟨#[]⟩, .int .i64 0, .int .i64 0] 56)
    simpa using this
  have hs3 : Rows W3 W3.heap.size 3 (Flat verC) (.slice A o.seen.length c) o.seen := (hs.flat (fun j hj => hB3.block j hj)).flatMore (by omega)
  have hf := find_of_idx o.seen fun v => decide (v.key = k)
  have HT : Hid (tellsAt o k = (o.seen.findIdx? fun v => decide (v.key = k)).bind fun j => o.seen[j]?) := Lib.hid hf
  clear hf
  go_enter Tryz.func95, Tryz.ntmps95
  go_wp2_with fail
  rw [← hW3]
  have HW := Lib.hid hW3; clear hW3
  refine (indexVer_ k (w.heap.size + 1) _ _ hb1 _ o.seen hs3).mono ?_
  rintro e w1 ⟨rfl, hB4⟩
  have hz4 := hB4.size
  have d0 := (hB4.block _ (by omega)).trans hb0
  have d2 := (hB4.block _ (by omega)).trans hb2
  have hB := hB3.trans (hB4.mono (by omega))
  have q7 := (cells_of (cs := [.int .i64 o.kind, .string o.ver.key, .int .i64 o.ver.frm, .int .i64 o.ver.nth, .bool o.dead, .string o.value, .string o.hi, .slice A o.seen.length c, .int .u64 o.at_]) d0).1 7
  obtain ⟨q, qf⟩ := cells_of (cs := [.string ⟨#[]⟩, .int .i64 0, .int .i64 0]) d2
  have r0 : w1.cell? ⟨w.heap.size + 2, 0, none⟩ = some (.string ⟨#[]⟩) := q 0
  have r1 : w1.cell? ⟨w.heap.size + 2, 1, none⟩ = some (.int .i64 0) := q 1
  have r2 : w1.cell? ⟨w.heap.size + 2, 2, none⟩ = some (.int .i64 0) := q 2
  have g0 := qf 0
  have g1 := qf 1
  have g2 := qf 2
  have hw2 : w.heap.size + 2 < w1.heap.size := by omega
  clear q qf
  cases hi : o.seen.findIdx? (fun v => decide (v.key = k)) with
  | none =>
    rw [hi] at HT
    have HI := Lib.hid hi; clear hi
    have hneg : idxI none < 0 := by decide
    simp only [idxI]
    go_wp2_with fail
    refine ret_ct (vs := [.string ⟨#[]⟩, .int .i64 0, .int .i64 0]) Tryz.results95 ⟨_, Tryz.underlying56⟩ (by kernel_rfl) rfl rfl (heap_set3 d2) ⟨?_, ?_⟩
    · rw [HT.out]; rfl
    · exact ((hB.setCell (p := ⟨w.heap.size + 2, 0, none⟩) (by simp) _).setCell (p := ⟨w.heap.size + 2, 1, none⟩) (by simp) _).setCell (p := ⟨w.heap.size + 2, 2, none⟩) (by simp) _
  | some j =>
    rw [hi] at HT
    have hjl : j < o.seen.length := by rw [List.findIdx?_eq_some_iff_getElem] at hi; exact hi.1
    have HI := Lib.hid hi; clear hi
    obtain ⟨x, hx⟩ : ∃ x, o.seen[j]? = some x := ⟨_, List.getElem?_eq_getElem hjl⟩
    obtain ⟨b2, o2, c2, cs2, he, hb2', -, -, -, rfl, hc2⟩ := hs.at_ hx
    cases he
    have p0 : w1.cell? ⟨b2, o2 + j * 3, none⟩ = some (.string x.key) := ((bcell hB).1 _ _ hb2').trans (by simpa using hc2 0 _ rfl)
    have p1 : w1.cell? ⟨b2, o2 + j * 3 + 1, none⟩ = some (.int .i64 x.frm) := ((bcell hB).1 _ _ hb2').trans (by simpa using hc2 1 _ rfl)
    have p2 : w1.cell? ⟨b2, o2 + j * 3 + 2, none⟩ = some (.int .i64 x.nth) := ((bcell hB).1 _ _ hb2').trans (by simpa using hc2 2 _ rfl)
    have HX := Lib.hid hx; clear hx
    clear hc2
    simp only [idxI]
    go_wp2_with fail
    refine ret_ct (vs := [.string x.key, .int .i64 x.frm, .int .i64 x.nth]) Tryz.results95 ⟨_, Tryz.underlying56⟩ (by kernel_rfl) rfl rfl (heap_set3 d2) ⟨?_, ?_⟩
    · rw [HT.out]; simp [HX.out, verC]
    · exact ((hB.setCell (p := ⟨w.heap.size + 2, 0, none⟩) (by simp) _).setCell (p := ⟨w.heap.size + 2, 1, none⟩) (by simp) _).setCell (p := ⟨w.heap.size + 2, 2, none⟩) (by simp) _

/-! ### standing -/
set_option maxRecDepth 100000 in
theorem standing1_ (u : Inst) (f : Int) (vb : Nat) (w : World) (hv : w.cell? ⟨vb, 1, none⟩ = some (.int .i64 f)) (hvl : vb < w.heap.size) :
    Calls Tryz.prog 120 #[.agg #[.int .i64 u.txn, .int .u64 u.fin, .bool u.dead], .pointer (some ⟨vb, 0, none⟩)] w fun e w' => e = .returned (.bool (decide ((u.txn : Int) = f))) ∧ Below w.heap.size w w' := by
  have hr : decide ((u.txn : Int) = f) = ((u.txn : Int) == f) := rfl
  have HR := Lib.hid hr; clear hr
  go_enter Tryz.func120, Tryz.ntmps120
  go_wp2
  go_ret
  exact ⟨ret_bool (by rw [HR.out]), bel1 _ _⟩

set_option maxHeartbeats 1000000 in
set_option maxRecDepth 100000 in
theorem indexInst_ (f : Int) (vb : Nat) (w : World) (hv : w.cell? ⟨vb, 1, none⟩ = some (.int .i64 f)) (hvl : vb < w.heap.size) (v : Value) (l : List Inst) (hl : Rows w w.heap.size 3 (Flat instC) v l) :
    Calls Tryz.prog 119 #[v, .func (.func 120) #[] #[.pointer (some ⟨vb, 0, none⟩)]] w fun e w' => e = .returned (.int .i64 (idxI (l.findIdx? fun u => decide ((u.txn : Int) = f)))) ∧ Below w.heap.size w w' := by
  obtain ⟨A, c, rfl, hn, hm⟩ := hl.shape
  simp only [maxLen] at hm
  go_enter Tryz.func119, Tryz.ntmps119
  go_wp2
  go_loopw [5, 8] (fun _ i' wr => ∃ j : Nat, j ≤ l.length ∧ i' = .int .i64 j ∧ Below w.heap.size w wr ∧ ∀ m x, m < j → l[m]? = some x → decide ((x.txn : Int) = f) = false) (fun _ i' _ => l.length - (intOf i').toNat)
  case atStart => exact ⟨0, by omega, rfl, Below.refl _ _, fun _ _ h => absurd h (by omega)⟩
  case round =>
    obtain ⟨j, hj, rfl, hB, hall⟩ := hrel
    have hsz := hB.size
    by_cases hlt2 : j < l.length
    · obtain ⟨x, hx⟩ : ∃ x, l[j]? = some x := ⟨_, List.getElem?_eq_getElem hlt2⟩
      obtain ⟨b2, o2, c2, he, hb2, p0, p1, p2⟩ := hl.get3 hx (keep_of hB (Nat.le_refl _)) rfl
      cases he
      have hvr : wr.cell? ⟨vb, 1, none⟩ = some (.int .i64 f) := ((bcell hB).1 _ _ hvl).trans hv
      have hvw : vb < wr.heap.size := by omega
      cases hd : decide ((x.txn : Int) = f)
      · go_wp2_with (go_at_call 120; refine (standing1_ x f vb _ hvr hvw).mono ?_; rw [hd]; rintro e w1 ⟨rfl, hB1⟩)
        refine ⟨⟨j + 1, by omega, by simp, hB.trans (hB1.mono (by omega)), fun m y hm hy => ?_⟩, by simp [intOf]; omega⟩
        by_cases e : m = j
        · subst e; rw [hx] at hy; cases hy; exact hd
        · exact hall m y (by omega) hy
      · have hfi : l.findIdx? (fun u => decide ((u.txn : Int) = f)) = some j := by
          rw [List.findIdx?_eq_some_iff_getElem]
          refine ⟨hlt2, ?_, fun i hi => ?_⟩
          · rw [List.getElem?_eq_getElem hlt2] at hx; cases hx; exact hd
          · have := hall i _ hi (List.getElem?_eq_getElem (by omega))
            simpa using this
        have HF := Lib.hid hfi; clear hfi
        go_wp2_with (go_at_call 120; refine (standing1_ x f vb _ hvr hvw).mono ?_; rw [hd]; rintro e w1 ⟨rfl, hB1⟩)
        go_ret
        exact ⟨by rw [HF.out]; rfl, hB.trans (hB1.mono (by omega))⟩
    · obtain rfl : j = l.length := by omega
      have hfi : l.findIdx? (fun u => decide ((u.txn : Int) = f)) = none := by
        rw [List.findIdx?_eq_none_iff]
        intro x hx
        obtain ⟨i, hi⟩ := List.mem_iff_getElem?.1 hx
        exact hall i x (List.getElem?_eq_some_iff.1 hi).1 hi
      have HF := Lib.hid hfi; clear hfi
      go_wp2
      go_ret
      exact ⟨by rw [HF.out]; rfl, hB⟩

set_option maxHeartbeats 1000000 in
set_option maxRecDepth 100000 in
theorem standing_ {w : World} {B lp : Nat} {h : List HTx} (hl : Led w B lp h) (v : HVer) (t : Nat) (x : HTx) (hx : h[t]? = some x) (hf : v.frm = t) :
    Calls Tryz.prog 94 #[.pointer (some ⟨lp, 0, none⟩), .agg #[.string v.key, .int .i64 v.frm, .int .i64 v.nth]] w fun e w' => e = .returned (.int .i64 (standing h v)) ∧ Below w.heap.size w w' := by
  have hle := hl.le
  have hlp := hl.lt
  have hst : standing h v = if com h t = true ∧ v.nth = (writes x v.key).length then idxI ((order h v.key).findIdx? fun u => decide ((u.txn : Int) = v.frm)) else -1 := by
    simp only [standing, hf, Int.toNat_natCast, hx]
  have HS := Lib.hid hst; clear hst
  have hl1 := hl.below (bel1 w (.cells #[.string v.key, .int .i64 v.frm, .int .i64 v.nth] 56)) hle
  have hbe := bel1 w (.cells #[.string v.key, .int .i64 v.frm, .int .i64 v.nth] 56)
  obtain ⟨tv, wv, ob, kv, ty, h1, h2, h3, h4, h5⟩ := hl.ex
  have l1 := (cells_of h1).1 1
  have l2 := (cells_of h1).1 2
  have hob := h4.1
  obtain ⟨b, o, c, mb, L, rfl, hb, pm, hmb, hL, hlk⟩ := wr_get h3 hx (wr := w) (fun _ _ => rfl)
  obtain ⟨LO, hLO, hlkO⟩ := h4.look
  have hrO := (hlkO v.key).flatMore (B' := w.heap.size) hle
  have hr := hlk v.key
  obtain ⟨A, cp, hsh, hn, hm⟩ := hr.shape
  obtain ⟨A2, cp2, hsh2, hn2, hm2⟩ := hrO.shape
  have HU := Lib.hid hsh.symm; clear hsh
  have HU2 := Lib.hid hsh2.symm
  rw [hsh2] at hrO
  clear hsh2
  have hlt : t < h.length := (List.getElem?_eq_some_iff.1 hx).1
  have hcm := h3.shape
  obtain ⟨_, _, he, hc1, hc2⟩ := hcm
  cases he
  simp only [maxLen] at hm hm2 hc2
  have hbw : b < w.heap.size := by omega
  have hlw : lp < w.heap.size := by omega
  have hmw : mb < w.heap.size := by omega
  have how : ob < w.heap.size := by omega
  have hL1 := hL.below hbe hmw
  have hLO1 := hLO.below hbe how
  clear h1 h2 h3 h4 h5 hr hlk hlkO hL hLO hbe
  obtain ⟨k, f, n⟩ := v
  dsimp only at *
  obtain rfl : f = t := hf
  have hl2 := hl1.drew
  cases hcom : com h t
  · rw [hcom] at HS
    have HC := Lib.hid hcom; clear hcom
    go_enter Tryz.func94, Tryz.ntmps94
    go_wp2_with (first
      | (with_reducible refine wp_region_free (by kernel_rfl) (fun _ _ => ?_))
      | (go_at_call 20; refine (committed_ hl2 t x hx).mono ?_; rw [HC.out]; rintro e w1 ⟨rfl, rfl⟩))
    go_ret
    exact ⟨by rw [HS.out]; rfl, (bel1 _ _).drew⟩
  · rw [hcom] at HS
    have HC := Lib.hid hcom; clear hcom
    by_cases hn3 : n = (writes x k).length
    · have HN := Lib.hid hn3
      have hb1 : (n != ((writes x k).length : Int)) = false := by simp [hn3]
      clear hn3
      go_enter Tryz.func94, Tryz.ntmps94
      go_wp2_with (first
        | (with_reducible refine wp_region_free (by kernel_rfl) (fun _ _ => ?_))
        | (go_at_call 20; refine (committed_ hl2 t x hx).mono ?_; rw [HC.out]; rintro e w1 ⟨rfl, rfl⟩)
        | (at_lookup; first
          | (refine wpList_lookup_k kString (.tmp 20) (.tmp 22) _ 160 rfl rfl Tryz.underlying159 (.slice none 0 0) zero_slice_wrote mb k rfl rfl (hL1.keep rfl) ?_; rw [← HU.out])
          | (refine wpList_lookup_k kString (.tmp 30) (.tmp 32) _ 123 rfl rfl Tryz.underlying81 (.slice none 0 0) zero_slice_inst ob k rfl rfl (hLO1.keep rfl) ?_; rw [← HU2.out]))
        | fail)
      refine (indexInst_ t w.heap.size _ (by simp) (by simp) _ (order h k) (hrO.to (bel1 w _).drew.drew (Nat.le_refl _) (by simp))).mono ?_
      rintro e w1 ⟨rfl, hB1⟩
      go_wp2
      go_ret
      exact ⟨by rw [HS.out, if_pos ⟨trivial, HN.out⟩]; rfl, (bel1 w _).drew.drew.trans (hB1.mono (by simp))⟩
    · have hb1 : (n != ((writes x k).length : Int)) = true := by rw [bne_iff_ne]; exact hn3
      go_enter Tryz.func94, Tryz.ntmps94
      go_wp2_with (first
        | (with_reducible refine wp_region_free (by kernel_rfl) (fun _ _ => ?_))
        | (go_at_call 20; refine (committed_ hl2 t x hx).mono ?_; rw [HC.out]; rintro e w1 ⟨rfl, rfl⟩)
        | (at_lookup; (refine wpList_lookup_k kString (.tmp 20) (.tmp 22) _ 160 rfl rfl Tryz.underlying159 (.slice none 0 0) zero_slice_wrote mb k rfl rfl (hL1.keep rfl) ?_; rw [← HU.out])))
      go_ret
      exact ⟨by rw [HS.out, if_neg (fun h => hn3 h.2)]; rfl, (bel1 _ _).drew⟩
end Go.Proofs.YtooigfkjdemnlaaGreatDoor

namespace Go.Proofs.YtooigfkjdemnlaaGreatDoor
set_option maxRecDepth 100000
open Go.RowKit Xw

theorem isNaN_int_ (a : Int) (w : World) : Calls Tryz.prog 109 #[.int .i64 a] w fun e w' => e = .returned (.bool false) ∧ w = w' := by
  go_enter Tryz.func109, Tryz.ntmps109
  go_wp2
  go_ret
  exact ⟨ret_bool (by simp), rfl⟩
theorem compare_int_ (a b : Int) (w : World) : Calls Tryz.prog 76 #[.int .i64 a, .int .i64 b] w fun e w' => e = .returned (.int .i64 (cmpI a b)) ∧ w = w' := by
  have H : Hid (cmpI a b = if a < b then -1 else if b < a then 1 else 0) := Lib.hid rfl
  go_enter Tryz.func76, Tryz.ntmps76
  go_wp2_with (first
    | (go_at_call 109; with_reducible refine (isNaN_int_ a _).mono ?_; rintro e w1 ⟨rfl, rfl⟩)
    | (go_at_call 109; with_reducible refine (isNaN_int_ b _).mono ?_; rintro e w1 ⟨rfl, rfl⟩))
  all_goals go_ret

  all_goals exact ⟨ret_int (by rw [H.out]; (repeat' split) <;> first | rfl | omega), rfl⟩

theorem isNaN_u64_ (a : Int) (w : World) : Calls Tryz.prog 108 #[.int .u64 a] w fun e w' => e = .returned (.bool false) ∧ w = w' := by
  go_enter Tryz.func108, Tryz.ntmps108
  go_wp2
  go_ret
  exact ⟨ret_bool (by simp), rfl⟩
theorem compare_u64_ (a b : Int) (w : World) : Calls Tryz.prog 75 #[.int .u64 a, .int .u64 b] w fun e w' => e = .returned (.int .i64 (cmpI a b)) ∧ w = w' := by
  have H : Hid (cmpI a b = if a < b then -1 else if b < a then 1 else 0) := Lib.hid rfl
  go_enter Tryz.func75, Tryz.ntmps75
  go_wp2_with (first
    | (go_at_call 108; with_reducible refine (isNaN_u64_ a _).mono ?_; rintro e w1 ⟨rfl, rfl⟩)
    | (go_at_call 108; with_reducible refine (isNaN_u64_ b _).mono ?_; rintro e w1 ⟨rfl, rfl⟩))
  all_goals go_ret

  all_goals exact ⟨ret_int (by rw [H.out]; (repeat' split) <;> first | rfl | omega), rfl⟩

theorem isNaN_kind_ (a : Int) (w : World) : Calls Tryz.prog 134 #[.int .i64 a] w fun e w' => e = .returned (.bool false) ∧ w = w' := by
  go_enter Tryz.func134, Tryz.ntmps134
  go_wp2
  go_ret
  exact ⟨ret_bool (by simp), rfl⟩
theorem compare_kind_ (a b : Int) (w : World) : Calls Tryz.prog 100 #[.int .i64 a, .int .i64 b] w fun e w' => e = .returned (.int .i64 (cmpI a b)) ∧ w = w' := by
  have H : Hid (cmpI a b = if a < b then -1 else if b < a then 1 else 0) := Lib.hid rfl
  go_enter Tryz.func100, Tryz.ntmps100
  go_wp2_with (first
    | (go_at_call 134; with_reducible refine (isNaN_kind_ a _).mono ?_; rintro e w1 ⟨rfl, rfl⟩)
    | (go_at_call 134; with_reducible refine (isNaN_kind_ b _).mono ?_; rintro e w1 ⟨rfl, rfl⟩))
  all_goals go_ret

  all_goals exact ⟨ret_int (by rw [H.out]; (repeat' split) <;> first | rfl | omega), rfl⟩

theorem isNaN_str_ (a : ByteArray) (w : World) : Calls Tryz.prog 135 #[.string a] w fun e w' => e = .returned (.bool false) ∧ w = w' := by
  go_enter Tryz.func135, Tryz.ntmps135
  go_wp2
  go_ret
  exact ⟨ret_bool (by simp), rfl⟩
theorem compare_str_ (a b : ByteArray) (w : World) : Calls Tryz.prog 101 #[.string a, .string b] w fun e w' => e = .returned (.int .i64 (cmpS a b)) ∧ w = w' := by
  have h0 : cmpS a b = if klt a b = true then -1 else if (a.toList == b.toList) = true then 0 else 1 := rfl
  unfold klt at h0
  have H := Lib.hid h0; clear h0
  go_enter Tryz.func101, Tryz.ntmps101
  go_wp2_with (first
    | (go_at_call 135; with_reducible refine (isNaN_str_ a _).mono ?_; rintro e w1 ⟨rfl, rfl⟩)
    | (go_at_call 135; with_reducible refine (isNaN_str_ b _).mono ?_; rintro e w1 ⟨rfl, rfl⟩))
  all_goals go_ret
  all_goals exact ⟨ret_int (by rw [H.out]; simp_all), rfl⟩
end Go.Proofs.YtooigfkjdemnlaaGreatDoor
