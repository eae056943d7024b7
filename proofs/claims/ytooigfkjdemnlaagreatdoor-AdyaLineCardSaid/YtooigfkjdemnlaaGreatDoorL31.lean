/- Own texts of this claim, joined in build order: Tw3, Tw4, N2. -/
import Derived.Test.YtooigfkjdemnlaaGreatDoorL03
import Derived.Test.YtooigfkjdemnlaaGreatDoorL30
import Derived.Test.YtooigfkjdemnlaaGreatDoorL15
import Derived.Test.YtooigfkjdemnlaaGreatDoorL21
set_option linter.all false
namespace Go.Proofs.YtooigfkjdemnlaaGreatDoor
set_option maxRecDepth 100000
open Go.RowKit Xw

structure StI (w : World) (sb tb : Nat) (ts tt : TypeId) (s : KSt) : Prop where
  sblk : ∃ arr, w.heap[sb]? = some (.cells arr ts (0, 0)) ∧ arr.size = 15
  tblk : ∃ arr, w.heap[tb]? = some (.cells arr tt (0, 0)) ∧ arr.size = 5
  th : ∀ k, k < 5 → w.cell? ⟨tb, k, none⟩ = some (.bool (s (keyB k)).isSome)
  sv : ∀ k, k < 5 → ∀ v, s (keyB k) = some v → w.cell? ⟨sb, k * 3, none⟩ = some (.string v.key) ∧ w.cell? ⟨sb, k * 3 + 1, none⟩ = some (.int .i64 v.frm) ∧ w.cell? ⟨sb, k * 3 + 2, none⟩ = some (.int .i64 v.nth)
structure CtI (w : World) (cb : Nat) (tc : TypeId) (c : Nat → Nat) : Prop where
  blk : ∃ arr, w.heap[cb]? = some (.cells arr tc (0, 0)) ∧ arr.size = 5
  ct : ∀ k, k < 5 → w.cell? ⟨cb, k, none⟩ = some (.int .i64 (c k))
section
variable {w w' : World} {sb tb cb : Nat} {ts tt tc : TypeId} {s : KSt} {c : Nat → Nat}
theorem StI.keep (h : StI w sb tb ts tt s) (h1 : w'.heap[sb]? = w.heap[sb]?) (h2 : w'.heap[tb]? = w.heap[tb]?) : StI w' sb tb ts tt s :=
  ⟨by rw [h1]; exact h.sblk, by rw [h2]; exact h.tblk, fun k hk => (World.cell?_of_block h2).trans (h.th k hk), fun k hk v hv => by
    have := h.sv k hk v hv
    exact ⟨(World.cell?_of_block h1).trans this.1, (World.cell?_of_block h1).trans this.2.1, (World.cell?_of_block h1).trans this.2.2⟩⟩
theorem CtI.keep (h : CtI w cb tc c) (h1 : w'.heap[cb]? = w.heap[cb]?) : CtI w' cb tc c :=
  ⟨by rw [h1]; exact h.blk, fun k hk => (World.cell?_of_block h1).trans (h.ct k hk)⟩
theorem frozen_no {g : Nat} {arr : Array Value} {t : TypeId} (h : w.heap[g]? = some (.cells arr t (0, 0))) (i : Nat) : w.frozen? ⟨g, i, none⟩ = false := by simp [World.frozen?, h]
theorem cell_set_same {g i : Nat} {arr : Array Value} {t : TypeId} (h : w.heap[g]? = some (.cells arr t (0, 0))) (hi : i < arr.size) (u : Value) : (w.setCell ⟨g, i, none⟩ u).cell? ⟨g, i, none⟩ = some u := by
  rw [cell_of_row _ _ _ _ _ _ (heap_setCell_same (v := u) h)]
  simp [hi]
theorem CtI.set (h : CtI w cb tc c) {k : Nat} (hk : k < 5) (n : Nat) : CtI (w.setCell ⟨cb, k, none⟩ (.int .i64 n)) cb tc (fun k' => if k' = k then n else c k') := by
  obtain ⟨arr, ha, hs⟩ := h.blk
  refine ⟨⟨_, heap_setCell_same ha, by simpa using hs⟩, fun k' hk' => ?_⟩
  by_cases e : k' = k
  · subst e
    rw [if_pos rfl]
    exact cell_set_same ha (by omega) _
  · rw [if_neg e]
    exact (World.cell?_setCell_other w _ _ _ (fun e2 => e (by simp at e2))).trans (h.ct k' hk')
theorem CtI.congr {c' : Nat → Nat} (h : CtI w cb tc c) (e : ∀ k, k < 5 → c k = c' k) : CtI w cb tc c' := ⟨h.blk, fun k hk => by rw [← e k hk]; exact h.ct k hk⟩
theorem StI.set (h : StI w sb tb ts tt s) (hne : sb ≠ tb) {k : Nat} (hk : k < 5) (v : HVer) (hv : v.key = keyB k) (inj : ∀ i j, i < 5 → j < 5 → keyB i = keyB j → i = j) (d : Bool) {w4 : World} (hw : w4 = (((w.setCell ⟨sb, k * 3, none⟩ (.string v.key)).setCell ⟨sb, k * 3 + 1, none⟩ (.int .i64 v.frm)).setCell ⟨sb, k * 3 + 2, none⟩ (.int .i64 v.nth)))
    {w5 : World} (h5s : w5.heap[sb]? = w4.heap[sb]?) (h5t : w5.heap[tb]? = w4.heap[tb]?) : StI (w5.setCell ⟨tb, k, none⟩ (.bool (!d))) sb tb ts tt (put s (keyB k) (if d then none else some v)) := by
  obtain ⟨arr, ha, hs⟩ := h.sblk
  obtain ⟨brr, hb, ht⟩ := h.tblk
  have a1 := heap_setCell_same (i := k * 3) (v := .string v.key) ha
  have a2 := heap_setCell_same (i := k * 3 + 1) (v := .int .i64 v.frm) a1
  have a3 := heap_setCell_same (i := k * 3 + 2) (v := .int .i64 v.nth) a2
  have b4 : w4.heap[tb]? = some (.cells brr tt (0, 0)) := by
    rw [hw]
    exact (Below.heap_setCell _ _ _ _ (fun e => hne e.symm)).trans ((Below.heap_setCell _ _ _ _ (fun e => hne e.symm)).trans ((Below.heap_setCell _ _ _ _ (fun e => hne e.symm)).trans hb))
  rw [← hw] at a3
  have s5 := h5s.trans a3
  have t5 := h5t.trans b4
  have s6 : (w5.setCell ⟨tb, k, none⟩ (.bool (!d))).heap[sb]? = some (.cells (((arr.setIfInBounds (k * 3) (.string v.key)).setIfInBounds (k * 3 + 1) (.int .i64 v.frm)).setIfInBounds (k * 3 + 2) (.int .i64 v.nth)) ts (0, 0)) := (Below.heap_setCell _ _ _ _ hne).trans s5
  have t6 := heap_setCell_same (i := k) (v := .bool (!d)) t5
  refine ⟨⟨_, s6, by simpa using hs⟩, ⟨_, t6, by simpa using ht⟩, fun k' hk' => ?_, fun k' hk' v' hv' => ?_⟩
  · rw [cell_of_row _ _ _ _ _ _ t6]
    unfold put
    by_cases e : k' = k
    · subst e
      rw [if_pos rfl]
      cases d <;> simp [ht, hk']
    · rw [if_neg (fun e2 => e (inj k' k hk' hk e2)), Array.getElem?_setIfInBounds_ne (fun e2 => e e2.symm), ← cell_of_row w tb k' brr tt (0, 0) hb]
      exact h.th k' hk'
  · simp only [cell_of_row _ _ _ _ _ _ s6]
    unfold put at hv'
    by_cases e : k' = k
    · subst e
      rw [if_pos rfl] at hv'
      cases d
      · simp at hv'
        subst hv'
        refine ⟨?_, ?_, ?_⟩
        · rw [Array.getElem?_setIfInBounds_ne (by omega), Array.getElem?_setIfInBounds_ne (by omega), Array.getElem?_setIfInBounds_self_of_lt (by omega)]
        · rw [Array.getElem?_setIfInBounds_ne (by omega), Array.getElem?_setIfInBounds_self_of_lt (by simp; omega)]
        · rw [Array.getElem?_setIfInBounds_self_of_lt (by simp; omega)]
      · simp at hv'
    · rw [if_neg (fun e2 => e (inj k' k hk' hk e2))] at hv'
      obtain ⟨c0, c1, c2⟩ := h.sv k' hk' v' hv'
      rw [cell_of_row w sb _ arr ts (0, 0) ha] at c0 c1 c2
      refine ⟨?_, ?_, ?_⟩
      · rw [Array.getElem?_setIfInBounds_ne (by omega), Array.getElem?_setIfInBounds_ne (by omega), Array.getElem?_setIfInBounds_ne (by omega)]; exact c0
      · rw [Array.getElem?_setIfInBounds_ne (by omega), Array.getElem?_setIfInBounds_ne (by omega), Array.getElem?_setIfInBounds_ne (by omega)]; exact c1
      · rw [Array.getElem?_setIfInBounds_ne (by omega), Array.getElem?_setIfInBounds_ne (by omega), Array.getElem?_setIfInBounds_ne (by omega)]; exact c2
end
theorem keyB_inj : ∀ i j, i < 5 → j < 5 → keyB i = keyB j → i = j := by
  have : ∀ i, i < 5 → ∀ j, j < 5 → (keyB i).toList == (keyB j).toList → i = j := by decide +kernel
  intro i j hi hj e
  exact this i hi j hj (by rw [e]; simp)
def actC (a : ActL) : List Value := [.int .i64 a.kind, .int .i64 a.key]
def ActsR (B : Nat) (w : World) (cs : List Value) (acs : List ActL) : Prop := ∃ sv, cs = [sv] ∧ Rows w B 2 (Flat actC) sv acs
def LineV (w : World) (B : Nat) (v : Value) (p : List (List ActL)) : Prop := Rows w B 1 (ActsR B) v p
theorem ActsR.keep {w w' : World} {B : Nat} {cs : List Value} {acs : List ActL} (h : ActsR B w cs acs) (hk : ∀ j, j < B → w'.heap[j]? = w.heap[j]?) : ActsR B w' cs acs := let ⟨sv, e, r⟩ := h; ⟨sv, e, r.flat hk⟩
theorem LineV.keep {w w' : World} {B : Nat} {v : Value} {p : List (List ActL)} (h : LineV w B v p) (hk : ∀ j, j < B → w'.heap[j]? = w.heap[j]?) : LineV w' B v p := Rows.keep h hk fun _ _ _ h => h.keep hk
theorem LineV.get {w wr : World} {B t : Nat} {v : Value} {p : List (List ActL)} {acs : List ActL} (h : LineV w B v p) (hx : p[t]? = some acs) (hk : ∀ j, j < B → wr.heap[j]? = w.heap[j]?) :
    ∃ b o c sv, v = .slice (some ⟨b, o, none⟩) p.length c ∧ b < B ∧ wr.cell? ⟨b, o + t, none⟩ = some sv ∧ Rows wr B 2 (Flat actC) sv acs := by
  obtain ⟨b, o, c, cs, hv, hb, -, -, -, ⟨sv, rfl, hr⟩, hc⟩ := Rows.at_ h hx
  refine ⟨b, o, c, sv, hv, hb, ?_, hr.flat hk⟩
  have := hc 0 _ rfl
  rw [Nat.mul_one, Nat.add_zero] at this
  exact (World.cell?_of_block (hk b hb)).trans this
theorem acts_get {w wr : World} {B i : Nat} {v : Value} {acs : List ActL} {a : ActL} (h : Rows w B 2 (Flat actC) v acs) (hx : acs[i]? = some a) (hk : ∀ j, j < B → wr.heap[j]? = w.heap[j]?) :
    ∃ b o c, v = .slice (some ⟨b, o, none⟩) acs.length c ∧ b < B ∧ wr.cell? ⟨b, o + i * 2, none⟩ = some (.int .i64 a.kind) ∧ wr.cell? ⟨b, o + i * 2 + 1, none⟩ = some (.int .i64 a.key) := by
  obtain ⟨b, o, c, cs, hv, hb, -, -, -, he, hc⟩ := Rows.at_ h hx
  obtain rfl : cs = actC a := he
  exact ⟨b, o, c, hv, hb, (World.cell?_of_block (hk b hb)).trans (hc 0 _ rfl), (World.cell?_of_block (hk b hb)).trans (hc 1 _ rfl)⟩
section
variable {t k : Nat} {s : KSt} {a : ActL}
theorem actOp0 {v : HVer} (hk : k = keyOf a) (h0 : 0 = kindOf a) (hs : s (keyB k) = some v) : actOp t s a = ⟨1, v, false, vB, emB, [], 2 * t + 1⟩ := by
  unfold actOp
  rw [if_pos h0.symm, ← hk, hs]
theorem actOp0n (hk : k = keyOf a) (h0 : 0 = kindOf a) (hs : s (keyB k) = none) : actOp t s a = ⟨3, ⟨keyB k, 0, 0⟩, false, emB, hiB k, [], 2 * t + 1⟩ := by
  unfold actOp
  rw [if_pos h0.symm, ← hk, hs]
theorem actOp3 (hk : k = keyOf a) (h0 : 3 = kindOf a) : actOp t s a = ⟨3, ⟨keyB k, 0, 0⟩, false, emB, emB, seenL s k (5 - k), 2 * t + 1⟩ := by
  unfold actOp
  rw [if_neg (by omega), if_pos h0.symm, ← hk]
theorem actOp12 {kd : Nat} (hk : k = keyOf a) (h0 : kd = kindOf a) (h12 : kd = 1 ∨ kd = 2) : actOp t s a = ⟨2, ⟨keyB k, 0, 0⟩, decide (kd = 2), vB, emB, [], 0⟩ := by
  unfold actOp
  rw [if_neg (by omega), if_neg (by omega), ← hk, ← h0]
theorem actSt_other {ops : List HOpr} {o : HOpr} (h : o.kind ≠ 2) : actSt t ops s o = s := by unfold actSt; rw [if_neg h]
theorem wrLen_other {ops : List HOpr} {o : HOpr} (h : o.kind ≠ 2) : (fun k' => (wrFrom (ops ++ [o]) (keyB k') 0).length) = fun k' => (wrFrom ops (keyB k') 0).length := by
  funext k'
  rw [wrFrom_snoc, if_neg (fun e => h e.1)]
end
theorem hi_eq : ∀ k, k < 5 → keyB k ++ (⟨#[0]⟩ : ByteArray) = hiB k := by decide +kernel
theorem wrFrom_len (ops : List HOpr) (k : ByteArray) : ∀ i, (wrFrom ops k i).length ≤ ops.length := by
  induction ops with
  | nil => intro i; exact Nat.le_refl _
  | cons o r ih =>
    intro i
    unfold wrFrom
    have := ih (i + 1)
    split
    · simp; omega
    · simp; omega
theorem wrLen_write {ops : List HOpr} {o : HOpr} {k : Nat} (hk : k < 5) (h2 : o.kind = 2) (hv : o.ver.key = keyB k) {k' : Nat} (hk' : k' < 5) : (wrFrom (ops ++ [o]) (keyB k') 0).length = if k' = k then (wrFrom ops (keyB k) 0).length + 1 else (wrFrom ops (keyB k') 0).length := by
  rw [wrFrom_snoc]
  by_cases e : k' = k
  · subst e
    rw [if_pos ⟨h2, hv⟩, if_pos rfl]
    simp
  · rw [if_neg (fun h => e (keyB_inj _ _ hk' hk (h.2.symm.trans hv))), if_neg e]
theorem keep3 {w : World} {g M i a b c : Nat} (h : M ≠ g) (v0 v1 v2 : Value) : (((w.setCell ⟨g, a, none⟩ v0).setCell ⟨g, b, none⟩ v1).setCell ⟨g, c, none⟩ v2).cell? ⟨M, i, none⟩ = w.cell? ⟨M, i, none⟩ := by
  have ne : ∀ j, (⟨M, i, none⟩ : Addr) ≠ ⟨g, j, none⟩ := fun j e => h (by have := congrArg Addr.block e; simpa using this)
  have e : ∀ (w : World) (j : Nat) (v : Value), (w.setCell ⟨g, j, none⟩ v).cell? ⟨M, i, none⟩ = w.cell? ⟨M, i, none⟩ := fun w j v => World.cell?_setCell_other w _ _ v (by first | exact ne j | exact (ne j).symm)
  rw [e, e, e]
theorem chg3 {w : World} {g a b c : Nat} (v0 v1 v2 : Value) : Chg (fun j => j = g) w (((w.setCell ⟨g, a, none⟩ v0).setCell ⟨g, b, none⟩ v1).setCell ⟨g, c, none⟩ v2) := by
  have e : ∀ (w1 : World) (j : Nat) (v : Value), Chg (fun j => j = g) w w1 → Chg (fun j => j = g) w (w1.setCell ⟨g, j, none⟩ v) := fun w1 j v h => h.setCell _ _ (fun _ => rfl)
  exact e _ _ _ (e _ _ _ (e _ _ _ (Chg.refl _ _)))
theorem seenL_none {s : KSt} {k m : Nat} (h : s (keyB (k + m)) = none) : seenL s k (m + 1) = seenL s k m := by simp only [seenL, h]
theorem seenL_some {s : KSt} {k m : Nat} {v : HVer} (h : s (keyB (k + m)) = some v) : seenL s k (m + 1) = seenL s k m ++ [v] := by simp only [seenL, h]
end Go.Proofs.YtooigfkjdemnlaaGreatDoor

namespace Go.Proofs.YtooigfkjdemnlaaGreatDoor
set_option maxRecDepth 100000
open Go.RowKit Go.Lib Go.Sort Go.Shelf Xw

abbrev OpI' := OpI 56
abbrev TxI' := TxI 56 59
structure ToldI (w : World) (N : Nat) (pv : Value) (p : List (List ActL)) (t : Nat) (wr : World) : Prop where
  bel : Below N w wr
  sz : N + 5 ≤ wr.heap.size
  b1 : wr.heap[N]? = some (.cells #[pv] 24)
  b2 : wr.heap[N + 1]? = some (.cells #[.slice none 0 0] 28)
  hs : ∃ hv F C, wr.heap[N + 2]? = some (.cells #[hv] 28) ∧ RowI TxI' C wr 53 9 hv (linTo p t).1 F ∧ (∀ j, F j → N + 5 ≤ j ∧ j < wr.heap.size) ∧ (∀ j, C j → N + 5 ≤ j ∧ j < wr.heap.size) ∧ ∀ j, F j → ¬ C j
  st : StI wr (N + 3) (N + 4) 67 68 (linTo p t).2
structure ToldJ (w0 : World) (N M : Nat) (p : List (List ActL)) (t : Nat) (acs : List ActL) (i : Nat) (wr : World) : Prop where
  chg : Chg (fun j => j = N + 3 ∨ j = N + 4) w0 wr
  sz : M + 2 ≤ wr.heap.size
  xs : ∃ ov F C, wr.heap[M]? = some (.cells #[.int .i64 (2 + t % 3), .int .i64 1, .int .u64 (2 * t + 1), .int .u64 (2 * t + 2), .int .i64 (4 * t + 1), .int .i64 (4 * t + 2), .int .i64 (4 * t + 3), .int .i64 (4 * t + 4), ov] 53) ∧ RowI OpI' C wr 59 9 ov (txTo t (linTo p t).2 acs i).1 F ∧ (∀ j, F j → M + 2 ≤ j ∧ j < wr.heap.size) ∧ (∀ j, C j → M + 2 ≤ j ∧ j < wr.heap.size) ∧ ∀ j, F j → ¬ C j
  ct : CtI wr (M + 1) 69 (fun k => (wrFrom (txTo t (linTo p t).2 acs i).1 (keyB k) 0).length)
  st : StI wr (N + 3) (N + 4) 67 68 (txTo t (linTo p t).2 acs i).2
theorem linTo_zero (p : List (List ActL)) : linTo p 0 = ([], fun _ => none) := rfl
theorem toldI_start (w : World) (pv : Value) (p : List (List ActL)) (W : World) (hW : W = ((((w.alloc (.cells #[pv] 24)).alloc (.cells #[.slice none 0 0] 28)).alloc (.cells #[.slice none 0 0] 28)).alloc (.cells #[.string ⟨#[]⟩, .int .i64 0, .int .i64 0, .string ⟨#[]⟩, .int .i64 0, .int .i64 0, .string ⟨#[]⟩, .int .i64 0, .int .i64 0, .string ⟨#[]⟩, .int .i64 0, .int .i64 0, .string ⟨#[]⟩, .int .i64 0, .int .i64 0] 67)).alloc (.cells #[.bool false, .bool false, .bool false, .bool false, .bool false] 68)) :
    ToldI w w.heap.size pv p 0 W := by
  have hz : W.heap.size = w.heap.size + 5 := by rw [hW]; simp
  have t4 : W.heap[w.heap.size + 4]? = some (.cells #[.bool false, .bool false, .bool false, .bool false, .bool false] 68) := by rw [hW]; exact top_al _ _ (by simp)
  have t3 : W.heap[w.heap.size + 3]? = some (.cells #[.string ⟨#[]⟩, .int .i64 0, .int .i64 0, .string ⟨#[]⟩, .int .i64 0, .int .i64 0, .string ⟨#[]⟩, .int .i64 0, .int .i64 0, .string ⟨#[]⟩, .int .i64 0, .int .i64 0, .string ⟨#[]⟩, .int .i64 0, .int .i64 0] 67) := by
    rw [hW, heap_alloc_lt (by simp only [World.size_alloc]; omega)]; exact top_al _ _ (by simp)
  have t2 : W.heap[w.heap.size + 2]? = some (.cells #[.slice none 0 0] 28) := by
    rw [hW, heap_alloc_lt (by simp only [World.size_alloc]; omega), heap_alloc_lt (by simp only [World.size_alloc]; omega)]; exact top_al _ _ (by simp)
  have t1 : W.heap[w.heap.size + 1]? = some (.cells #[.slice none 0 0] 28) := by
    rw [hW, heap_alloc_lt (by simp only [World.size_alloc]; omega), heap_alloc_lt (by simp only [World.size_alloc]; omega), heap_alloc_lt (by simp only [World.size_alloc]; omega)]; exact top_al _ _ (by simp)
  have t0 : W.heap[w.heap.size]? = some (.cells #[pv] 24) := by
    rw [hW, heap_alloc_lt (by simp only [World.size_alloc]; omega), heap_alloc_lt (by simp only [World.size_alloc]; omega), heap_alloc_lt (by simp only [World.size_alloc]; omega), heap_alloc_lt (by simp only [World.size_alloc]; omega)]; exact top_al _ _ rfl
  refine ⟨?_, by omega, t0, t1, ⟨_, fun _ => False, fun _ => False, t2, RowI.nil, fun _ f => f.elim, fun _ f => f.elim, fun _ f => f.elim⟩, ?_⟩
  · rw [hW]
    exact ((((bel1 w _).alloc (by simp only [World.size_alloc]; omega) _).alloc (by simp only [World.size_alloc]; omega) _).alloc (by simp only [World.size_alloc]; omega) _).alloc (by simp only [World.size_alloc]; omega) _
  · refine ⟨⟨_, t3, rfl⟩, ⟨_, t4, rfl⟩, fun k hk => ?_, fun k hk v hv => by cases hv⟩
    rw [cell_of_row _ _ _ _ _ _ t4]
    have hk5 : k = 0 ∨ k = 1 ∨ k = 2 ∨ k = 3 ∨ k = 4 := by omega
    rcases hk5 with rfl | rfl | rfl | rfl | rfl <;> rfl
theorem toldJ_start (w0 : World) (N : Nat) (p : List (List ActL)) (t : Nat) (acs : List ActL) (W : World) (hst : StI w0 (N + 3) (N + 4) 67 68 (linTo p t).2) (hN : N + 5 ≤ w0.heap.size)
    (hW : W = (w0.alloc (.cells #[.int .i64 (2 + t % 3), .int .i64 1, .int .u64 (2 * t + 1), .int .u64 (2 * t + 2), .int .i64 (4 * t + 1), .int .i64 (4 * t + 2), .int .i64 (4 * t + 3), .int .i64 (4 * t + 4), .slice none 0 0] 53)).alloc (.cells #[.int .i64 0, .int .i64 0, .int .i64 0, .int .i64 0, .int .i64 0] 69)) :
    ToldJ w0 N w0.heap.size p t acs 0 W := by
  have hz : W.heap.size = w0.heap.size + 2 := by rw [hW]; simp
  have t1 : W.heap[w0.heap.size + 1]? = some (.cells #[.int .i64 0, .int .i64 0, .int .i64 0, .int .i64 0, .int .i64 0] 69) := by rw [hW]; exact top_al _ _ (by simp)
  have t0 : W.heap[w0.heap.size]? = some (.cells #[.int .i64 (2 + t % 3), .int .i64 1, .int .u64 (2 * t + 1), .int .u64 (2 * t + 2), .int .i64 (4 * t + 1), .int .i64 (4 * t + 2), .int .i64 (4 * t + 3), .int .i64 (4 * t + 4), .slice none 0 0] 53) := by
    rw [hW, heap_alloc_lt (by simp only [World.size_alloc]; omega)]; exact top_al _ _ rfl
  have hB : Below w0.heap.size w0 W := by rw [hW]; exact bel2 _ _ _
  refine ⟨((Chg.refl (fun _ => False) w0).trans (Chg.of_below hB) (fun j hj h => absurd h (by omega))).none, by omega, ⟨_, fun _ => False, fun _ => False, t0, RowI.nil, fun _ f => f.elim, fun _ f => f.elim, fun _ f => f.elim⟩, ⟨⟨_, t1, rfl⟩, fun k hk => ?_⟩, ?_⟩
  · rw [cell_of_row _ _ _ _ _ _ t1]
    have hk5 : k = 0 ∨ k = 1 ∨ k = 2 ∨ k = 3 ∨ k = 4 := by omega
    rcases hk5 with rfl | rfl | rfl | rfl | rfl <;> rfl
  · exact hst.keep (hB.block _ (by omega)) (hB.block _ (by omega))
theorem addr_ne {M g i j : Nat} (h : M ≠ g) : (⟨M, i, none⟩ : Addr) ≠ ⟨g, j, none⟩ := fun e => h (by have := congrArg Addr.block e; simpa using this)
theorem keep9 {w : World} {g M i : Nat} (h : M ≠ g) (v0 v1 v2 v3 v4 v5 v6 v7 v8 : Value) : (((((((((w.setCell ⟨g, 0, none⟩ v0).setCell ⟨g, 1, none⟩ v1).setCell ⟨g, 2, none⟩ v2).setCell ⟨g, 3, none⟩ v3).setCell ⟨g, 4, none⟩ v4).setCell ⟨g, 5, none⟩ v5).setCell ⟨g, 6, none⟩ v6).setCell ⟨g, 7, none⟩ v7).setCell ⟨g, 8, none⟩ v8).cell? ⟨M, i, none⟩ = w.cell? ⟨M, i, none⟩ := by
  have e : ∀ (w : World) (j : Nat) (v : Value), (w.setCell ⟨g, j, none⟩ v).cell? ⟨M, i, none⟩ = w.cell? ⟨M, i, none⟩ := fun w j v => World.cell?_setCell_other w _ _ v (by first | exact addr_ne h | exact (addr_ne h).symm)
  rw [e, e, e, e, e, e, e, e, e]
theorem set9 {w : World} {g : Nat} {ty : TypeId} {u0 u1 u2 u3 u4 u5 u6 u7 u8 : Value} (h : w.heap[g]? = some (.cells #[u0, u1, u2, u3, u4, u5, u6, u7, u8] ty)) (v0 v1 v2 v3 v4 v5 v6 v7 v8 : Value) :
    (((((((((w.setCell ⟨g, 0, none⟩ v0).setCell ⟨g, 1, none⟩ v1).setCell ⟨g, 2, none⟩ v2).setCell ⟨g, 3, none⟩ v3).setCell ⟨g, 4, none⟩ v4).setCell ⟨g, 5, none⟩ v5).setCell ⟨g, 6, none⟩ v6).setCell ⟨g, 7, none⟩ v7).setCell ⟨g, 8, none⟩ v8).heap[g]? = some (.cells #[v0, v1, v2, v3, v4, v5, v6, v7, v8] ty) ∧ Chg (fun j => j = g) w (((((((((w.setCell ⟨g, 0, none⟩ v0).setCell ⟨g, 1, none⟩ v1).setCell ⟨g, 2, none⟩ v2).setCell ⟨g, 3, none⟩ v3).setCell ⟨g, 4, none⟩ v4).setCell ⟨g, 5, none⟩ v5).setCell ⟨g, 6, none⟩ v6).setCell ⟨g, 7, none⟩ v7).setCell ⟨g, 8, none⟩ v8) := by
  refine ⟨?_, ?_⟩
  · have := heap_setCell_same (i := 8) (v := v8) (heap_setCell_same (i := 7) (v := v7) (heap_setCell_same (i := 6) (v := v6) (heap_setCell_same (i := 5) (v := v5) (heap_setCell_same (i := 4) (v := v4) (heap_setCell_same (i := 3) (v := v3) (heap_setCell_same (i := 2) (v := v2) (heap_setCell_same (i := 1) (v := v1) (heap_setCell_same (i := 0) (v := v0) h))))))))
    simpa using this
  · have e : ∀ (w1 : World) (j : Nat) (v : Value), Chg (fun j => j = g) w w1 → Chg (fun j => j = g) w (w1.setCell ⟨g, j, none⟩ v) := fun w1 j v h => h.setCell _ _ (fun _ => rfl)
    exact e _ _ _ (e _ _ _ (e _ _ _ (e _ _ _ (e _ _ _ (e _ _ _ (e _ _ _ (e _ _ _ (e _ _ _ (Chg.refl _ _)))))))))
structure BrR (wr : World) (N M ob : Nat) (s : KSt) (c : Nat → Nat) (o : HOpr) (wx : World) : Prop where
  chg : Chg (fun j => j = N + 3 ∨ j = N + 4 ∨ j = M + 1) wr wx
  op : ∃ sv Fs, wx.heap[ob]? = some (.cells #[.int .i64 o.kind, .string o.ver.key, .int .i64 o.ver.frm, .int .i64 o.ver.nth, .bool o.dead, .string o.value, .string o.hi, sv, .int .u64 o.at_] 59) ∧ Sl wx 56 3 sv o.seen.length (o.seen.flatMap verC) Fs ∧ ∀ j, Fs j → wr.heap.size ≤ j ∧ j < wx.heap.size
  ct : CtI wx (M + 1) 69 c
  st : StI wx (N + 3) (N + 4) 67 68 s
theorem RowI.add {α : Type} {R : (Nat → Prop) → World → List Value → α → Prop} {C' F' : Nat → Prop} {w' : World} {e : TypeId} {size : Nat} {v' : Value} {l : List α} {css : List (List Value)} {cs : List Value} {x : α}
    (h1 : Sl w' e size v' (l.length + 1) (css.flatten ++ cs) F') (h2 : css.length = l.length) (h3 : ∀ cs ∈ css, cs.length = size) (h4 : ∀ (i : Nat) (cs : List Value) (x : α), css[i]? = some cs → l[i]? = some x → R C' w' cs x) (hcs : cs.length = size) (hx : R C' w' cs x) : RowI R C' w' e size v' (l ++ [x]) F' := by
  refine ⟨css ++ [cs], by simpa using h1, by simp [h2], ?_, ?_⟩
  · intro c hc
    rcases List.mem_append.1 hc with h5 | h5
    · exact h3 c h5
    · simp at h5; subst h5; exact hcs
  · intro i c y hc hy
    by_cases hi : i < l.length
    · rw [List.getElem?_append_left (by omega)] at hc hy
      exact h4 i c y hc hy
    · have hil := (List.getElem?_eq_some_iff.1 hy).1
      simp at hil
      rw [List.getElem?_append_right (by omega)] at hc hy
      rw [show i - css.length = 0 by omega] at hc
      rw [show i - l.length = 0 by omega] at hy
      cases hc
      cases hy
      exact hx
theorem hop_info : (Tryz.prog.info? 59).map (fun i => (i.zero.map (·.cells.size), i.size, i.bytes)) = some (some 9, 9, 112) := by kernel_rfl
theorem htx_info : (Tryz.prog.info? 53).map (fun i => (i.zero.map (·.cells.size), i.size, i.bytes)) = some (some 9, 9, 88) := by kernel_rfl
theorem hver_info : (Tryz.prog.info? 56).map (fun i => (i.zero.map (·.cells.size), i.size, i.bytes)) = some (some 3, 3, 32) := by kernel_rfl
theorem toldI_next {w wo wr w9 : World} {pv : Value} {p : List (List ActL)} {t i : Nat} {acs : List ActL} {A9 HA0 OA : Option Addr} {c9 hc0 oc L : Nat} {css : List (List Value)} {F0 C0 F C F9 : Nat → Prop} {o : Obj}
    (hI : ToldI w w.heap.size pv p t wo) (hJ : ToldJ wo w.heap.size wo.heap.size p t acs i wr) (has : p[t]? = some acs) (hie : i = cut40 acs.length) (htc : t + 1 ≤ cut40 p.length) (hll : (linTo p t).1.length = t) (hL : L = (txTo t (linTo p t).2 acs i).1.length)
    (hX : RowI OpI' C wr 59 9 (.slice OA L oc) (txTo t (linTo p t).2 acs i).1 F ∧ (∀ j, F j → wo.heap.size + 2 ≤ j ∧ j < wr.heap.size) ∧ (∀ j, C j → wo.heap.size + 2 ≤ j ∧ j < wr.heap.size) ∧ ∀ j, F j → ¬ C j)
    (hK : css.length = t ∧ (∀ cs ∈ css, cs.length = 9) ∧ ∀ (i : Nat) (cs : List Value) (x : HTx), css[i]? = some cs → (linTo p t).1[i]? = some x → TxI' C0 wo cs x)
    (hH : wr.heap[w.heap.size + 2]? = some (.cells #[.slice HA0 t hc0] 28) ∧ (∀ j, F0 j → w.heap.size + 5 ≤ j ∧ j < wo.heap.size) ∧ (∀ j, C0 j → w.heap.size + 5 ≤ j ∧ j < wo.heap.size) ∧ ∀ j, F0 j → ¬ C0 j)
    (hs9 : Sl w9 53 9 (.slice A9 (t + 1) c9) (t + 1) (css.flatten ++ [.int .i64 (2 + t % 3), .int .i64 1, .int .u64 (2 * t + 1), .int .u64 (2 * t + 2), .int .i64 (4 * t + 1), .int .i64 (4 * t + 2), .int .i64 (4 * t + 3), .int .i64 (4 * t + 4), .slice OA L oc]) F9)
    (hal9 : Chg F0 wr w9) (hf9 : From F0 (wr.alloc o) w9 F9) (hg9 : w9.heap[w.heap.size + 2]? = some (.cells #[.slice HA0 t hc0] 28)) (hsz : w.heap.size + 5 ≤ wo.heap.size) (hMs : wo.heap.size + 2 ≤ wr.heap.size) :
    ∃ t1 : Nat, t1 ≤ cut40 p.length ∧ Value.int .i64 ((t : Int) + 1) = .int .i64 t1 ∧ ToldI w w.heap.size pv p t1 (w9.setCell ⟨w.heap.size + 1 + 1, 0, none⟩ (.slice A9 (t + 1) c9)) := by
  obtain ⟨x1, x2, x3, x4⟩ := hX
  obtain ⟨k2, k3, k4⟩ := hK
  obtain ⟨h0, h2, h3, h4⟩ := hH
  obtain ⟨W, hW⟩ : ∃ W, W = w9.setCell ⟨w.heap.size + 2, 0, none⟩ (.slice A9 (t + 1) c9) := ⟨_, rfl⟩
  have hset : Chg (fun j => j = w.heap.size + 2) w9 W := by rw [hW]; exact (Chg.refl _ _).setCell _ _ (fun _ => rfl)
  have hhv : W.heap[w.heap.size + 2]? = some (.cells #[.slice A9 (t + 1) c9] 28) := by rw [hW]; simpa using heap_setCell_same (i := 0) (v := .slice A9 (t + 1) c9) hg9
  have hcz := hJ.chg.size
  have hz9 := hal9.size
  have hzs := hset.size
  have hF9 : ∀ j, F9 j → F0 j ∨ (wr.heap.size < j ∧ j < w9.heap.size) := fun j hj => by
    rcases hf9 j hj with h | ⟨h, h'⟩
    · exact .inl h
    · rw [World.size_alloc] at h; exact .inr ⟨by omega, h'⟩
  have hall : Chg (fun j => w.heap.size + 2 ≤ j ∧ (j = w.heap.size + 2 ∨ j = w.heap.size + 3 ∨ j = w.heap.size + 4 ∨ F0 j)) wo W :=
    ((hJ.chg.mono (G := fun j => w.heap.size + 2 ≤ j ∧ (j = w.heap.size + 2 ∨ j = w.heap.size + 3 ∨ j = w.heap.size + 4 ∨ F0 j)) (fun j _ h => by omega)).trans hal9 (fun j _ h => by have := h2 j h; exact ⟨by omega, .inr (.inr (.inr h))⟩)).trans hset (fun j _ h => by omega)
  have hlast : Chg (fun j => j = w.heap.size + 2 ∨ F0 j) wr W := (hal9.mono (fun j _ h => .inr h)).trans hset (fun j _ h => .inl h)
  have hstep : linTo p (t + 1) = ((linTo p t).1 ++ [hdrT t (txTo t (linTo p t).2 acs i).1], (txTo t (linTo p t).2 acs i).2) := by
    simp only [linTo, has, ← hie]
  refine ⟨t + 1, htc, rfl, ?_⟩
  rw [show w.heap.size + 1 + 1 = w.heap.size + 2 from rfl, ← hW]
  refine ⟨hI.bel.trans (hall.below (fun j h => by omega) (by omega)), by omega, (hall.block _ (by omega) (fun h => by omega)).trans hI.b1, (hall.block _ (by omega) (fun h => by omega)).trans hI.b2, ⟨.slice A9 (t + 1) c9, F9, fun j => C0 j ∨ C j ∨ F j, hhv, ?_, fun j hj => ?_, fun j hj => ?_, fun j hj hc => ?_⟩, ?_⟩
  · rw [hstep]
    have hkeep0 : ∀ j, j < wo.heap.size → C0 j → W.heap[j]? = wo.heap[j]? := fun j hj hc => by
      have h5 := h3 j hc
      exact hall.block j hj (fun h => by
        rcases h.2 with h | h | h | h
        · omega
        · omega
        · omega
        · exact h4 j h hc)
    have hkeep1 : ∀ j, j < wr.heap.size → F j → W.heap[j]? = wr.heap[j]? := fun j hj hc => by
      have h5 := x2 j hc
      exact hlast.block j hj (fun h => by
        rcases h with h | h
        · omega
        · have := h2 j h; omega)
    have hkeep2 : ∀ j, j < wr.heap.size → C j → W.heap[j]? = wr.heap[j]? := fun j hj hc => by
      have h5 := x3 j hc
      exact hlast.block j hj (fun h => by
        rcases h with h | h
        · omega
        · have := h2 j h; omega)
    have hs9' := hs9.chg hset (fun j hj e => by
      rcases hF9 j hj with h | h
      · have := h2 j h; omega
      · omega)
    refine RowI.add (l := (linTo p t).1) (css := css) (by rw [hll]; exact hs9') (by rw [hll]; exact k2) k3 (fun i' cs' x' hc hx => (k4 i' cs' x' hc hx).keep hkeep0 (fun j _ hj => .inl hj)) rfl ⟨.slice OA L oc, F, rfl, x1.keep hkeep1 (fun cs x h => h.keep hkeep2 (fun j _ hj => .inr (.inl hj))), fun j hj => .inr (.inr hj)⟩
  · rcases hF9 j hj with h | h
    · have := h2 j h; omega
    · omega
  · rcases hj with h | h | h
    · have := h3 j h; omega
    · have := x3 j h; omega
    · have := x2 j h; omega
  · rcases hF9 j hj with h | h
    · have h5 := h2 j h
      rcases hc with h1 | h1 | h1
      · exact h4 j h h1
      · have := x3 j h1; omega
      · have := x2 j h1; omega
    · rcases hc with h1 | h1 | h1
      · have := h3 j h1; omega
      · have := x3 j h1; omega
      · have := x2 j h1; omega
  · rw [hstep]
    exact hJ.st.keep (hlast.block _ (by omega) (fun h => h.elim (fun h => by omega) (fun h => by have := h2 _ h; omega))) (hlast.block _ (by omega) (fun h => h.elim (fun h => by omega) (fun h => by have := h2 _ h; omega)))
end Go.Proofs.YtooigfkjdemnlaaGreatDoor

namespace Go.Proofs.YtooigfkjdemnlaaGreatDoor
section
variable {h : List HTx} {base : Nat → KSt} {st : Nat → Nat → KSt}
theorem TH.fate (T : TH h base st) {t : Nat} {x : HTx} (hx : h[t]? = some x) : x.fate = 1 := by rw [(T.hdr t x hx).1]; rfl
theorem TH.bgn (T : TH h base st) {t : Nat} {x : HTx} (hx : h[t]? = some x) : x.bgn = 2 * t + 1 := by rw [(T.hdr t x hx).1]; rfl
theorem TH.fin (T : TH h base st) {t : Nat} {x : HTx} (hx : h[t]? = some x) : x.fin = 2 * t + 2 := by rw [(T.hdr t x hx).1]; rfl
theorem TH.com (T : TH h base st) {t : Nat} : com h t = true ↔ t < h.length := by
  rw [com_iff]
  constructor
  · rintro ⟨x, hx, _⟩; exact (List.getElem?_eq_some_iff.1 hx).1
  · intro ht; exact ⟨_, List.getElem?_eq_getElem ht, T.fate (List.getElem?_eq_getElem ht)⟩
theorem TH.at_ (T : TH h base st) {t : Nat} (ht : t < h.length) : ∃ x, h[t]? = some x := ⟨_, List.getElem?_eq_getElem ht⟩
theorem TH.base_some (T : TH h base st) {k : ByteArray} {v : HVer} : ∀ {t : Nat}, t ≤ h.length → base t k = some v → ∃ u x w, u < t ∧ h[u]? = some x ∧ (writes x k).getLast? = some w ∧ w.dead = false ∧ v = ⟨k, u, (writes x k).length⟩ ∧ ∀ u' y, u < u' → u' < t → h[u']? = some y → writes y k = []
  | 0, _, h1 => by rw [T.base0] at h1; cases h1
  | t + 1, ht, h1 => by
    obtain ⟨x, hx⟩ := T.at_ (t := t) (by omega)
    rw [T.baseS t x hx] at h1
    cases hw : (writes x k).getLast? with
    | none =>
      rw [hw] at h1
      obtain ⟨u, y, w, a1, a2, a3, a4, a5, a6⟩ := T.base_some (by omega) h1
      refine ⟨u, y, w, by omega, a2, a3, a4, a5, fun u' z b1 b2 b3 => ?_⟩
      by_cases e : u' = t
      · subst e; rw [hx] at b3; cases b3; simpa using hw
      · exact a6 u' z b1 (by omega) b3
    | some w =>
      rw [hw] at h1
      simp only at h1
      cases hd : w.dead
      · rw [hd] at h1
        simp at h1
        exact ⟨t, x, w, by omega, hx, hw, hd, h1.symm, fun u' z b1 b2 b3 => by omega⟩
      · rw [hd] at h1; simp at h1
theorem TH.base_none (T : TH h base st) {k : ByteArray} : ∀ {t : Nat}, t ≤ h.length → base t k = none → (∀ u y, u < t → h[u]? = some y → writes y k = []) ∨ ∃ u x w, u < t ∧ h[u]? = some x ∧ (writes x k).getLast? = some w ∧ w.dead = true ∧ ∀ u' y, u < u' → u' < t → h[u']? = some y → writes y k = []
  | 0, _, _ => .inl fun u y hu => by omega
  | t + 1, ht, h1 => by
    obtain ⟨x, hx⟩ := T.at_ (t := t) (by omega)
    rw [T.baseS t x hx] at h1
    cases hw : (writes x k).getLast? with
    | none =>
      rw [hw] at h1
      have hxe : writes x k = [] := by simpa using hw
      rcases T.base_none (by omega) h1 with h2 | ⟨u, y, w, a1, a2, a3, a4, a6⟩
      · refine .inl fun u' z b2 b3 => ?_
        by_cases e : u' = t
        · subst e; rw [hx] at b3; cases b3; exact hxe
        · exact h2 u' z (by omega) b3
      · refine .inr ⟨u, y, w, by omega, a2, a3, a4, fun u' z b1 b2 b3 => ?_⟩
        by_cases e : u' = t
        · subst e; rw [hx] at b3; cases b3; exact hxe
        · exact a6 u' z b1 (by omega) b3
    | some w =>
      rw [hw] at h1
      simp only at h1
      cases hd : w.dead
      · rw [hd] at h1; simp at h1
      · exact .inr ⟨t, x, w, by omega, hx, hw, hd, fun u' z b1 b2 b3 => by omega⟩
theorem TH.ord (T : TH h base st) {k : ByteArray} {i : Nat} {u : Inst} (hi : (order h k)[i]? = some u) : ∃ x w, h[u.txn]? = some x ∧ (writes x k).getLast? = some w ∧ u = ⟨u.txn, x.fin, w.dead⟩ ∧ u.fin = 2 * u.txn + 2 := by
  obtain ⟨x, w, a1, a2, a3, a4⟩ := mem_order.1 (List.mem_of_getElem? hi)
  refine ⟨x, w, a1, a3, a4, ?_⟩
  rw [a4]
  exact T.fin a1
theorem TH.mono (T : TH h base st) {k : ByteArray} {i j : Nat} {u v : Inst} (hi : (order h k)[i]? = some u) (hj : (order h k)[j]? = some v) (hij : i < j) : u.txn < v.txn := by
  have h1 := order_sorted h k hi hj (by omega)
  obtain ⟨_, _, _, _, _, e1⟩ := T.ord hi
  obtain ⟨_, _, _, _, _, e2⟩ := T.ord hj
  have h2 : u.txn ≠ v.txn := fun e => by have := order_inj hi hj e; omega
  omega
def CutT (h : List HTx) (k : ByteArray) (t c : Nat) : Prop := (∀ i u, i < c → (order h k)[i]? = some u → u.txn < t) ∧ ∀ i u, c ≤ i → (order h k)[i]? = some u → t ≤ u.txn
theorem chosenUpto_all {t : Nat} {at_ : Int} {ord : List Inst} : ∀ {n : Nat} {i : Nat} {u : Inst}, chosenUpto t at_ ord n ≤ i → i < n → ord[i]? = some u → ¬ (u.txn ≠ t ∧ u.fin ≤ at_)
  | 0, i, u, _, hi, _ => by omega
  | n + 1, i, u, hc, hi, hu => by
    simp only [chosenUpto] at hc
    cases hv : ord[n]? with
    | none =>
      rw [hv] at hc
      by_cases e : i = n
      · subst e; rw [hv] at hu; cases hu
      · exact chosenUpto_all hc (by omega) hu
    | some v =>
      rw [hv] at hc
      simp only at hc
      by_cases h1 : v.txn ≠ t ∧ v.fin ≤ at_
      · rw [if_pos h1] at hc; omega
      · rw [if_neg h1] at hc
        by_cases e : i = n
        · subst e; rw [hv] at hu; cases hu; exact h1
        · exact chosenUpto_all hc (by omega) hu
theorem TH.chosen (T : TH h base st) (t : Nat) (k : ByteArray) : CutT h k t (chosen h t k (2 * t + 1)) := by
  unfold Go.Proofs.YtooigfkjdemnlaaGreatDoor.chosen
  generalize hC : chosenUpto t (2 * t + 1) (order h k) (order h k).length = c
  refine ⟨fun i u hi hu => ?_, fun i u hi hu => ?_⟩
  · cases c with
    | zero => omega
    | succ c =>
      obtain ⟨v, hv, h1, h2⟩ := chosenUpto_at hC
      obtain ⟨_, _, _, _, _, e2⟩ := T.ord hv
      have hvt : v.txn < t := by omega
      by_cases e : i = c
      · subst e; rw [hu] at hv; cases hv; exact hvt
      · have := T.mono hu hv (by omega); omega
  · have := chosenUpto_all (by rw [hC]; exact hi) (List.getElem?_eq_some_iff.1 hu).1 hu
    obtain ⟨_, _, _, _, _, e2⟩ := T.ord hu
    omega
theorem TH.stands (T : TH h base st) {t : Nat} (ht : t ≤ h.length) {k : ByteArray} {v : HVer} (hv : base t k = some v) : ∃ (s u : Nat), v.frm = u ∧ u < t ∧ standing h v = s ∧ CutT h k t (s + 1) ∧ v.key = k := by
  obtain ⟨u, x, w, a1, a2, a3, a4, rfl, a6⟩ := T.base_some ht hv
  obtain ⟨s, h1, h2⟩ := standing_at (h := h) (f := u) (y := x) (v := ⟨k, u, (writes x k).length⟩) (w := w) rfl a2 (T.com.2 (by omega)) rfl a3
  refine ⟨s, u, rfl, a1, h1, ⟨fun i y hi hy => ?_, fun i y hi hy => ?_⟩, rfl⟩
  · by_cases e : i = s
    · subst e; rw [h2] at hy; cases hy; exact a1
    · have := T.mono hy h2 (by omega)
      have : y.txn < u := this
      omega
  · have h3 : u < y.txn := T.mono h2 hy (by omega)
    refine Classical.byContradiction fun hlt => ?_
    obtain ⟨z, w', b1, b2, _⟩ := T.ord hy
    rw [a6 y.txn z h3 (by omega) b1] at b2
    cases b2
theorem TH.gone (T : TH h base st) {t : Nat} (ht : t ≤ h.length) {k : ByteArray} (hv : base t k = none) {c : Nat} {u : Inst} (hc : CutT h k t (c + 1)) (hu : (order h k)[c]? = some u) : u.dead = true := by
  obtain ⟨z, w', b1, b2, b3, _⟩ := T.ord hu
  have hut := hc.1 c u (by omega) hu
  rcases T.base_none ht hv with h2 | ⟨f, x, w, a1, a2, a3, a4, a6⟩
  · rw [h2 u.txn z hut b1] at b2; cases b2
  · obtain ⟨i, hi⟩ := writes_key a2 (T.com.2 (by omega)) a3
    have hic : i ≤ c := by
      refine Classical.byContradiction fun hn => ?_
      have : t ≤ f := hc.2 i _ (by omega) hi
      omega
    by_cases e : i = c
    · subst e; rw [hi] at hu; cases hu; exact a4
    · have h3 : f < u.txn := T.mono hi hu (by omega)
      rw [a6 u.txn z h3 hut b1] at b2; cases b2
theorem wr_val {ops : List HOpr} {k : ByteArray} : ∀ {i : Nat} {w : Wrote}, w ∈ wrFrom ops k i → ∃ o ∈ ops, o.kind = 2 ∧ o.ver.key = k ∧ w.value = o.value := by
  induction ops with
  | nil => intro i w hw; cases hw
  | cons o r ih =>
    intro i w hw
    unfold wrFrom at hw
    split at hw
    · rename_i h1
      rcases List.mem_cons.1 hw with rfl | h2
      · exact ⟨o, by simp, h1.1, h1.2, rfl⟩
      · obtain ⟨o', a, b⟩ := ih h2
        exact ⟨o', List.mem_cons_of_mem _ a, b⟩
    · obtain ⟨o', a, b⟩ := ih hw
      exact ⟨o', List.mem_cons_of_mem _ a, b⟩
theorem actOp_write {t : Nat} {s : KSt} {a : ActL} (hk : (actOp t s a).kind = 2) : (actOp t s a).value = vB ∧ (actOp t s a).ver.key = keyB (keyOf a) := by
  unfold actOp at hk ⊢
  by_cases h0 : kindOf a = 0
  · rw [if_pos h0] at hk ⊢
    cases h1 : s (keyB (keyOf a)) with
    | none => rw [h1] at hk; simp at hk
    | some v => rw [h1] at hk; simp at hk
  · rw [if_neg h0] at hk ⊢
    by_cases h3 : kindOf a = 3
    · rw [if_pos h3] at hk; simp at hk
    · rw [if_neg h3]; exact ⟨rfl, rfl⟩
theorem TH.wr (T : TH h base st) {t : Nat} {x : HTx} (hx : h[t]? = some x) {k : ByteArray} {w : Wrote} (hw : w ∈ writes x k) : w.value = vB ∧ ∃ j, j < 5 ∧ k = keyB j := by
  obtain ⟨o, ho, h1, h2, h3⟩ := wr_val hw
  obtain ⟨i, hi⟩ := List.mem_iff_getElem?.1 ho
  obtain ⟨a, rfl⟩ := T.op t x hx i o hi
  obtain ⟨e1, e2⟩ := actOp_write h1
  exact ⟨h3.trans e1, _, keyOf_lt a, h2.symm.trans e2⟩
theorem TH.keys (T : TH h base st) {k : ByteArray} (hk : k ∈ keysOf h) : ∃ j, j < 5 ∧ k = keyB j := by
  rw [mem_keysOf] at hk
  unfold allKeys at hk
  obtain ⟨x, hx, h1⟩ := List.mem_flatMap.1 hk
  obtain ⟨t, ht⟩ := List.mem_iff_getElem?.1 hx
  split at h1
  · obtain ⟨o, ho, rfl⟩ := List.mem_map.1 h1
    obtain ⟨h2, h3⟩ := List.mem_filter.1 ho
    obtain ⟨i, hi⟩ := List.mem_iff_getElem?.1 h2
    obtain ⟨a, rfl⟩ := T.op t x ht i o hi
    exact ⟨_, keyOf_lt a, (actOp_write (by simpa using h3)).2⟩
  · cases h1
theorem TH.tells (T : TH h base st) {t : Nat} {x : HTx} (hx : h[t]? = some x) {i : Nat} (hi : i ≤ x.ops.length) {k : ByteArray} {v : HVer} (hv : st t i k = some v) : v.key = k ∧ ∃ w, tellable h t x i v = some w ∧ w.value = vB := by
  rw [T.st t x hx i hi k] at hv
  cases hl : (aheadL x k i).getLast? with
  | some w =>
    rw [hl] at hv
    simp only at hv
    cases hd : w.dead
    · rw [hd] at hv
      simp at hv
      subst hv
      have hne : aheadL x k i ≠ [] := last_ne hl
      have hlen : 0 < (aheadL x k i).length := List.length_pos_iff.2 hne
      obtain ⟨r, hr⟩ := wrUpto_pre (x := x) (k := k) hi
      have hw : (writes x k)[(aheadL x k i).length - 1]? = some w := by
        rw [hr, ← aheadL_wrUpto hi, List.getElem?_append_left (by omega)]
        rw [List.getLast?_eq_getElem?] at hl
        exact hl
      refine ⟨rfl, w, ?_, (T.wr hx (List.mem_of_getElem? hw)).1⟩
      unfold tellable
      have e1 : ((t : Int)).toNat = t := by omega
      have e2 : (((aheadL x k i).length : Nat) : Int).toNat = (aheadL x k i).length := by omega
      simp only [e1, e2]
      rw [if_pos (by omega), hx]
      simp only
      rw [if_pos (by omega), hw]
      simp only
      rw [if_neg (by simp [hd]), if_neg]
      rintro ⟨_, _, h3⟩
      rcases h3 with h3 | h3 <;> exact h3 rfl
    · rw [hd] at hv; simp at hv
  | none =>
    rw [hl] at hv
    have he : aheadL x k i = [] := by simpa using hl
    have htl := (List.getElem?_eq_some_iff.1 hx).1
    obtain ⟨u, y, w, a1, a2, a3, a4, rfl, a6⟩ := T.base_some (by omega) hv
    have hne : writes y k ≠ [] := last_ne a3
    have hlen : 0 < (writes y k).length := List.length_pos_iff.2 hne
    have hw : (writes y k)[(writes y k).length - 1]? = some w := by rw [List.getLast?_eq_getElem?] at a3; exact a3
    refine ⟨rfl, w, ?_, (T.wr a2 (List.mem_of_getElem? hw)).1⟩
    unfold tellable
    have e1 : ((u : Int)).toNat = u := by omega
    have e2 : (((writes y k).length : Nat) : Int).toNat = (writes y k).length := by omega
    simp only [e1, e2, he]
    rw [if_pos (by omega), a2]
    simp only
    rw [if_pos (by omega), hw]
    simp only
    rw [if_neg (by simp [a4]), if_neg]
    rintro ⟨_, h3, _⟩
    rcases h3 with h3 | h3
    · simp at h3
    · omega
theorem TH.silent (T : TH h base st) {t : Nat} {x : HTx} (hx : h[t]? = some x) {i : Nat} (hi : i ≤ x.ops.length) {k : ByteArray} (hv : st t i k = none) {o : HOpr} (ho : o.at_ = 2 * t + 1) : okKey h t x i o k = true := by
  have htl := (List.getElem?_eq_some_iff.1 hx).1
  rw [T.st t x hx i hi k] at hv
  unfold okKey
  cases hl : (aheadL x k i).getLast? with
  | some w =>
    rw [hl] at hv
    simp only at hv ⊢
    cases hd : w.dead
    · rw [hd] at hv; simp at hv
    · rfl
  | none =>
    rw [hl] at hv
    simp only at hv ⊢
    rw [ho]
    have hC := T.chosen t k
    cases hc : Go.Proofs.YtooigfkjdemnlaaGreatDoor.chosen h t k (2 * t + 1) with
    | zero => rfl
    | succ c =>
      rw [hc] at hC
      simp only
      cases hu : (order h k)[c]? with
      | none => rfl
      | some u => exact T.gone (by omega) hv hC hu
end
end Go.Proofs.YtooigfkjdemnlaaGreatDoor
