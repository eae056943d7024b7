/- Own texts of this claim, joined in build order: O2, O3, O5, E6, E7. -/
import Derived.Test.YtooigfkjdemnlaaGreatDoorG02
import Derived.Test.YtooigfkjdemnlaaGreatDoorG12
import Derived.Test.YtooigfkjdemnlaaGreatDoorG03
import Derived.Sort.KeysCollected
import Derived.Test.YtooigfkjdemnlaaGreatDoorG06
import Derived.Test.YtooigfkjdemnlaaGreatDoorG05
import Derived.Deep.RegionHeld3
import Derived.Deep.Cut
import Derived.Deep.QuietTactic
import Derived.BigQuiet
set_option linter.all false
namespace Go.Proofs.YtooigfkjdemnlaaGreatDoor
open Go.Lib Go.Sort Go.Shelf

theorem kle_eq (a b : ByteArray) : kle a b = !klt b a := by
  unfold kle
  cases h : klt b a
  · cases h2 : klt a b
    · have e := klt_anti h h2
      subst e
      simp
    · unfold klt at h2; rw [h2]; simp
  · have h2 : klt a b = false := by
      cases h3 : klt a b
      · rfl
      · have := klt_trans h h3; rw [klt_irrefl] at this; cases this
    have h3 : (a.toList == b.toList) = false := by
      rw [beq_eq_false_iff_ne]
      intro e
      rw [bytes_ext e, klt_irrefl] at h
      cases h
    unfold klt at h2
    rw [h2, h3]; rfl
theorem kle_trans (a b c : ByteArray) (h1 : kle a b = true) (h2 : kle b c = true) : kle a c = true := by
  rw [kle_eq] at *
  simp only [Bool.not_eq_true'] at *
  exact klt_ntrans h2 h1
theorem kle_total (a b : ByteArray) : (kle a b || kle b a) = true := by
  rw [kle_eq, kle_eq]
  cases h : klt b a
  · simp
  · have : klt a b = false := by
      cases h3 : klt a b
      · rfl
      · have := klt_trans h h3; rw [klt_irrefl] at this; cases this
    simp [this]
theorem kle_anti {a b : ByteArray} (h1 : kle a b = true) (h2 : kle b a = true) : a = b := by
  rw [kle_eq] at *
  simp only [Bool.not_eq_true'] at *
  exact klt_anti h2 h1
instance : LawfulBEq ByteArray where
  eq_of_beq h := by rw [bytes_beq] at h; simpa using h
  rfl := by intro a; rw [bytes_beq]; simp
theorem eraseDups_sub {α : Type} [BEq α] [LawfulBEq α] : ∀ (n : Nat) (l : List α), l.length ≤ n → l.eraseDups.Sublist l ∧ l.eraseDups.Nodup := by
  intro n
  induction n with
  | zero => intro l hl; obtain rfl := List.eq_nil_of_length_eq_zero (by omega : l.length = 0); simp
  | succ n ih =>
    intro l hl
    cases l with
    | nil => simp
    | cons a r =>
      rw [List.eraseDups_cons]
      obtain ⟨h1, h2⟩ := ih (r.filter fun b => !b == a) (by have := List.length_filter_le (fun b => !b == a) r; simp only [List.length_cons] at hl; omega)
      refine ⟨(h1.trans List.filter_sublist).cons_cons a, List.nodup_cons.2 ⟨fun hm => ?_, h2⟩⟩
      rw [List.mem_eraseDups, List.mem_filter] at hm
      simp at hm
theorem keysOf_sorted (h : List HTx) : (keysOf h).Pairwise (fun a b => kle a b = true) := by
  unfold keysOf
  exact List.Pairwise.sublist (eraseDups_sub _ _ (Nat.le_refl _)).1 (List.pairwise_mergeSort kle_trans kle_total _)
theorem keysOf_nodup (h : List HTx) : (keysOf h).Nodup := (eraseDups_sub _ _ (Nat.le_refl _)).2
theorem mem_keysOf (h : List HTx) (k : ByteArray) : k ∈ keysOf h ↔ k ∈ allKeys h := by
  unfold keysOf
  rw [List.mem_eraseDups, List.mem_mergeSort]
theorem keysOf_unique {h : List HTx} {l : List ByteArray} (hn : l.Nodup) (hm : ∀ k, k ∈ l ↔ k ∈ allKeys h) : l.mergeSort kle = keysOf h := by
  refine List.Perm.eq_of_pairwise (le := fun a b => kle a b = true) (fun a b _ _ h1 h2 => kle_anti h1 h2) (List.pairwise_mergeSort kle_trans kle_total l) (keysOf_sorted h) ((List.mergeSort_perm l kle).trans ?_)
  rw [List.perm_ext_iff_of_nodup hn (keysOf_nodup h)]
  intro k
  rw [hm, mem_keysOf]
theorem wrFrom_nil (l : List HOpr) (k : ByteArray) : ∀ i, wrFrom l k i ≠ [] ↔ k ∈ (l.filter fun o => o.kind == 2).map (·.ver.key) := by
  induction l with
  | nil => intro i; simp [wrFrom]
  | cons o r ih =>
    intro i
    simp only [wrFrom, List.filter_cons]
    by_cases h1 : o.kind = 2
    · have h1' : (o.kind == 2) = true := by simp [h1]
      rw [h1']
      simp only [if_true, List.map_cons, List.mem_cons]
      by_cases h2 : o.ver.key = k
      · simp [h1, h2]
      · rw [if_neg (fun e => h2 e.2), ih]
        constructor
        · exact .inr
        · rintro (e | e)
          · exact absurd e.symm h2
          · exact e
    · have h1' : (o.kind == 2) = false := by simp [h1]
      rw [h1', if_neg (fun e => h1 e.1), ih]
      simp
theorem insFrom_mem (l : List HTx) (k : ByteArray) : ∀ i, insFrom l k i ≠ [] ↔ k ∈ allKeys l := by
  induction l with
  | nil => intro i; simp [insFrom, allKeys]
  | cons x r ih =>
    intro i
    have hr := ih (i + 1)
    unfold allKeys at hr ⊢
    simp only [List.flatMap_cons, List.mem_append, insFrom]
    have hw := wrFrom_nil x.ops k 0
    cases hf : x.fate == 1
    · simp only [Bool.false_eq_true, if_false, List.not_mem_nil, false_or]
      exact hr
    · simp only [if_true]
      cases hl : (writes x k).getLast? with
      | none =>
        have : writes x k = [] := List.getLast?_eq_none_iff.1 hl
        simp only
        rw [hr]
        constructor
        · exact .inr
        · rintro (e | e)
          · exact absurd this (hw.2 e)
          · exact e
      | some u =>
        have : writes x k ≠ [] := by intro e; rw [e] at hl; cases hl
        simp only [ne_eq, reduceCtorEq, not_false_eq_true, true_iff]
        exact .inl (hw.1 this)
theorem mem_keysOf_ins (h : List HTx) (k : ByteArray) : k ∈ keysOf h ↔ insUpto h h.length k ≠ [] := by
  rw [mem_keysOf, insUpto_all, insFrom_mem]
def kb' (k : ByteArray) : List UInt8 := k.data.toList
theorem leB_kb (a b : ByteArray) : kle a b = leB (kb' a) (kb' b) := by
  rw [kle_eq]
  unfold klt leB kb'
  rw [bytesLess_eq, ByteArray.toList_eq, ByteArray.toList_eq]
  by_cases h : b.data.toList < a.data.toList
  · have : ¬ a.data.toList ≤ b.data.toList := List.not_le.2 h
    simp [h, this]
  · have : a.data.toList ≤ b.data.toList := List.not_lt.1 h
    simp [h, this]
theorem sorted_keys {h : List HTx} {l : List ByteArray} (hn : l.Nodup) (hm : ∀ k, k ∈ l ↔ insUpto h h.length k ≠ []) {ss : List (List UInt8)} (hp : ss.Perm (l.map kb')) : ss.mergeSort (fun x y => decide (x ≤ y)) = (keysOf h).map kb' := by
  rw [mergeSort_of_perm hp, ← keysOf_unique hn (fun k => by rw [hm, ← mem_keysOf_ins, mem_keysOf])]
  exact (List.map_mergeSort (fun a _ b _ => leB_kb a b)).symm
theorem order_all (h : List HTx) (k : ByteArray) : order h k = (insUpto h h.length k).mergeSort instLe := by rw [insUpto_all]; rfl
end Go.Proofs.YtooigfkjdemnlaaGreatDoor

namespace Go.Proofs.YtooigfkjdemnlaaGreatDoor
set_option maxRecDepth 100000
open Go.RowKit Go.Lib Go.Sort Go.Shelf Xw

def recol (c : Nat → Nat) (a b q : Nat) : Nat → Nat := fun j => if a ≤ j ∧ j < b then q else c j
theorem recol_in {c : Nat → Nat} {a b q j : Nat} (h1 : a ≤ j) (h2 : j < b) : recol c a b q j = q := by unfold recol; rw [if_pos ⟨h1, h2⟩]
theorem recol_out {c : Nat → Nat} {a b q j : Nat} (h : ¬ (a ≤ j ∧ j < b)) : recol c a b q j = c j := by unfold recol; rw [if_neg h]
theorem recol_old {c : Nat → Nat} {a b q j : Nat} (hc : ∀ j, c j ≠ 0 → j < a) (h : c j ≠ 0) : recol c a b q j = c j := recol_out (fun h2 => by have := hc j h; omega)

structure OpenI (w wr : World) (lp ob : Nat) (tv : Value) (h : List HTx) (tw : Nat) (f : ByteArray → List Inst) (c : Nat → Nat) : Prop where
  led : ∃ (wv : Value) (mbs : List Nat), wr.heap[lp]? = some (.cells #[tv, wv, .map (some ob), .slice none 0 0] 84) ∧ mbs.length = tw ∧
    Sl wr 159 1 wv tw (mbs.map fun b => .map (some b)) (fun j => c j = 2) ∧
    ∀ (i : Nat) (x : HTx) (mb : Nat), h[i]? = some x → mbs[i]? = some mb → ∃ L, OwnM Value.string 129 3 wroteC wr mb (writes x) (fun j => c j = 3) L
  ord : ∃ Lo, OwnM Value.string 125 3 instC wr ob f (fun j => c j = 4) Lo
  col : ∀ j, c j ≠ 0 → w.heap.size ≤ j ∧ j < wr.heap.size
  lp1 : c lp = 1
  bel : Below w.heap.size w wr

section
variable {w wr wr' : World} {lp ob : Nat} {tv : Value} {h : List HTx} {tw : Nat} {f : ByteArray → List Inst} {c : Nat → Nat}
theorem OpenI.chg {F : Nat → Prop} (H : OpenI w wr lp ob tv h tw f c) (hc : Chg F wr wr') (hF : ∀ j, c j ≠ 0 → ¬ F j) (hw : ∀ j, F j → w.heap.size ≤ j) : OpenI w wr' lp ob tv h tw f c := by
  obtain ⟨⟨wv, mbs, h1, h2, h3, h4⟩, ⟨Lo, h5⟩, h6, h7, h8⟩ := H
  refine ⟨⟨wv, mbs, (hc.block lp (h6 lp (by omega)).2 (hF lp (by omega))).trans h1, h2, h3.chg hc (fun j hj => hF j (by omega)), fun i x mb hx hm => ?_⟩, ⟨Lo, h5.chg hc (fun j hj => hF j (by omega))⟩, fun j hj => ⟨(h6 j hj).1, Nat.lt_of_lt_of_le (h6 j hj).2 hc.size⟩, h7, ?_⟩
  · obtain ⟨L, hL⟩ := h4 i x mb hx hm
    exact ⟨L, hL.chg hc (fun j hj => hF j (by omega))⟩
  · exact h8.trans (hc.below hw h8.size)
theorem OpenI.below (H : OpenI w wr lp ob tv h tw f c) (hb : Below wr.heap.size wr wr') : OpenI w wr' lp ob tv h tw f c :=
  H.chg (Chg.of_below hb) (fun j hj hF => by have := (H.col j hj).2; omega) (fun j hj => Nat.le_trans H.bel.size hj)
theorem OpenI.ob4 (H : OpenI w wr lp ob tv h tw f c) : c ob = 4 := by
  obtain ⟨Lo, h5⟩ := H.ord
  exact h5.1
theorem OpenI.push {x : HTx} {mb b1 : Nat} {Lm : List (ByteArray × Value)} {w4 : World} {v2 : Value} {F4 : Nat → Prop} (H : OpenI w wr lp ob tv h tw f c) (hx : h[tw]? = some x)
    (hm : OwnM Value.string 129 3 wroteC wr mb (writes x) (fun j => b1 ≤ j ∧ j < wr.heap.size) Lm) (hb1 : ∀ j, c j ≠ 0 → j < b1) (hw1 : w.heap.size ≤ b1) (hle : b1 ≤ wr.heap.size)
    (wv : Value) (mbs : List Nat) (hled : wr.heap[lp]? = some (.cells #[tv, wv, .map (some ob), .slice none 0 0] 84)) (hlen : mbs.length = tw)
    (hwr : ∀ (i : Nat) (x : HTx) (mb : Nat), h[i]? = some x → mbs[i]? = some mb → ∃ L, OwnM Value.string 129 3 wroteC wr mb (writes x) (fun j => c j = 3) L)
    (hs4 : Sl w4 159 1 v2 (tw + 1) ((mbs ++ [mb]).map fun b => .map (some b)) F4) (hc4 : Chg (fun j => c j = 2) wr w4) (hf4 : ∀ j, F4 j → c j = 2 ∨ (wr.heap.size ≤ j ∧ j < w4.heap.size)) :
    OpenI w (w4.setCell ⟨lp, 1, none⟩ v2) lp ob tv h (tw + 1) f (recol (recol c b1 wr.heap.size 3) wr.heap.size w4.heap.size 2) := by
  have hsz := hc4.size
  have hlpc := H.lp1
  have hlp := H.col lp (by omega)
  have hlpb := hb1 lp (by omega)
  have hset : Chg (fun j => j = lp) w4 (w4.setCell ⟨lp, 1, none⟩ v2) := (Chg.refl _ _).setCell _ _ (fun _ => rfl)
  have hzs : (w4.setCell ⟨lp, 1, none⟩ v2).heap.size = w4.heap.size := by simp [World.setCell]
  have hcol : ∀ j, c j ≠ 0 → recol (recol c b1 wr.heap.size 3) wr.heap.size w4.heap.size 2 j = c j := fun j hj => by
    have := hb1 j hj
    rw [recol_out (by omega), recol_out (by omega)]
  have hnew : ∀ j, b1 ≤ j → j < wr.heap.size → recol (recol c b1 wr.heap.size 3) wr.heap.size w4.heap.size 2 j = 3 := fun j h1 h2 => by
    rw [recol_out (by omega), recol_in h1 h2]
  obtain ⟨Lo, h5⟩ := H.ord
  refine ⟨⟨v2, mbs ++ [mb], ?_, by simp [hlen], ?_, fun i x' mb' hx' hm' => ?_⟩, ⟨Lo, ?_⟩, fun j hj => ?_, ?_, ?_⟩
  · have := (hc4.block lp hlp.2 (by omega)).trans hled
    simpa using heap_setCell_same (i := 1) (v := v2) this
  · refine (hs4.chg hset (fun j hj e => ?_)).mono (fun j _ hj => ?_)
    · rcases hf4 j hj with h1 | h1 <;> subst e <;> omega
    · rcases hf4 j hj with h1 | h1
      · rw [hcol j (by omega)]; exact h1
      · exact recol_in h1.1 h1.2
  · rcases Nat.lt_or_ge i tw with hi | hi
    · rw [List.getElem?_append_left (by omega)] at hm'
      obtain ⟨L, hL⟩ := hwr i x' mb' hx' hm'
      refine ⟨L, ((hL.chg hc4 (fun j hj => by omega)).chg hset (fun j hj e => by subst e; omega)).mono (fun j hj => by rw [hcol j (by omega)]; exact hj)⟩
    · rw [List.getElem?_append_right (by omega), hlen] at hm'
      have hi2 : i = tw := by
        rcases Nat.eq_zero_or_pos (i - tw) with h0 | h0
        · omega
        · rw [List.getElem?_eq_none (by simp; omega)] at hm'; cases hm'
      subst hi2
      simp at hm'
      subst hm'
      rw [hx] at hx'; cases hx'
      refine ⟨Lm, ((hm.chg hc4 (fun j hj hj2 => ?_)).chg hset (fun j hj e => by subst e; omega)).mono (fun j hj => hnew j hj.1 hj.2)⟩
      have := hb1 j (by omega)
      omega
  · exact ((h5.chg hc4 (fun j hj => by omega)).chg hset (fun j hj e => by subst e; omega)).mono (fun j hj => by rw [hcol j (by omega)]; exact hj)
  · rw [hzs]
    unfold recol at hj
    split at hj
    · have := H.bel.size; omega
    · split at hj
      · omega
      · have := H.col j hj; omega
  · rw [hcol lp (by omega)]; exact hlpc
  · exact H.bel.trans ((hc4.below (fun j hj => (H.col j (by omega)).1) H.bel.size).trans (hset.below (fun j hj => by subst hj; exact hlp.1) (Nat.le_trans H.bel.size hsz)))
theorem OpenI.order {F : Nat → Prop} (H : OpenI w wr lp ob tv h tw f c) {Lo : List (ByteArray × Value)} (k : ByteArray) {w4 w5 : World} {l2 : List Inst}
    (h5 : OwnM Value.string 125 3 instC w5 ob (fun k' => if k' = k then l2 else f k') (fun j => c j = 4 ∨ (wr.heap.size ≤ j ∧ j < w4.heap.size)) Lo)
    (hc4 : Chg F wr w4) (hF : ∀ j, F j → c j = 4) (hc5 : Chg (fun j => j = ob) w4 w5) :
    OpenI w w5 lp ob tv h tw (fun k' => if k' = k then l2 else f k') (recol c wr.heap.size w4.heap.size 4) := by
  have hsz := hc4.size
  have hob := H.ob4
  have hobl := H.col ob (by omega)
  have hcol : ∀ j, c j ≠ 0 → recol c wr.heap.size w4.heap.size 4 j = c j := fun j hj => recol_out (by have := (H.col j hj).2; omega)
  have hcg : Chg (fun j => c j = 4) wr w5 := (hc4.mono (fun j _ hj => hF j hj)).trans hc5 (fun j _ hj => by subst hj; exact hob)
  obtain ⟨⟨wv, mbs, h1, h2, h3, h4⟩, _, h6, h7, h8⟩ := H
  refine ⟨⟨wv, mbs, (hcg.block lp (h6 lp (by omega)).2 (by omega)).trans h1, h2, (h3.chg hcg (fun j hj => by omega)).mono (fun j _ hj => by rw [hcol j (by omega)]; exact hj), fun i x mb hx hm => ?_⟩, ⟨Lo, h5.mono (fun j hj => ?_)⟩, fun j hj => ?_, ?_, ?_⟩
  · obtain ⟨L, hL⟩ := h4 i x mb hx hm
    exact ⟨L, (hL.chg hcg (fun j hj => by omega)).mono (fun j hj => by rw [hcol j (by omega)]; exact hj)⟩
  · rcases hj with hj | hj
    · rw [hcol j (by omega)]; exact hj
    · exact recol_in hj.1 hj.2
  · unfold recol at hj
    have hz5 := hc5.size
    split at hj
    · have := h8.size; omega
    · have := h6 j hj; omega
  · rw [hcol lp (by omega)]; exact h7
  · exact h8.trans (hcg.below (fun j hj => (h6 j (by omega)).1) h8.size)
end
def ordPart (h : List HTx) (t : Nat) (x : HTx) (rem : List (ByteArray × Value)) (k : ByteArray) : List Inst := insUpto h t k ++ if k ∈ rem.map (·.1) then [] else insOne t x k
theorem ordPart_start {h : List HTx} {t : Nat} {x : HTx} {L : List (ByteArray × Value)} (hl : ∀ k, k ∈ L.map (·.1) ↔ writes x k ≠ []) : ordPart h t x L = insUpto h t := by
  funext k
  unfold ordPart
  by_cases hk : k ∈ L.map (·.1)
  · rw [if_pos hk, List.append_nil]
  · rw [if_neg hk, insOne_nil (by
      rw [hl] at hk
      exact Classical.byContradiction fun e => hk e), List.append_nil]
theorem ordPart_done {h : List HTx} {t : Nat} {x : HTx} (hx : h[t]? = some x) : ordPart h t x [] = insUpto h (t + 1) := by
  funext k
  unfold ordPart
  rw [if_neg (by simp), insUpto_succ hx]
theorem ordPart_in {h : List HTx} {t : Nat} {x : HTx} {rem : List (ByteArray × Value)} {k : ByteArray} (hk : k ∈ rem.map (·.1)) : ordPart h t x rem k = insUpto h t k := by
  unfold ordPart
  rw [if_pos hk, List.append_nil]
theorem ordPart_del {h : List HTx} {t : Nat} {x : HTx} {rem : List (ByteArray × Value)} {k : ByteArray} : ordPart h t x (kdel rem k) = fun k' => if k' = k then insUpto h t k ++ insOne t x k else ordPart h t x rem k' := by
  funext k'
  have hm : k' ∈ (kdel rem k).map (·.1) ↔ k' ∈ rem.map (·.1) ∧ k' ≠ k := by
    unfold kdel
    simp only [List.mem_map, List.mem_filter]
    constructor
    · rintro ⟨p, ⟨h1, h2⟩, rfl⟩
      exact ⟨⟨p, h1, rfl⟩, by simpa using h2⟩
    · rintro ⟨⟨p, h1, rfl⟩, h2⟩
      exact ⟨p, ⟨h1, by simpa using h2⟩, rfl⟩
  unfold ordPart
  by_cases e : k' = k
  · subst e
    rw [if_neg (fun h => (hm.1 h).2 rfl), if_pos rfl]
  · rw [if_neg e]
    by_cases h2 : k' ∈ rem.map (·.1)
    · rw [if_pos h2, if_pos (hm.2 ⟨h2, e⟩)]
    · rw [if_neg h2, if_neg (fun h => h2 (hm.1 h).1)]
end Go.Proofs.YtooigfkjdemnlaaGreatDoor

namespace Go.Proofs.YtooigfkjdemnlaaGreatDoor
set_option maxRecDepth 100000
open Go.RowKit Go.Lib Go.Sort Go.Shelf Xw
section
variable {K : Type} [DecidableEq K] {α : Type} {enc : K → Value} {ev : α → List Value} {w : World} {e : TypeId} {size mb : Nat} {f : K → List α} {C : Nat → Prop} {L : List (K × Value)}
theorem OwnM.inPlace (h : OwnM enc e size ev w mb f C L) (k : K) (hk : k ∈ L.map (·.1)) : ∃ F : Nat → Prop, Sl w e size ((kget L k).getD (.slice none 0 0)) (f k).length ((f k).flatMap ev) F ∧ (∀ j, F j → C j ∧ j ≠ mb) ∧
    ∀ (w' : World) (l2 : List α), l2 ≠ [] → Sl w' e size ((kget L k).getD (.slice none 0 0)) l2.length (l2.flatMap ev) F → Chg F w w' → OwnM enc e size ev w' mb (fun k' => if k' = k then l2 else f k') C L := by
  obtain ⟨hm, hkm, hl, col, h1, h2, h3⟩ := h
  refine ⟨col k, h1 k, h2 k, fun w' l2 hne hs hc => ⟨hm, hkm.chg hc (fun h => (h2 _ _ h).2 rfl), fun k' => ?_, col, fun k' => ?_, h2, h3⟩⟩
  · by_cases e' : k' = k
    · subst e'; simp only [if_true]; exact ⟨fun _ => hne, fun _ => hk⟩
    · simp only [if_neg e']; exact hl k'
  · by_cases e' : k' = k
    · subst e'; simp only [if_true]; exact hs
    · simp only [if_neg e']; exact (h1 k').chg hc (fun j hj hj' => e' (h3 _ _ _ hj hj'))
end
theorem openI_turn {w wr w' : World} {lp ob : Nat} {tv : Value} {h : List HTx} {tw : Nat} {f f' : ByteArray → List Inst} {c : Nat → Nat} {Lo : List (ByteArray × Value)} (H : OpenI w wr lp ob tv h tw f c)
    (h5 : OwnM Value.string 125 3 instC w' ob f' (fun j => c j = 4) Lo) (hcg : Chg (fun j => c j = 4) wr w') : OpenI w w' lp ob tv h tw f' c := by
  obtain ⟨⟨wv, mbs, h1, h2, h3, h4⟩, _, h6, h7, h8⟩ := H
  refine ⟨⟨wv, mbs, (hcg.block lp (h6 lp (by omega)).2 (by omega)).trans h1, h2, h3.chg hcg (fun j hj => by omega), fun i x mb hx hm => ?_⟩, ⟨Lo, h5⟩, fun j hj => ?_, h7, h8.trans (hcg.below (fun j hj => (h6 j (by omega)).1) h8.size)⟩
  · obtain ⟨L, hL⟩ := h4 i x mb hx hm
    exact ⟨L, hL.chg hcg (fun j hj => by omega)⟩
  · have := h6 j hj; have := hcg.size; omega
def sortPart (h : List HTx) (rem : List (ByteArray × Value)) (k : ByteArray) : List Inst := if k ∈ rem.map (·.1) then insUpto h h.length k else order h k
theorem sortPart_start {h : List HTx} {L : List (ByteArray × Value)} (hl : ∀ k, k ∈ L.map (·.1) ↔ insUpto h h.length k ≠ []) : sortPart h L = insUpto h h.length := by
  funext k
  unfold sortPart
  by_cases hk : k ∈ L.map (·.1)
  · rw [if_pos hk]
  · rw [if_neg hk, order_all]
    have : insUpto h h.length k = [] := by
      rw [hl] at hk
      exact Classical.byContradiction fun e => hk e
    rw [this]; simp
theorem sortPart_done (h : List HTx) : sortPart h [] = order h := by funext k; unfold sortPart; rw [if_neg (by simp)]
theorem sortPart_del {h : List HTx} {rem : List (ByteArray × Value)} {k : ByteArray} : sortPart h (kdel rem k) = fun k' => if k' = k then order h k else sortPart h rem k' := by
  funext k'
  have hm : k' ∈ (kdel rem k).map (·.1) ↔ k' ∈ rem.map (·.1) ∧ k' ≠ k := by
    unfold kdel
    simp only [List.mem_map, List.mem_filter]
    constructor
    · rintro ⟨p, ⟨h1, h2⟩, rfl⟩
      exact ⟨⟨p, h1, rfl⟩, by simpa using h2⟩
    · rintro ⟨⟨p, h1, rfl⟩, h2⟩
      exact ⟨p, ⟨h1, by simpa using h2⟩, rfl⟩
  unfold sortPart
  by_cases e : k' = k
  · subst e
    rw [if_neg (fun h => (hm.1 h).2 rfl), if_pos rfl]
  · rw [if_neg e]
    by_cases h2 : k' ∈ rem.map (·.1)
    · rw [if_pos h2, if_pos (hm.2 ⟨h2, e⟩)]
    · rw [if_neg h2, if_neg (fun h => h2 (hm.1 h).1)]
theorem sortPart_in {h : List HTx} {rem : List (ByteArray × Value)} {k : ByteArray} (hk : k ∈ rem.map (·.1)) : sortPart h rem k = insUpto h h.length k := by unfold sortPart; rw [if_pos hk]

section
variable {α β : Type} {w : World} {B B' size : Nat} {v : Value}
theorem Rows.zip {enc : α → List Value} {R : World → List Value → β → Prop} {l : List α} {m : List β} (h : Rows w B size (Flat enc) v l) (hl : l.length = m.length) (hR : ∀ (i : Nat) (a : α) (x : β), l[i]? = some a → m[i]? = some x → R w (enc a) x) : Rows w B size R v m := by
  unfold Rows at h ⊢
  rcases h with ⟨h1, A, c, h2, h3⟩ | ⟨b, o, c, h1, h2, h3, h4, h4', h5⟩
  · subst h1
    have : m = [] := List.eq_nil_of_length_eq_zero (by simpa using hl.symm)
    subst this
    exact .inl ⟨rfl, A, c, h2, h3⟩
  · refine .inr ⟨b, o, c, by rw [h1, hl], h2, by rw [← hl]; exact h3, h4, fun e => h4' (List.eq_nil_of_length_eq_zero (by rw [hl, e]; rfl)), fun i x hx => ?_⟩
    have hi : i < l.length := by rw [hl]; exact (List.getElem?_eq_some_iff.1 hx).1
    obtain ⟨cs, g1, g2, g3⟩ := h5 i l[i] (List.getElem?_eq_getElem hi)
    refine ⟨cs, g1, ?_, g3⟩
    have g2' : cs = enc l[i] := g2
    rw [g2']
    exact hR i _ x (List.getElem?_eq_getElem hi) hx
theorem HistV.more {h : List HTx} (hh : HistV w B v h) (hB : B ≤ B') : HistV w B' v h :=
  Rows.more hh hB fun cs x _ ⟨ov, e, r⟩ => ⟨ov, e, r.more hB fun cs o _ ⟨sv, e', r'⟩ => ⟨sv, e', r'.flatMore hB⟩⟩
theorem sl_of_owns {e : TypeId} {base n : Nat} {xs : List Value} (h : w.ownsRow base e size v n xs) : Sl w e size v n xs (fun j => base ≤ j) := by
  obtain ⟨h1, h2 | ⟨g, cap, cur, hv, hg, hb, h3, h4, h5, h6⟩⟩ := h
  · exact ⟨h1, .inl h2⟩
  · exact ⟨h1, .inr ⟨g, 0, cap, cur, hv, hg, hb, h3, h4, by omega, by rw [List.drop_zero]; exact h6⟩⟩
end
theorem openI_led {w wr w9 : World} {B lp ob : Nat} {tv kv : Value} {h : List HTx} {c : Nat → Nat} {F : Nat → Prop} (H : OpenI w wr lp ob tv h h.length (order h) c) (hh : HistV w B tv h) (hB : B ≤ w.heap.size)
    (hc : Chg (fun j => j = lp) wr w9) (hl : ∀ wv, wr.heap[lp]? = some (.cells #[tv, wv, .map (some ob), .slice none 0 0] 84) → w9.heap[lp]? = some (.cells #[tv, wv, .map (some ob), kv] 84))
    (hk : Sl w9 9 1 kv (keysOf h).length ((keysOf h).flatMap strC) F) : Led w9 w9.heap.size lp h ∧ Below w.heap.size w w9 := by
  obtain ⟨⟨wv, mbs, h1, h2, h3, h4⟩, ⟨Lo, h5⟩, h6, h7, h8⟩ := H
  have hlp := h6 lp (by omega)
  have hbel : Below w.heap.size w w9 := h8.trans (hc.below (fun j hj => by subst hj; exact hlp.1) h8.size)
  have hob : c ob = 4 := h5.1
  refine ⟨⟨⟨tv, wv, ob, kv, _, hl wv h1, ?_, ?_, ?_, ?_⟩, Nat.lt_of_lt_of_le hlp.2 hc.size, Nat.le_refl _⟩, hbel⟩
  · exact (hh.keep (fun j hj => hbel.block j (by omega))).more (Nat.le_trans hB hbel.size)
  · have hS : Sl w9 159 1 wv mbs.length (mbs.flatMap fun b => [Value.map (some b)]) (fun j => c j = 2) := by
      have := h3.chg hc (fun j hj e => by subst e; omega)
      rw [h2]
      have e : (mbs.flatMap fun b => [Value.map (some b)]) = mbs.map fun b => Value.map (some b) := by
        clear h2 h3 h4 this
        induction mbs with
        | nil => rfl
        | cons a r ih => simp [ih]
      rw [e]; exact this
    refine Rows.zip (Rows.of_sl (enc := fun b => [Value.map (some b)]) (size := 1) (fun _ => rfl) hS (Nat.le_refl _)) h2 fun i a x ha hx => ?_
    obtain ⟨L, hL⟩ := h4 i x a hx ha
    exact ⟨a, rfl, (hL.chg hc (fun j hj e => by subst e; omega)).mapOf (fun _ => rfl) (Nat.le_refl _)⟩
  · exact (h5.chg hc (fun j hj e => by subst e; omega)).mapOf (fun _ => rfl) (Nat.le_refl _)
  · exact Rows.of_sl (enc := strC) (size := 1) (fun _ => rfl) hk (Nat.le_refl _)
theorem keys_flat (l : List ByteArray) : (l.map kb').map encStr = l.flatMap strC := by
  induction l with
  | nil => rfl
  | cons a r ih => simp only [List.map_cons, List.flatMap_cons, ih]; rfl
theorem order_ne {h : List HTx} {k : ByteArray} (hk : insUpto h h.length k ≠ []) : order h k ≠ [] := by
  rw [order_all]
  intro e
  have := congrArg List.length e
  rw [List.length_mergeSort] at this
  exact hk (List.eq_nil_of_length_eq_zero (by simpa using this))
theorem order_len (h : List HTx) (k : ByteArray) : (order h k).length = (insUpto h h.length k).length := by rw [order_all, List.length_mergeSort]
theorem Led.more {w : World} {B B' lp : Nat} {h : List HTx} (hh : Led w B lp h) (hB : B ≤ B') (hle : B' ≤ w.heap.size) : Led w B' lp h := by
  obtain ⟨⟨tv, wv, ob, kv, ty, h1, h2, h3, h4, h5⟩, hl, _⟩ := hh
  refine ⟨⟨tv, wv, ob, kv, ty, h1, h2.more hB, Rows.more h3 hB fun cs x _ ⟨mb, e, r⟩ => ⟨mb, e, ?_⟩, ?_, h5.flatMore hB⟩, Nat.lt_of_lt_of_le hl hB, hle⟩
  · obtain ⟨hlt, L, g1, g2, g3⟩ := r
    exact ⟨Nat.lt_of_lt_of_le hlt hB, L, g1, fun k v hm => ⟨(g2 k v hm).1, (g2 k v hm).2.flatMore hB⟩, g3⟩
  · obtain ⟨hlt, L, g1, g2, g3⟩ := h4
    exact ⟨Nat.lt_of_lt_of_le hlt hB, L, g1, fun k v hm => ⟨(g2 k v hm).1, (g2 k v hm).2.flatMore hB⟩, g3⟩
theorem nodup_len {α : Type} [DecidableEq α] : ∀ (l m : List α), l.Nodup → (∀ x ∈ l, x ∈ m) → l.length ≤ m.length
  | [], m, _, _ => Nat.zero_le _
  | a :: r, m, hn, hs => by
    have ha := hs a (List.mem_cons_self ..)
    have := nodup_len r (m.erase a) (List.nodup_cons.1 hn).2 (fun x hx => by
      have hxa : x ≠ a := by
        rintro rfl
        exact (List.nodup_cons.1 hn).1 hx
      rw [List.mem_erase_of_ne hxa]
      exact hs x (List.mem_cons_of_mem _ hx))
    rw [List.length_erase_of_mem ha] at this
    have := List.length_pos_of_mem ha
    simp only [List.length_cons]
    omega
theorem allKeys_len (h : List HTx) (hops : ∀ x ∈ h, x.ops.length ≤ 1048576) : (allKeys h).length ≤ h.length * 1048576 := by
  induction h with
  | nil => simp [allKeys]
  | cons x r ih =>
    have h1 := ih (fun y hy => hops y (List.mem_cons_of_mem _ hy))
    have h2 := hops x (List.mem_cons_self ..)
    unfold allKeys at h1 ⊢
    rw [List.flatMap_cons, List.length_append, List.length_cons]
    have : (if (x.fate == 1) = true then List.map (fun o => o.ver.key) (List.filter (fun o => o.kind == 2) x.ops) else []).length ≤ x.ops.length := by
      split
      · rw [List.length_map]; exact List.length_filter_le _ _
      · simp
    rw [Nat.succ_mul]
    omega
theorem keys_bound {h : List HTx} {L : List (ByteArray × Value)} (hn : h.length ≤ 256) (hops : ∀ x ∈ h, x.ops.length ≤ 1048576) (hnd : (L.map (·.1)).Nodup) (hm : ∀ k, k ∈ L.map (·.1) ↔ insUpto h h.length k ≠ []) : L.length ≤ 268435456 := by
  have h1 := nodup_len (L.map (·.1)) (allKeys h) hnd (fun k hk => by rw [← mem_keysOf, mem_keysOf_ins]; exact (hm k).1 hk)
  have h2 := allKeys_len h hops
  rw [List.length_map] at h1
  have h3 : h.length * 1048576 ≤ 256 * 1048576 := Nat.mul_le_mul_right _ hn
  omega
end Go.Proofs.YtooigfkjdemnlaaGreatDoor

namespace Go.Proofs.YtooigfkjdemnlaaGreatDoor
set_option maxRecDepth 100000
open Go.RowKit Go.Lib Go.Sort Go.Shelf Xw

structure Gr (w : World) (B lp gb : Nat) (h : List HTx) (a2 : Value) (l : List Edge) (F : Nat → Prop) : Prop where
  led : Led w B lp h
  blk : ∃ ev, w.heap[gb]? = some (.cells #[.pointer (some ⟨lp, 0, none⟩), ev, a2] 95) ∧ Sl w 66 4 ev l.length (l.flatMap edgeC) F
  own : ∀ j, F j → B ≤ j ∧ j ≠ gb ∧ j < w.heap.size
  gbB : B ≤ gb
def GrTo (w w' : World) (B lp gb : Nat) (h : List HTx) (a2 : Value) (F : Nat → Prop) (l' : List Edge) : Prop :=
  ∃ F', Gr w' B lp gb h a2 l' F' ∧ Chg (fun j => F j ∨ j = gb) w w' ∧ From F w w' F'
section
variable {w w' w1 : World} {B lp gb : Nat} {h : List HTx} {a2 : Value} {l l' l1 : List Edge} {F F' : Nat → Prop}
theorem Gr.below (H : Gr w B lp gb h a2 l F) (hb : Below w.heap.size w w') : Gr w' B lp gb h a2 l F := by
  obtain ⟨hl, ⟨ev, h1, h2⟩, ho, hg⟩ := H
  exact ⟨hl.below hb hl.le, ⟨ev, (hb.block gb (lt_of_heap h1)).trans h1, h2.keep (fun j hj _ => hb.block j hj)⟩, fun j hj => ⟨(ho j hj).1, (ho j hj).2.1, Nat.lt_of_lt_of_le (ho j hj).2.2 hb.size⟩, hg⟩
theorem GrTo.refl (H : Gr w B lp gb h a2 l F) : GrTo w w B lp gb h a2 F l := ⟨F, H, Chg.refl _ _, From.refl _ _ _⟩
theorem GrTo.trans (H : GrTo w w1 B lp gb h a2 F l1) (hgl : gb < w.heap.size) (hB : B ≤ w.heap.size) (H2 : ∀ F1, Gr w1 B lp gb h a2 l1 F1 → GrTo w1 w' B lp gb h a2 F1 l') : GrTo w w' B lp gb h a2 F l' := by
  obtain ⟨F1, h1, h2, h3⟩ := H
  obtain ⟨F2, g1, g2, g3⟩ := H2 F1 h1
  refine ⟨F2, g1, h2.trans g2 (fun j hj h => ?_), h3.trans g3 h2.size g2.size⟩
  rcases h with h | h
  · rcases h3 j h with h4 | h4
    · exact .inl h4
    · omega
  · exact .inr h
theorem GrTo.after {F1 : Nat → Prop} (h2 : Chg (fun j => F j ∨ j = gb) w w1) (h3 : From F w w1 F1) (hgl : gb < w.heap.size) (H2 : GrTo w1 w' B lp gb h a2 F1 l') : GrTo w w' B lp gb h a2 F l' := by
  obtain ⟨F2, g1, g2, g3⟩ := H2
  refine ⟨F2, g1, h2.trans g2 (fun j hj h => ?_), h3.trans g3 h2.size g2.size⟩
  rcases h with h | h
  · rcases h3 j h with h4 | h4
    · exact .inl h4
    · omega
  · exact .inr h
theorem GrTo.below_left (hb : Below w.heap.size w w1) (H : GrTo w1 w' B lp gb h a2 F l') : GrTo w w' B lp gb h a2 F l' := by
  obtain ⟨F1, h1, h2, h3⟩ := H
  refine ⟨F1, h1, ((Chg.of_below hb).mono (G := fun j => F j ∨ j = gb) (fun j hj h => absurd h (by omega))).trans h2 (fun _ _ h => h), fun j hj => ?_⟩
  rcases h3 j hj with h4 | ⟨h4, h5⟩
  · exact .inl h4
  · exact .inr ⟨Nat.le_trans hb.size h4, h5⟩
theorem GrTo.below_right (H : GrTo w w1 B lp gb h a2 F l') (hb : Below w1.heap.size w1 w') : GrTo w w' B lp gb h a2 F l' := by
  obtain ⟨F1, h1, h2, h3⟩ := H
  exact ⟨F1, h1.below hb, h2.trans (Chg.of_below hb) (fun j hj h => by have := h2.size; omega), fun j hj => (h3 j hj).imp id fun h => ⟨h.1, Nat.lt_of_lt_of_le h.2 hb.size⟩⟩
theorem Gr.gbl (H : Gr w B lp gb h a2 l F) : gb < w.heap.size := by
  obtain ⟨_, ⟨ev, h1, _⟩, _, _⟩ := H
  exact lt_of_heap h1
theorem addG_ (H : Gr w B lp gb h a2 l F) (f t k : Int) (s : ByteArray) (hb : l.length < 68719476736) :
    Calls Tryz.prog 50 #[.pointer (some ⟨gb, 0, none⟩), .int .i64 f, .int .i64 t, .int .i64 k, .string s] w fun x w' => x = .returned (.tuple #[]) ∧ GrTo w w' B lp gb h a2 F (addE l f t k s) := by
  obtain ⟨hl, ⟨ev, h1, h2⟩, ho, hg⟩ := H
  refine (add_ f t k s h1 h2 (fun j hj => (ho j hj).2.1) hb).mono ?_
  rintro x w' ⟨rfl, ev', F', g1, g2, g3, g4⟩
  have hgl := lt_of_heap h1
  refine ⟨rfl, F', ⟨hl.chg g3 (fun j hj h => ?_), ⟨ev', g1, g2⟩, fun j hj => ?_, hg⟩, g3, g4⟩
  · rcases h with h | h
    · have := (ho j h).1; omega
    · omega
  · rcases g4 j hj with h | h
    · have := ho j h; have := g3.size; omega
    · have := hl.le; omega
end
theorem standing_ge (h : List HTx) (v : HVer) : -1 ≤ standing h v := by
  unfold standing
  split
  · split
    · unfold idxI; split <;> omega
    · omega
  · omega
theorem standing_lt (h : List HTx) (v : HVer) : standing h v < (order h v.key).length := by
  unfold standing
  split
  · split
    · unfold idxI
      split
      · rename_i i hi
        have := (List.findIdx?_eq_some_iff_findIdx_eq.1 hi).1
        omega
      · omega
    · omega
  · omega
end Go.Proofs.YtooigfkjdemnlaaGreatDoor

namespace Go.Proofs.YtooigfkjdemnlaaGreatDoor
set_option maxRecDepth 100000
open Go.RowKit Go.Lib Go.Sort Go.Shelf Xw

set_option maxHeartbeats 8000000 in
theorem item0_ {w : World} {B lp gb : Nat} {h : List HTx} {a2 : Value} {l : List Edge} {F : Nat → Prop} (H : Gr w B lp gb h a2 l F) (t : Nat) (k : ByteArray) (nn : Int) (u : Nat) (y : HTx) (hy : h[u]? = some y) (hb : l.length + 2 < 68719476736) (hn : h.length ≤ 256) :
    Calls Tryz.prog 51 #[.pointer (some ⟨gb, 0, none⟩), .int .i64 t, .agg #[.string k, .int .i64 u, .int .i64 nn]] w fun e w' => e = .returned (.tuple #[]) ∧ GrTo w w' B lp gb h a2 F (itemE h t ⟨k, u, nn⟩ l) := by
  obtain ⟨W1, hW1⟩ : ∃ W1, W1 = w.alloc (.cells #[.string k, .int .i64 u, .int .i64 nn] 56) := ⟨_, rfl⟩
  have hB1 : Below w.heap.size w W1 := by rw [hW1]; exact bel1 _ _
  have hz1 : W1.heap.size = w.heap.size + 1 := by rw [hW1]; simp
  have hbx : W1.heap[w.heap.size]? = some (.cells #[.string k, .int .i64 u, .int .i64 nn] 56) := by rw [hW1]; exact heap_alloc_new _ _
  have H1 := H.below hB1
  have hgl := H1.gbl
  have hgl0 := H.gbl
  have hle := H.led.le
  have hlp := H.led.lt
  obtain ⟨hl1, ⟨ev, hg1, _⟩, _, _⟩ := H1
  have g0 := (cells_of hg1).1 0
  have hw1 : w.heap.size < W1.heap.size := by omega
  obtain ⟨v0, v1, v2⟩ : W1.cell? ⟨w.heap.size, 0, none⟩ = some (.string k) ∧ W1.cell? ⟨w.heap.size, 1, none⟩ = some (.int .i64 u) ∧ W1.cell? ⟨w.heap.size, 2, none⟩ = some (.int .i64 nn) := ⟨(cells_of hbx).1 0, (cells_of hbx).1 1, (cells_of hbx).1 2⟩
  by_cases h1 : (u : Int) = t
  · have he : ((u : Int) == (t : Int)) = true := by simp [h1]
    have HI : Hid (itemE h t ⟨k, u, nn⟩ l = l) := Lib.hid (by unfold itemE; rw [if_pos (.inl h1)])
    have HW1 := Lib.hid hW1
    clear h1 hW1 hg1 hbx hl1
    go_enter Tryz.func51, Tryz.ntmps51
    go_upto_region 1 with (fail)
    rw [← HW1.out]
    go_wp2_with (with_reducible refine wp_region_free (by kernel_rfl) (fun _ _ => ?_))
    refine bodyPost_ret (results_none rfl _ _ _) rfl ?_
    rw [HI.out]
    exact ⟨rfl, (GrTo.refl H).below_right hB1.drew⟩
  · have he : ((u : Int) == (t : Int)) = false := by simp [h1]
    have hyh := Lib.hid hy
    have hlD : Led W1.drew B lp h := hl1.drew
    by_cases h2 : com h u = true
    · have HC : Hid (com h u = true) := Lib.hid h2
      obtain ⟨S, hS⟩ : ∃ S, S = standing h ⟨k, u, nn⟩ := ⟨_, rfl⟩
      have HI : Hid (itemE h t ⟨k, u, nn⟩ l = match (order h k)[(S + 1).toNat]? with
        | some u' => if 0 ≤ S then addE (addE l u t 2 k) t u'.txn 4 k else addE l u t 2 k
        | none => addE l u t 2 k) := Lib.hid (by rw [hS]; unfold itemE; exact if_neg (by rintro (h | h); exact h1 h; rw [show ((u : Int).toNat) = u from rfl, h2] at h; cases h))
      have HG1 := Lib.hid (H.below hB1.drew)
      have HW1 := Lib.hid hW1
      have HBX := Lib.hid hbx
      have hs0 : -1 ≤ S := by rw [hS]; exact standing_ge h ⟨k, u, nn⟩
      have hs1 : S < (order h k).length := by rw [hS]; exact standing_lt h ⟨k, u, nn⟩
      have hol := insUpto_len h h.length k
      rw [← order_len] at hol
      have HS := Lib.hid hS
      clear h1 h2 hW1 hg1 hbx hy hS
      go_enter Tryz.func51, Tryz.ntmps51
      go_upto_region 1 with (fail)
      rw [← HW1.out]
      go_upto_region 4 with (first
        | (with_reducible refine wp_region_free (by kernel_rfl) (fun _ _ => ?_))
        | (go_at_call 20; refine (committed_ hlD u y hyh.out).mono ?_; rw [HC.out]; rintro e w1 ⟨rfl, rfl⟩)
        | (go_at_call 50; refine (addG_ HG1.out u t 2 k (by omega)).mono ?_
           rintro e w2 ⟨rfl, hto⟩
           have HTO := Lib.hid hto
           obtain ⟨F2, H2, hc2, hf2⟩ := hto
           have hz2 : W1.heap.size ≤ w2.heap.size := hc2.size
           have hbx2 := (hc2.block w.heap.size hw1 (fun h => by
             rcases h with h | h
             · have := (H.own _ h).2.2; omega
             · omega)).trans HBX.out
           obtain ⟨ev2, hg2, _⟩ := H2.blk
           have g2 := (cells_of hg2).1 0
           obtain ⟨x0, x1, x2⟩ : w2.cell? ⟨w.heap.size, 0, none⟩ = some (.string k) ∧ w2.cell? ⟨w.heap.size, 1, none⟩ = some (.int .i64 u) ∧ w2.cell? ⟨w.heap.size, 2, none⟩ = some (.int .i64 nn) := ⟨(cells_of hbx2).1 0, (cells_of hbx2).1 1, (cells_of hbx2).1 2⟩
           have HBX2 := Lib.hid hbx2
           clear hbx2 hg2 v0 v1 v2 g0)
        | (go_at_call 94; refine (standing_ H2.led.drew ⟨k, u, nn⟩ u y hyh.out rfl).mono ?_
           rw [← HS.out]
           rintro e w3 ⟨rfl, hB3'⟩
           have hB3 : Below w2.heap.size w2 w3 := (Below.refl _ _).drew.trans hB3'
           clear hB3'
           have H3 := H2.below hB3
           have hz3 : w2.heap.size ≤ w3.heap.size := hB3.size
           have hbx3 := (hB3.block w.heap.size (Nat.lt_of_lt_of_le hw1 hz2)).trans HBX2.out
           obtain ⟨ev3, hg3, _⟩ := H3.blk
           have g3 := (cells_of hg3).1 0
           obtain ⟨y0, y1, y2⟩ : w3.cell? ⟨w.heap.size, 0, none⟩ = some (.string k) ∧ w3.cell? ⟨w.heap.size, 1, none⟩ = some (.int .i64 u) ∧ w3.cell? ⟨w.heap.size, 2, none⟩ = some (.int .i64 nn) := ⟨(cells_of hbx3).1 0, (cells_of hbx3).1 1, (cells_of hbx3).1 2⟩
           have HBX3 := Lib.hid hbx3
           clear hbx3 hg3 x0 x1 x2 g2))
      obtain ⟨tv, wv, ob, kv, ty, l1, l2, l3, l4, l5⟩ := H3.led.ex
      have q2 := (cells_of l1).1 2
      obtain ⟨L, hL, hlk⟩ := l4.look
      have hlkk := hlk k
      obtain ⟨V, hV⟩ : ∃ V, V = (kget L k).getD (.slice none 0 0) := ⟨_, rfl⟩
      rw [← hV] at hlkk
      obtain ⟨OA, oc, rfl, hoc1, hoc2⟩ := hlkk.shape
      simp only [maxLen] at hoc2
      have hlp3 : lp < w3.heap.size := by omega
      have lk : ∀ W : World, W.heap[ob]? = w3.heap[ob]? → (Instr.lookup 81 (.map (some ob)) (.string k) false).run Tryz.prog W = .ok (.slice OA (order h k).length oc) W := fun W e => by
        have := run_lookup_kmap kString Tryz.underlying81 (zero_slice_inst W) (hL.keep e) k false
        rw [hV]
        exact this
      have HV := Lib.hid hV; clear hV
      have lk0 := lk w3 rfl
      have lk1 := lk w3.drew rfl
      have lkN := fun n => lk (w3.drewN n) rfl
      have LK := Lib.hid lk
      have hBw3 : Below W1.heap.size W1 w3 → True := fun _ => trivial
      have HT3 : Hid (GrTo w w3 B lp gb h a2 F (addE l u t 2 k)) := Lib.hid (GrTo.below_left hB1.drew (GrTo.below_right HTO.out hB3))
      by_cases hS0 : 0 ≤ S
      · obtain ⟨m, hm⟩ : ∃ m : Nat, (m : Int) = S + 1 := ⟨(S + 1).toNat, by omega⟩
        have hmt : (S + 1).toNat = m := by omega
        have hSw : IntKind.i64.wrap (S + 1) = m := by rw [hm, IntKind.wrap_i64]; omega
        have hd0 : decide (0 ≤ S) = true := by simp [hS0]
        have hd1 : decide (S ≥ 0) = true := hd0
        by_cases hS1 : m < (order h k).length
        · obtain ⟨x, hx⟩ : ∃ x, (order h k)[m]? = some x := ⟨_, List.getElem?_eq_getElem hS1⟩
          have HI2 : Hid (itemE h t ⟨k, u, nn⟩ l = addE (addE l u t 2 k) t x.txn 4 k) := Lib.hid (by
            rw [HI.out, hmt, hx]
            exact if_pos hS0)
          obtain ⟨ob2, oo, oc2, hoe, hob2, z0, z1, z2⟩ := hlkk.get3 hx (wr := w3) (fun _ _ => rfl) rfl
          cases hoe
          have hob3 : ob2 < w3.heap.size := by omega
          have hS1i : (m : Int) < (order h k).length := by omega
          have hd2 : decide ((m : Int) < (order h k).length) = true := by simp [hS1]
          have H3l := addE_len l u t 2 k
          have H3G := Lib.hid H3
          have hobB := l4.1
          obtain ⟨nq0, hnq0⟩ : ∃ n : Nat, n = 0 := ⟨0, rfl⟩
          clear lk l1 l2 l3 l4 l5 hs0 hs1 hlk hL hlkk hS0 hx hm hmt z1 z2
          go_quiet (fail)
          go_wp2
          have H5 := Lib.hid (H3G.out.below (w' := (w3.drewN nq).drew) ⟨rfl, rfl, rfl, Nat.le_refl _, fun _ _ => rfl⟩)
          go_region_held3 (fun w' => w'.cell? ⟨w.heap.size, 0, none⟩ = some (.string k) ∧ w'.cell? ⟨gb, 0, none⟩ = some (.pointer (some ⟨lp, 0, none⟩)) ∧ w'.cell? ⟨lp, 2, none⟩ = some (.map (some ob)) ∧ (Instr.lookup 81 (.map (some ob)) (.string k) false).run Tryz.prog w' = .ok (.slice (some ⟨ob2, oo, none⟩) (order h k).length oc) w' ∧ w'.cell? ⟨ob2, oo + m * 3, none⟩ = some (.int .i64 x.txn)) (first | exact ⟨y0, g3, q2, LK.out _ rfl, z0⟩ | exact ⟨r0, r1, r2, r3, r4⟩)
            (first
              | (go_at_call 50; refine (addG_ H5.out t x.txn 4 k (by omega)).mono ?_
                 rintro e w5 ⟨rfl, hto5⟩
                 have HT5 := Lib.hid hto5
                 obtain ⟨F5, H6, hc5, hf5⟩ := hto5
                 have hB5 : ∀ j, j < B → w5.heap[j]? = w3.heap[j]? := fun j hj => hc5.block j (by show _ < w3.heap.size; omega) (fun h => by
                   rcases h with h | h
                   · have := (H3G.out.own j h).1; omega
                   · have := H3G.out.gbB; omega)
                 have hx5 : w5.heap[w.heap.size]? = w3.heap[w.heap.size]? := hc5.block _ (by show _ < w3.heap.size; omega) (fun h => by
                   rcases h with h | h
                   · rcases hf2 _ h with h6 | ⟨h6, _⟩
                     · have := (H.own _ h6).2.2; omega
                     · have h7 : W1.heap.size ≤ w.heap.size := h6
                       omega
                   · omega)
                 obtain ⟨ev5, hg5, _⟩ := H6.blk
                 have r1 := (cells_of hg5).1 0
                 have r0 := (World.cell?_of_block (a := ⟨w.heap.size, 0, none⟩) hx5).trans y0
                 have r2 := (World.cell?_of_block (a := ⟨lp, 2, none⟩) (hB5 lp hlp)).trans q2
                 have r3 := LK.out w5 (hB5 ob hobB)
                 have r4 := (World.cell?_of_block (a := ⟨ob2, oo + m * 3, none⟩) (hB5 ob2 hob2)).trans z0
                 clear hg5))
          go_wp2
          go_end0
          rw [HI2.out]
          exact ⟨rfl, GrTo.below_left hB1.drew (GrTo.after hc2 hf2 hgl (GrTo.below_left (show Below w2.heap.size w2 (w3.drewN nq).drew from hB3.trans ⟨rfl, rfl, rfl, Nat.le_refl _, fun _ _ => rfl⟩) HT5.out))⟩
        · have HI2 : Hid (itemE h t ⟨k, u, nn⟩ l = addE l u t 2 k) := Lib.hid (by
            rw [HI.out, hmt, List.getElem?_eq_none (by omega)])
          have hd2 : decide ((m : Int) < (order h k).length) = false := by simp; omega
          have hd3 : decide (m < (order h k).length) = false := by simp; omega
          have hd4 : ¬ (m : Int) < (order h k).length := by omega
          clear lk l1 l2 l3 l4 l5 hs0 hs1 hlk hL hlkk hS0 hS1 hm hmt
          go_quiet (fail)
          go_wp2
          go_end0
          rw [HI2.out]
          exact ⟨rfl, HT3.out.below_right ⟨rfl, rfl, rfl, Nat.le_refl _, fun _ _ => rfl⟩⟩
      · have HI2 : Hid (itemE h t ⟨k, u, nn⟩ l = addE l u t 2 k) := Lib.hid (by
          rw [HI.out]
          cases (order h k)[(S + 1).toNat]? with
          | none => rfl
          | some u' => exact if_neg hS0)
        have hd0 : decide (0 ≤ S) = false := by simp [hS0]
        have hd1 : decide (S ≥ 0) = false := hd0
        clear lk l1 l2 l3 l4 l5 hs0 hs1 hlk hL hlkk hS0
        go_quiet (fail)
        go_wp2
        go_end0
        rw [HI2.out]
        exact ⟨rfl, HT3.out.below_right ⟨rfl, rfl, rfl, Nat.le_refl _, fun _ _ => rfl⟩⟩
    · have hcf : com h u = false := by cases hh : com h u; rfl; exact absurd hh h2
      have HC : Hid (com h u = false) := Lib.hid hcf
      have HI : Hid (itemE h t ⟨k, u, nn⟩ l = l) := Lib.hid (by unfold itemE; rw [if_pos (.inr hcf)])
      have HW1 := Lib.hid hW1
      clear h1 h2 hW1 hg1 hbx hy hcf
      go_enter Tryz.func51, Tryz.ntmps51
      go_upto_region 1 with (fail)
      rw [← HW1.out]
      go_wp2_with (first
        | (with_reducible refine wp_region_free (by kernel_rfl) (fun _ _ => ?_))
        | (go_at_call 20; refine (committed_ hlD u y hyh.out).mono ?_; rw [HC.out]; rintro e w1 ⟨rfl, rfl⟩))
      refine bodyPost_ret (results_none rfl _ _ _) rfl ?_
      rw [HI.out]
      exact ⟨rfl, (GrTo.refl H).below_right hB1.drew⟩
theorem item_ {w : World} {B lp gb : Nat} {h : List HTx} {a2 : Value} {l : List Edge} {F : Nat → Prop} (H : Gr w B lp gb h a2 l F) (t : Nat) (v : HVer) (hv : ∃ y, (if 0 ≤ v.frm then h[v.frm.toNat]? else none) = some y) (hb : l.length + 2 < 68719476736) (hn : h.length ≤ 256) :
    Calls Tryz.prog 51 #[.pointer (some ⟨gb, 0, none⟩), .int .i64 t, .agg #[.string v.key, .int .i64 v.frm, .int .i64 v.nth]] w fun e w' => e = .returned (.tuple #[]) ∧ GrTo w w' B lp gb h a2 F (itemE h t v l) := by
  obtain ⟨k, f, nn⟩ := v
  obtain ⟨y, hy⟩ := hv
  by_cases h0 : 0 ≤ f
  · obtain ⟨u, rfl⟩ : ∃ u : Nat, f = u := ⟨f.toNat, by omega⟩
    simp only [h0, if_true] at hy
    exact item0_ H t k nn u y hy hb hn
  · simp only [h0, if_false] at hy
    cases hy
end Go.Proofs.YtooigfkjdemnlaaGreatDoor
