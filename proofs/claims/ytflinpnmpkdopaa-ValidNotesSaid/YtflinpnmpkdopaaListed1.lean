/- Rows that are written in place. No walk. -/
import Derived.Test.YtflinpnmpkdopaaRef2
import Derived.Laws.BytesArg
namespace Go.Proofs.Ytflinpnmpkdopaa
set_option linter.unusedVariables false
set_option linter.unusedSimpArgs false
open Go.RowKit Go.Maps Go.ChangeMaps Xw

section
variable {w w' : World} {e : TypeId} {size n c j : Nat} {v : Value} {xs : List Value} {F : Nat → Prop} {A : Option Addr}
theorem Sl.at_ (h : Sl w e size (.slice A n c) n xs F) (hj : j < n * size) : ∃ g off, A = some ⟨g, off, none⟩ ∧ F g ∧ g < w.heap.size ∧ (∀ i, w.frozen? ⟨g, i, none⟩ = false) ∧ (Value.slice A n c).ownBlock = some g ∧
    (∀ m u, xs[m]? = some u → w.cell? ⟨g, off + m, none⟩ = some u) ∧ ∀ u, Sl (w.setCell ⟨g, off + j, none⟩ u) e size (.slice A n c) n (xs.set j u) F := by
  rcases h.2 with ⟨hv, h0⟩ | ⟨g, off, cap, cur, hv, hF, hb, hn, hm, hs, ht⟩
  · subst h0; simp at hj
  · cases hv
    refine ⟨g, off, rfl, hF, lt_of_heap hb, fun i => by simp [World.frozen?, hb], rfl, fun m u hu => ?_, fun u => ⟨by simpa using h.1, .inr ⟨g, off, c, _, rfl, hF, heap_setCell_same hb, hn, hm, by simpa using hs, ?_⟩⟩⟩
    · rw [cell_of_row w g _ _ _ _ hb]
      rw [← ht, List.getElem?_take] at hu
      split at hu
      · rw [List.getElem?_drop] at hu; simpa using hu
      · cases hu
    · rw [Array.toList_setIfInBounds, List.drop_set, if_neg (by omega), List.take_set, show off + j - off = j by omega, ht]
end
theorem add_flat (g off j : Nat) : (⟨g, off, none⟩ : Addr).add j = ⟨g, off + j, none⟩ := by unfold Addr.add; split <;> simp_all
theorem drop_set_next {α : Type} {xs ys : List α} {k : Nat} (h : xs.drop k = ys.drop k) (u : α) : (xs.set k u).drop (k + 1) = ys.drop (k + 1) := by
  rw [List.drop_set, if_pos (by omega), ← List.drop_drop, ← List.drop_drop, h]
theorem drop_set_next2 {α : Type} {xs ys : List α} {k : Nat} (h : xs.drop (k * 2) = ys.drop (k * 2)) (u v : α) : ((xs.set (k * 2) u).set (k * 2 + 1) v).drop ((k + 1) * 2) = ys.drop ((k + 1) * 2) := by
  rw [show (k + 1) * 2 = k * 2 + 1 + 1 by omega]
  exact drop_set_next (drop_set_next h u) v
theorem get_of_drop2 {α : Type} {xs ys : List α} {k : Nat} (h : xs.drop k = ys.drop k) : xs[k + 1]? = ys[k + 1]? := by
  have := congrArg (fun l => l[1]?) h
  simpa [Nat.add_comm] using this
theorem get_of_drop {α : Type} {xs ys : List α} {k : Nat} (h : xs.drop k = ys.drop k) : xs[k]? = ys[k]? := by
  have := congrArg (fun l => l[0]?) h
  simpa using this

/-- A row of ints that reads as l from k on. -/
def RowI (w : World) (v : Value) (l : List Int) (k : Nat) (F : Nat → Prop) : Prop := ∃ xs, Sl w 3 1 v l.length xs F ∧ xs.drop k = (iCells l).drop k
/-- A row of ranges that reads as rs from k on. -/
def RowR (t : TypeId) (w : World) (v : Value) (rs : List Rng) (k : Nat) (F : Nat → Prop) : Prop := ∃ xs, Sl w t 2 v rs.length xs F ∧ xs.drop (k * 2) = (rCells rs).drop (k * 2)

theorem Sl.set2 {w : World} {e : TypeId} {n c k g off : Nat} {xs : List Value} {F : Nat → Prop} (h : Sl w e 2 (.slice (some ⟨g, off, none⟩) n c) n xs F) (hk : k < n) (u v : Value) :
    Sl ((w.setCell ⟨g, off + k * 2, none⟩ u).setCell ⟨g, off + k * 2 + 1, none⟩ v) e 2 (.slice (some ⟨g, off, none⟩) n c) n ((xs.set (k * 2) u).set (k * 2 + 1) v) F := by
  obtain ⟨g', off', he, _, _, _, _, _, hset⟩ := h.at_ (j := k * 2) (by omega)
  cases he
  obtain ⟨g', off', he, _, _, _, _, _, hset2⟩ := (hset u).at_ (j := k * 2 + 1) (by omega)
  cases he
  exact hset2 v
theorem own_apart {w : World} {e e' : TypeId} {size size' n m : Nat} {va vc : Value} {xa xc : List Value} {F G : Nat → Prop} (hee : e ≠ e') (ha : Sl w e size va n xa F) (hc : Sl w e' size' vc m xc G) {j : Nat} (h1 : va.ownBlock = some j) : vc.ownBlock ≠ some j := by
  intro h2
  rcases ha.2 with ⟨hv, _⟩ | ⟨g1, off, cap, cur, rfl, _, hb, _⟩
  · rw [hv] at h1; cases h1
  · rcases hc.2 with ⟨hv, _⟩ | ⟨g2, off, cap, cur, rfl, _, hb', _⟩
    · rw [hv] at h2; cases h2
    · simp only [Value.ownBlock, Option.some.injEq] at h1 h2
      subst h1; subst h2
      rw [hb] at hb'
      simp only [Option.some.injEq, Obj.cells.injEq] at hb'
      exact hee hb'.2.1
theorem pair_step {wB wr w1 w3 : World} {e e' : TypeId} {size size' n n' m : Nat} {va v' vc : Value} {xa xs' xc : List Value} {X F3 : Nat → Prop} (hee : e ≠ e') (hA : Sl wr e size va n xa (fun j => va.ownBlock = some j)) (hC : Sl wr e' size' vc m xc (fun j => vc.ownBlock = some j))
    (ia : ∀ j, va.ownBlock = some j → X j ∨ wB.heap.size ≤ j) (hx : Chg X wB wr) (h1 : Chg (fun _ => False) wr w1) (hs3 : Sl w3 e size v' n' xs' F3) (hc3 : Chg (fun j => va.ownBlock = some j) w1 w3) (hf3 : From (fun j => va.ownBlock = some j) w1 w3 F3) :
    Sl w3 e size v' n' xs' (fun j => v'.ownBlock = some j) ∧ (∀ j, v'.ownBlock = some j → X j ∨ wB.heap.size ≤ j) ∧ Sl w3 e' size' vc m xc (fun j => vc.ownBlock = some j) ∧ Chg X wB w3 := by
  refine ⟨hs3.own, fun j hj => ?_, (hC.chg h1 (fun _ _ f => f)).chg hc3 (fun j h2 h3 => own_apart hee hA hC h3 h2), (hx.trans h1 (fun _ _ f => f.elim)).trans hc3 (fun j hj h => (ia j h).elim id (fun h => absurd hj (Nat.not_lt.2 h)))⟩
  rcases hf3 j (hs3.own_mem hj).1 with h | ⟨h, _⟩
  · exact ia j h
  · exact .inr (Nat.le_trans (Nat.le_trans hx.size h1.size) h)
def GrowPair (wB : World) (X : Nat → Prop) (n m : Nat) (va vc : Value) (wr : World) : Prop :=
  ∃ xa xc, Sl wr 3 1 va n xa (fun j => va.ownBlock = some j) ∧ (∀ j, va.ownBlock = some j → X j ∨ wB.heap.size ≤ j) ∧ Sl wr 72 2 vc m xc (fun j => vc.ownBlock = some j) ∧ (∀ j, vc.ownBlock = some j → X j ∨ wB.heap.size ≤ j) ∧ Chg X wB wr

theorem conv_byte (w : World) (k : Int) : (convert 74 9 (.slice (some ⟨w.heap.size, 0, none⟩) 1 1)).run Try.prog (w.alloc (.cells #[.int .u8 k] 5)).drew = .ok (.string (strOfNums [k])) (w.alloc (.cells #[.int .u8 k] 5)).drew := by
  refine run_convert_bytes_arg (P := Try.prog) _ 74 5 Try.underlying74 Try.underlying5 w.heap.size 0 1 1 [k] rfl (fun i hi => ?_) 9 Try.underlying9
  obtain rfl : i = 0 := by omega
  show (w.alloc (.cells #[.int .u8 k] 5)).cell? _ = _
  rw [cell_of_row _ _ _ _ _ _ (heap_alloc_new w _)]
  rfl
end Go.Proofs.Ytflinpnmpkdopaa
