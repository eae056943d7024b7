/- What a call may change: all blocks but those of F are as they were. No program in sight. -/
import Derived.Below
import Derived.Laws.OwnMore
import Derived.Deep.AppendLies
import Derived.Deep.Draws
import Derived.Laws.Rows
import Derived.Maps.AppendAt
import Derived.RegionTactic
import Derived.OwnWalk
import Derived.WalkSmall
namespace Go.Proofs.Ytflinpnmpkdopaa
set_option linter.unusedVariables false
set_option linter.unusedSimpArgs false
open Go.RowKit

/-- All blocks but those of F are as they were; new ones may have come. -/
structure Chg (F : Nat → Prop) (w w' : World) : Prop where
  tape : w'.tape = w.tape
  os : w'.os = w.os
  out : w'.output = w.output
  size : w.heap.size ≤ w'.heap.size
  block : ∀ j, j < w.heap.size → ¬ F j → w'.heap[j]? = w.heap[j]?

namespace Chg
variable {F G : Nat → Prop} {w w1 w2 : World}
theorem refl (F : Nat → Prop) (w : World) : Chg F w w := ⟨rfl, rfl, rfl, Nat.le_refl _, fun _ _ _ => rfl⟩
theorem mono (h : Chg F w w1) (hg : ∀ j, j < w.heap.size → F j → G j) : Chg G w w1 :=
  ⟨h.tape, h.os, h.out, h.size, fun j hj hn => h.block j hj (fun hf => hn (hg j hj hf))⟩
theorem trans (h : Chg F w w1) (h' : Chg G w1 w2) (hg : ∀ j, j < w.heap.size → G j → F j) : Chg F w w2 :=
  ⟨h'.tape.trans h.tape, h'.os.trans h.os, h'.out.trans h.out, Nat.le_trans h.size h'.size,
    fun j hj hn => (h'.block j (Nat.lt_of_lt_of_le hj h.size) (fun hf => hn (hg j hj hf))).trans (h.block j hj hn)⟩
theorem drew (h : Chg F w w1) : Chg F w w1.drew := ⟨h.tape, h.os, h.out, h.size, h.block⟩
theorem drewN (h : Chg F w w1) (n : Nat) : Chg F w (w1.drewN n) := ⟨h.tape, h.os, h.out, h.size, h.block⟩
theorem alloc (h : Chg F w w1) (o : Obj) : Chg F w (w1.alloc o) :=
  ⟨h.tape, h.os, h.out, by rw [World.size_alloc]; exact Nat.le_succ_of_le h.size,
    fun j hj hn => (Below.heap_alloc w1 o j (Nat.lt_of_lt_of_le hj h.size)).trans (h.block j hj hn)⟩
theorem setCell (h : Chg F w w1) (p : Addr) (v : Value) (hp : p.block < w.heap.size → F p.block) : Chg F w (w1.setCell p v) :=
  ⟨h.tape, h.os, h.out, by rw [World.setCell]; simpa using h.size,
    fun j hj hn => (Below.heap_setCell w1 p v j (fun e => hn (by subst e; exact hp hj))).trans (h.block j hj hn)⟩
theorem of_below {B : Nat} (h : Below B w w1) : Chg (fun j => B ≤ j) w w1 :=
  ⟨h.tape, h.os, h.output, h.size, fun j _ hn => h.block j (Nat.lt_of_not_le hn)⟩
theorem below {B : Nat} (h : Chg F w w1) (hF : ∀ j, F j → B ≤ j) (hB : B ≤ w.heap.size) : Below B w w1 :=
  ⟨h.os, h.tape, h.out, h.size, fun j hj => h.block j (Nat.lt_of_lt_of_le hj hB) (fun hf => Nat.not_le_of_lt hj (hF j hf))⟩
theorem of_grown {r : Option Nat} (h : w.grownBy w1 r) : Chg (fun j => r = some j) w w1 :=
  ⟨h.tape, h.os, h.output, h.size, fun j hj hn => h.block j hj (fun e => hn e.symm)⟩
theorem none (h : Chg (fun _ => False) w w1) : Chg F w w1 := h.mono fun _ _ hf => hf.elim
end Chg

/-- A footprint behind a call: of what it was and of what is new. -/
def From (F : Nat → Prop) (w w' : World) (F' : Nat → Prop) : Prop := ∀ j, F' j → F j ∨ (w.heap.size ≤ j ∧ j < w'.heap.size)

theorem From.refl (F : Nat → Prop) (w w' : World) : From F w w' F := fun _ h => .inl h
theorem From.trans {F F1 F2 : Nat → Prop} {w w1 w2 : World} (h : From F w w1 F1) (h' : From F1 w1 w2 F2) (s : w.heap.size ≤ w1.heap.size) (s2 : w1.heap.size ≤ w2.heap.size) : From F w w2 F2 := fun j hj => by
  rcases h' j hj with h1 | ⟨h1, h2⟩
  · rcases h j h1 with h3 | ⟨h3, h4⟩
    · exact .inl h3
    · exact .inr ⟨h3, Nat.lt_of_lt_of_le h4 s2⟩
  · exact .inr ⟨Nat.le_trans s h1, h2⟩

theorem heap_setCell_same {w : World} {g i : Nat} {cs : Array Value} {t : TypeId} {fz : Nat × Nat} {v : Value} (h : w.heap[g]? = some (.cells cs t fz)) :
    (w.setCell ⟨g, i, none⟩ v).heap[g]? = some (.cells (cs.setIfInBounds i v) t fz) := by
  have hlt : g < w.heap.size := by
    rcases Nat.lt_or_ge g w.heap.size with hlt | hge
    · exact hlt
    · rw [Array.getElem?_eq_none hge] at h; cases h
  simp only [World.setCell, Array.getElem?_modify, if_true]
  rw [h]
  rfl

theorem lt_of_heap {w : World} {g : Nat} {o : Obj} (h : w.heap[g]? = some o) : g < w.heap.size := by
  rcases Nat.lt_or_ge g w.heap.size with hlt | hge
  · exact hlt
  · rw [Array.getElem?_eq_none hge] at h; cases h
end Go.Proofs.Ytflinpnmpkdopaa
