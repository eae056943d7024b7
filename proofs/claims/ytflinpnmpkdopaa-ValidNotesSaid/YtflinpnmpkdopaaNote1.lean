/- How a set in memory turns when it notes a version. No walk. -/
import Derived.Test.YtflinpnmpkdopaaSees
namespace Go.Proofs.Ytflinpnmpkdopaa
set_option linter.unusedVariables false
set_option linter.unusedSimpArgs false
open Go.RowKit Go.Maps Go.ChangeMaps Xw

theorem map_getElem {α β : Type} {f : α → β} {l : List α} {j : Nat} {u : β} (h : (l.map f)[j]? = some u) : ∃ x, l[j]? = some x ∧ f x = u := by
  rw [List.getElem?_map] at h
  exact Option.map_eq_some_iff.1 h
theorem Sl.own {w : World} {e : TypeId} {size n : Nat} {v : Value} {xs : List Value} {F : Nat → Prop} (h : Sl w e size v n xs F) : Sl w e size v n xs (fun j => v.ownBlock = some j) :=
  ⟨h.1, h.2.imp id fun ⟨g, off, cap, cur, hv, _, r⟩ => ⟨g, off, cap, cur, hv, by rw [hv]; rfl, r⟩⟩
theorem Sl.own_mem {w : World} {e : TypeId} {size n : Nat} {v : Value} {xs : List Value} {F : Nat → Prop} (h : Sl w e size v n xs F) {j : Nat} (hj : v.ownBlock = some j) : F j ∧ j < w.heap.size := by
  rcases h.2 with ⟨hv, _⟩ | ⟨g, off, cap, cur, rfl, hF, hb, _⟩
  · rw [hv] at hj; cases hj
  · simp only [Value.ownBlock, Option.some.injEq] at hj
    subst hj
    exact ⟨hF, lt_of_heap hb⟩

/-- F and what has come since. -/
def Plus (F : Nat → Prop) (w w' : World) : Nat → Prop := fun j => F j ∨ (w.heap.size ≤ j ∧ j < w'.heap.size)

/-- A change of what belongs to an object now is a change of what belonged to it, and new. -/
theorem Chg.trans2 {F Fk : Nat → Prop} {w w0 w1 w2 : World} (h : Chg F w w1) (h' : Chg Fk w1 w2) (hf : From F w w0 Fk) (_ : w0.heap.size ≤ w1.heap.size) : Chg F w w2 :=
  h.trans h' fun j hj hk => (hf j hk).elim id fun e => absurd hj (Nat.not_lt.2 e.1)
theorem From.step {F Fk : Nat → Prop} {w w0 w1 w2 : World} (hf : From F w w0 Fk) (s1 : w0.heap.size ≤ w1.heap.size) (s0 : w.heap.size ≤ w0.heap.size) (s2 : w1.heap.size ≤ w2.heap.size) : From F w w2 (Plus Fk w1 w2) := fun j hj => by
  rcases hj with hj | ⟨h1, h2⟩
  · rcases hf j hj with h | ⟨h3, h4⟩
    · exact .inl h
    · exact .inr ⟨h3, Nat.lt_of_lt_of_le h4 (Nat.le_trans s1 s2)⟩
  · exact .inr ⟨Nat.le_trans s0 (Nat.le_trans s1 h1), h2⟩

section
variable {w w' w1 w2 w3 : World} {sb : Nat} {l : List Int} {rs : List Rng} {F G : Nat → Prop} {v1 : Value} {m1 : Option Nat} {v2 : Value} {m2 : Option Nat}

theorem SeesIn.lt_sb (h : SeesIn w sb l rs F v1 m1 v2 m2) : sb < w.heap.size := lt_of_heap h.here
theorem SeesIn.lt_v2 (h : SeesIn w sb l rs F v1 m1 v2 m2) {j : Nat} (hj : v2.ownBlock = some j) : j < w.heap.size := (h.s2.own_mem hj).2
theorem SeesIn.lt_v1 (h : SeesIn w sb l rs F v1 m1 v2 m2) {j : Nat} (hj : v1.ownBlock = some j) : j < w.heap.size := (h.s1.own_mem hj).2
theorem SeesIn.lt_m2 (h : SeesIn w sb l rs F v1 m1 v2 m2) {j : Nat} (hj : m2 = some j) : j < w.heap.size := (h.k2.lt hj).1
theorem SeesIn.lt_m1 (h : SeesIn w sb l rs F v1 m1 v2 m2) {j : Nat} (hj : m1 = some j) : j < w.heap.size := (h.k1.lt hj).1

/-- The map is made. -/
theorem SeesIn.make1 (h : SeesIn w sb [] rs F v1 none v2 m2) : SeesIn ((w.alloc (.map #[] 0)).setCell ⟨sb, 1, none⟩ (.map (some w.heap.size))) sb [] rs (Plus F w ((w.alloc (.map #[] 0)).setCell ⟨sb, 1, none⟩ (.map (some w.heap.size)))) v1 (some w.heap.size) v2 m2 ∧
    Chg F w ((w.alloc (.map #[] 0)).setCell ⟨sb, 1, none⟩ (.map (some w.heap.size))) := by
  have hsz : ((w.alloc (.map #[] 0)).setCell ⟨sb, 1, none⟩ (.map (some w.heap.size))).heap.size = w.heap.size + 1 := by simp [World.setCell]
  have hal : ∀ j, j < w.heap.size → (w.alloc (.map #[] 0)).heap[j]? = w.heap[j]? := fun j hj => heap_alloc_old w _ hj
  have hne : w.heap.size ≠ sb := Nat.ne_of_gt h.lt_sb
  have hset : ∀ j, j ≠ sb → ((w.alloc (.map #[] 0)).setCell ⟨sb, 1, none⟩ (.map (some w.heap.size))).heap[j]? = (w.alloc (.map #[] 0)).heap[j]? := fun j hj => Below.heap_setCell _ _ _ _ hj
  have hother : ∀ j, j < w.heap.size → j ≠ sb → ((w.alloc (.map #[] 0)).setCell ⟨sb, 1, none⟩ (.map (some w.heap.size))).heap[j]? = w.heap[j]? := fun j hj hn => (hset j hn).trans (hal j hj)
  refine ⟨{
    here := heap_setCell_same ((hal sb h.lt_sb).trans h.here)
    s1 := h.s1.keep fun j hj hF => hother j hj (fun e => h.sb_v1 (e ▸ hF))
    k1 := (MapSet.made w).keep fun b hb => by cases hb; exact hset _ hne
    n1 := fun _ e => by cases e
    s2 := h.s2.keep fun j hj hF => hother j hj (fun e => h.sb_v2 (e ▸ hF))
    k2 := h.k2.keep fun b hb => hother b (h.lt_m2 hb) (fun e => h.sb_m2 (e ▸ hb))
    n2 := h.n2
    ne := fun b hb hb2 => by cases hb; exact absurd (h.lt_m2 hb2) (Nat.lt_irrefl _)
    ok1 := h.ok1, ok2 := h.ok2, nd1 := h.nd1, nd2 := h.nd2
    f0 := .inl h.f0, f1 := fun j hj => .inl (h.f1 j hj), f2 := fun j hj => by cases hj; exact .inr ⟨Nat.le_refl _, by rw [hsz]; exact Nat.lt_succ_self _⟩
    f3 := fun j hj => .inl (h.f3 j hj), f4 := fun j hj => .inl (h.f4 j hj) }, ?_⟩
  exact ((Chg.refl F w).alloc _).setCell _ _ (fun _ => h.f0)

/-- A version more: the map has it, the row has it, the struct holds the row. -/
theorem SeesIn.add1 {b : Nat} {x : Int} {v1' : Value} {F' : Nat → Prop} (h : SeesIn w sb l rs F v1 (some b) v2 m2) (hx : i64ok x) (hnew : x ∉ l)
    (c1 : Chg (fun j => j = b) w w1) (hm : MapSet Try.prog 3 3 w1 (some b) (iKeys l ++ [.int .i64 x])) (c2 : Chg (fun _ => False) w1 w2)
    (hs : Sl w3 3 1 v1' (l.length + 1) (iCells l ++ [.int .i64 x]) F') (c3 : Chg (fun j => v1.ownBlock = some j) w2 w3) (hF : From (fun j => v1.ownBlock = some j) w2 w3 F') :
    SeesIn (w3.setCell ⟨sb, 0, none⟩ v1') sb (l ++ [x]) rs (Plus F w (w3.setCell ⟨sb, 0, none⟩ v1')) v1' (some b) v2 m2 ∧ Chg F w (w3.setCell ⟨sb, 0, none⟩ v1') := by
  have hsz : (w3.setCell ⟨sb, 0, none⟩ v1').heap.size = w3.heap.size := by simp [World.setCell]
  have hb : b < w.heap.size := h.lt_m1 rfl
  have call : Chg (fun j => j = b ∨ v1.ownBlock = some j) w w3 := ((c1.mono (G := fun j => j = b ∨ v1.ownBlock = some j) fun _ _ e => .inl e).trans c2 (fun _ _ f => f.elim)).trans c3 (fun _ _ e => .inr e)
  have hset : ∀ j, j ≠ sb → (w3.setCell ⟨sb, 0, none⟩ v1').heap[j]? = w3.heap[j]? := fun j hj => Below.heap_setCell _ _ _ _ hj
  have hother : ∀ j, j < w.heap.size → j ≠ sb → j ≠ b → v1.ownBlock ≠ some j → (w3.setCell ⟨sb, 0, none⟩ v1').heap[j]? = w.heap[j]? := fun j hj h1 h2 h3 => (hset j h1).trans (call.block j hj (fun e => e.elim h2 h3))
  have hbsb : sb ≠ b := fun e => h.sb_m1 (by rw [e])
  have hown : ∀ j, v1'.ownBlock = some j → v1.ownBlock = some j ∨ (w2.heap.size ≤ j ∧ j < w3.heap.size) := fun j hj => hF j (hs.own_mem hj).1
  have hv1sb : ∀ j, v1'.ownBlock = some j → j ≠ sb := fun j hj e => by
    rcases hown j hj with h1 | ⟨h1, _⟩
    · exact h.sb_v1 (e ▸ h1)
    · have := h.lt_sb
      have := (c1.size)
      have := c2.size
      omega
  have hF0 : ∀ j, F j → Plus F w (w3.setCell ⟨sb, 0, none⟩ v1') j := fun j hj => .inl hj
  refine ⟨{
    here := heap_setCell_same ((call.block sb h.lt_sb (fun e => e.elim hbsb (fun e => h.sb_v1 e))).trans h.here)
    s1 := by
      have : Sl w3 3 1 v1' (l ++ [x]).length (iCells (l ++ [x])) (fun j => v1'.ownBlock = some j) := by simpa [iCells] using hs.own
      exact this.keep fun j _ hj => hset j (hv1sb j hj)
    k1 := by
      have : MapSet Try.prog 3 3 w1 (some b) (iKeys (l ++ [x])) := by simpa [iKeys] using hm
      refine this.keep fun b' hb' => ?_
      cases hb'
      have h1 : b < w1.heap.size := Nat.lt_of_lt_of_le hb c1.size
      have h2 : b < w2.heap.size := Nat.lt_of_lt_of_le h1 c2.size
      exact (hset b hbsb.symm).trans ((c3.block b h2 (fun e => h.v1_m1 (.inl rfl) e)).trans (c2.block b h1 (fun f => f)))
    n1 := fun _ e => by cases e
    s2 := h.s2.keep fun j hj hF => hother j hj (fun e => h.sb_v2 (e ▸ hF)) (fun e => h.v2_m (.inl rfl) (e ▸ hF)) (fun e => h.v1_v2 e hF)
    k2 := h.k2.keep fun b' hb' => hother b' (h.lt_m2 hb') (fun e => h.sb_m2 (e ▸ hb')) (fun e => h.ne b rfl (e ▸ hb')) (fun e => h.v1_m1 (.inr hb') e)
    n2 := h.n2, ne := h.ne
    ok1 := fun y hy => by
      rcases List.mem_append.1 hy with hy | hy
      · exact h.ok1 y hy
      · rw [List.mem_singleton.1 hy]; exact hx
    ok2 := h.ok2
    nd1 := List.nodup_append.2 ⟨h.nd1, by simp, fun a ha c hc e => hnew (by rw [List.mem_singleton.1 hc] at e; exact e ▸ ha)⟩
    nd2 := h.nd2
    f0 := hF0 _ h.f0
    f1 := fun j hj => by
      rcases hown j hj with h1 | ⟨h1, h2⟩
      · exact hF0 _ (h.f1 j h1)
      · exact .inr ⟨Nat.le_trans (Nat.le_trans c1.size c2.size) h1, by rw [hsz]; exact h2⟩
    f2 := fun j hj => hF0 _ (h.f2 j hj), f3 := fun j hj => hF0 _ (h.f3 j hj), f4 := fun j hj => hF0 _ (h.f4 j hj) }, ?_⟩
  exact (call.mono fun j _ hj => hj.elim (fun e => h.f2 j (by rw [e])) (fun e => h.f1 j e)).setCell _ _ (fun _ => h.f0)

/-- Back to what was: the map has l alone, the row is cut. -/
theorem SeesIn.cut1 {b : Nat} {ys : List Int} {A : Option Addr} {n c : Nat} (h : SeesIn w sb (l ++ ys) rs F (.slice A n c) (some b) v2 m2) (hA : A ≠ none) (hl : l.length ≤ n) (hn : n ≤ c)
    (c1 : Chg (fun j => j = b) w w1) (hm : MapSet Try.prog 3 3 w1 (some b) (iKeys l)) :
    SeesIn (w1.setCell ⟨sb, 0, none⟩ (.slice A l.length l.length)) sb l rs F (.slice A l.length l.length) (some b) v2 m2 ∧ Chg F w (w1.setCell ⟨sb, 0, none⟩ (.slice A l.length l.length)) := by
  have hset : ∀ j, j ≠ sb → (w1.setCell ⟨sb, 0, none⟩ (.slice A l.length l.length)).heap[j]? = w1.heap[j]? := fun j hj => Below.heap_setCell _ _ _ _ hj
  have hbsb : sb ≠ b := fun e => h.sb_m1 (by rw [e])
  have hother : ∀ j, j < w.heap.size → j ≠ sb → j ≠ b → (w1.setCell ⟨sb, 0, none⟩ (.slice A l.length l.length)).heap[j]? = w.heap[j]? := fun j hj h1 h2 => (hset j h1).trans (c1.block j hj h2)
  have hnl : n = (l ++ ys).length := by
    rcases h.s1.2 with ⟨hv, h0⟩ | ⟨g, off, cap, cur, hv, _⟩
    · cases hv; exact absurd rfl hA
    · cases hv; rfl
  subst hnl
  have hcut := h.s1.cut (k := l.length) (c' := l.length) (by simp) (Nat.le_trans hl hn) (Nat.le_refl _) hA
  have e1 : (iCells (l ++ ys)).take (l.length * 1) = iCells l := by
    unfold iCells
    rw [Nat.mul_one, List.map_append, List.take_append_of_le_length (by simp), List.take_of_length_le (by simp)]
  rw [e1] at hcut
  have hblk : ∀ j, (Value.slice A l.length l.length).ownBlock = some j → (Value.slice A (l ++ ys).length c).ownBlock = some j := fun j hj => by
    cases A with
    | none => cases hj
    | some a => exact hj
  refine ⟨{
    here := heap_setCell_same ((c1.block sb h.lt_sb hbsb).trans h.here)
    s1 := hcut.own.keep fun j hj hF => hother j hj (fun e => h.sb_v1 (hblk _ (e ▸ hF))) (fun e => h.v1_m1 (.inl rfl) (hblk _ (e ▸ hF)))
    k1 := hm.keep fun b' hb' => by cases hb'; exact hset b hbsb.symm
    n1 := fun _ e => by cases e
    s2 := h.s2.keep fun j hj hF => hother j hj (fun e => h.sb_v2 (e ▸ hF)) (fun e => h.v2_m (.inl rfl) (e ▸ hF))
    k2 := h.k2.keep fun b' hb' => hother b' (h.lt_m2 hb') (fun e => h.sb_m2 (e ▸ hb')) (fun e => h.ne b rfl (e ▸ hb'))
    n2 := h.n2, ne := h.ne
    ok1 := fun y hy => h.ok1 y (List.mem_append_left _ hy), ok2 := h.ok2
    nd1 := (List.nodup_append.1 h.nd1).1, nd2 := h.nd2
    f0 := h.f0, f1 := fun j hj => h.f1 j (hblk j hj), f2 := h.f2, f3 := h.f3, f4 := h.f4 }, ?_⟩
  exact (c1.mono fun j _ hj => h.f2 j (by rw [hj])).setCell _ _ (fun _ => h.f0)
end
end Go.Proofs.Ytflinpnmpkdopaa
