/- How a set in memory turns when it notes a range. No walk. -/
import Derived.Test.YtflinpnmpkdopaaNote1
namespace Go.Proofs.Ytflinpnmpkdopaa
set_option linter.unusedVariables false
set_option linter.unusedSimpArgs false
open Go.RowKit Go.Maps Go.ChangeMaps Xw

theorem rKey_inj {r s : Rng} (hr : rOk r) (hs : rOk s) (h : rKey r = rKey s) : r = s := by
  have h1 := rKey_is hr
  have h2 := rKey_is hs
  rw [← h] at h2
  have := kRange.inj h1 h2
  cases r; cases s
  simpa using this
theorem rKeys_mem {r : Rng} {rs : List Rng} (hr : rOk r) (hrs : ∀ s ∈ rs, rOk s) : rKey r ∈ rs.map rKey ↔ r ∈ rs := by
  rw [List.mem_map]
  exact ⟨fun ⟨s, hs, e⟩ => rKey_inj (hrs s hs) hr e ▸ hs, fun h => ⟨r, h, rfl⟩⟩
theorem rCells_append (a b : List Rng) : rCells (a ++ b) = rCells a ++ rCells b := by simp [rCells]
theorem rCells_length (a : List Rng) : (rCells a).length = a.length * 2 := by
  induction a with
  | nil => rfl
  | cons x a ih => simp [rCells] at ih ⊢; omega
theorem rCells_at : ∀ (rs : List Rng) (j : Nat) (r : Rng), rs[j]? = some r → (rCells rs)[2 * j]? = some (.string r.1) ∧ (rCells rs)[2 * j + 1]? = some (.string r.2)
  | x :: rs, 0, r, h => by cases h; exact ⟨rfl, rfl⟩
  | x :: rs, j + 1, r, h => by
    have := rCells_at rs j r (by simpa using h)
    have e : rCells (x :: rs) = .string x.1 :: .string x.2 :: rCells rs := rfl
    rw [e, show 2 * (j + 1) = 2 * j + 1 + 1 by omega]
    simpa using this

section
variable {w w' w1 w2 w3 : World} {sb : Nat} {l : List Int} {rs : List Rng} {F G : Nat → Prop} {v1 : Value} {m1 : Option Nat} {v2 : Value} {m2 : Option Nat}

/-- The map is made. -/
theorem SeesIn.make2 (h : SeesIn w sb l [] F v1 m1 v2 none) : SeesIn ((w.alloc (.map #[] 0)).setCell ⟨sb, 3, none⟩ (.map (some w.heap.size))) sb l [] (Plus F w ((w.alloc (.map #[] 0)).setCell ⟨sb, 3, none⟩ (.map (some w.heap.size)))) v1 m1 v2 (some w.heap.size) ∧
    Chg F w ((w.alloc (.map #[] 0)).setCell ⟨sb, 3, none⟩ (.map (some w.heap.size))) := by
  have hsz : ((w.alloc (.map #[] 0)).setCell ⟨sb, 3, none⟩ (.map (some w.heap.size))).heap.size = w.heap.size + 1 := by simp [World.setCell]
  have hal : ∀ j, j < w.heap.size → (w.alloc (.map #[] 0)).heap[j]? = w.heap[j]? := fun j hj => heap_alloc_old w _ hj
  have hne : w.heap.size ≠ sb := Nat.ne_of_gt h.lt_sb
  have hset : ∀ j, j ≠ sb → ((w.alloc (.map #[] 0)).setCell ⟨sb, 3, none⟩ (.map (some w.heap.size))).heap[j]? = (w.alloc (.map #[] 0)).heap[j]? := fun j hj => Below.heap_setCell _ _ _ _ hj
  have hother : ∀ j, j < w.heap.size → j ≠ sb → ((w.alloc (.map #[] 0)).setCell ⟨sb, 3, none⟩ (.map (some w.heap.size))).heap[j]? = w.heap[j]? := fun j hj hn => (hset j hn).trans (hal j hj)
  refine ⟨{
    here := heap_setCell_same ((hal sb h.lt_sb).trans h.here)
    s1 := h.s1.keep fun j hj hF => hother j hj (fun e => h.sb_v1 (e ▸ hF))
    k1 := h.k1.keep fun b hb => hother b (h.lt_m1 hb) (fun e => h.sb_m1 (e ▸ hb))
    n1 := h.n1
    s2 := h.s2.keep fun j hj hF => hother j hj (fun e => h.sb_v2 (e ▸ hF))
    k2 := (MapSet.made w).keep fun b hb => by cases hb; exact hset _ hne
    n2 := fun _ e => by cases e
    ne := fun b hb hb2 => by cases hb2; exact absurd (h.lt_m1 hb) (Nat.lt_irrefl _)
    ok1 := h.ok1, ok2 := h.ok2, nd1 := h.nd1, nd2 := h.nd2
    f0 := .inl h.f0, f1 := fun j hj => .inl (h.f1 j hj), f2 := fun j hj => .inl (h.f2 j hj)
    f3 := fun j hj => .inl (h.f3 j hj), f4 := fun j hj => by cases hj; exact .inr ⟨Nat.le_refl _, by rw [hsz]; exact Nat.lt_succ_self _⟩ }, ?_⟩
  exact ((Chg.refl F w).alloc _).setCell _ _ (fun _ => h.f0)

/-- A range more: the map has it, the row has it, the struct holds the row. -/
theorem SeesIn.add2 {b : Nat} {x : Rng} {v2' : Value} {F' : Nat → Prop} (h : SeesIn w sb l rs F v1 m1 v2 (some b)) (hx : rOk x) (hnew : x ∉ rs)
    (c1 : Chg (fun j => j = b) w w1) (hm : MapSet Try.prog 72 3 w1 (some b) (rs.map rKey ++ [rKey x])) (c2 : Chg (fun _ => False) w1 w2)
    (hs : Sl w3 72 2 v2' (rs.length + 1) (rCells rs ++ [.string x.1, .string x.2]) F') (c3 : Chg (fun j => v2.ownBlock = some j) w2 w3) (hF : From (fun j => v2.ownBlock = some j) w2 w3 F') :
    SeesIn (w3.setCell ⟨sb, 2, none⟩ v2') sb l (rs ++ [x]) (Plus F w (w3.setCell ⟨sb, 2, none⟩ v2')) v1 m1 v2' (some b) ∧ Chg F w (w3.setCell ⟨sb, 2, none⟩ v2') := by
  have hsz : (w3.setCell ⟨sb, 2, none⟩ v2').heap.size = w3.heap.size := by simp [World.setCell]
  have hb : b < w.heap.size := h.lt_m2 rfl
  have call : Chg (fun j => j = b ∨ v2.ownBlock = some j) w w3 := ((c1.mono (G := fun j => j = b ∨ v2.ownBlock = some j) fun _ _ e => .inl e).trans c2 (fun _ _ f => f.elim)).trans c3 (fun _ _ e => .inr e)
  have hset : ∀ j, j ≠ sb → (w3.setCell ⟨sb, 2, none⟩ v2').heap[j]? = w3.heap[j]? := fun j hj => Below.heap_setCell _ _ _ _ hj
  have hother : ∀ j, j < w.heap.size → j ≠ sb → j ≠ b → v2.ownBlock ≠ some j → (w3.setCell ⟨sb, 2, none⟩ v2').heap[j]? = w.heap[j]? := fun j hj h1 h2 h3 => (hset j h1).trans (call.block j hj (fun e => e.elim h2 h3))
  have hbsb : sb ≠ b := fun e => h.sb_m2 (by rw [e])
  have hown : ∀ j, v2'.ownBlock = some j → v2.ownBlock = some j ∨ (w2.heap.size ≤ j ∧ j < w3.heap.size) := fun j hj => hF j (hs.own_mem hj).1
  have hv2sb : ∀ j, v2'.ownBlock = some j → j ≠ sb := fun j hj e => by
    rcases hown j hj with h1 | ⟨h1, _⟩
    · exact h.sb_v2 (e ▸ h1)
    · have := h.lt_sb
      have := (c1.size)
      have := c2.size
      omega
  have hF0 : ∀ j, F j → Plus F w (w3.setCell ⟨sb, 2, none⟩ v2') j := fun j hj => .inl hj
  refine ⟨{
    here := heap_setCell_same ((call.block sb h.lt_sb (fun e => e.elim hbsb (fun e => h.sb_v2 e))).trans h.here)
    s1 := h.s1.keep fun j hj hF => hother j hj (fun e => h.sb_v1 (e ▸ hF)) (fun e => h.v1_m1 (.inr rfl) (e ▸ hF)) (fun e => h.v1_v2 hF e)
    k1 := h.k1.keep fun b' hb' => hother b' (h.lt_m1 hb') (fun e => h.sb_m1 (e ▸ hb')) (fun e => h.ne b' hb' (e ▸ rfl)) (fun e => h.v2_m (.inl hb') e)
    n1 := h.n1
    s2 := by
      have : Sl w3 72 2 v2' (rs ++ [x]).length (rCells (rs ++ [x])) (fun j => v2'.ownBlock = some j) := by
        have := hs.own
        rw [rCells_append]
        simpa [rCells] using this
      exact this.keep fun j _ hj => hset j (hv2sb j hj)
    k2 := by
      have : MapSet Try.prog 72 3 w1 (some b) ((rs ++ [x]).map rKey) := by simpa using hm
      refine this.keep fun b' hb' => ?_
      cases hb'
      have h1 : b < w1.heap.size := Nat.lt_of_lt_of_le hb c1.size
      have h2 : b < w2.heap.size := Nat.lt_of_lt_of_le h1 c2.size
      exact (hset b hbsb.symm).trans ((c3.block b h2 (fun e => h.v2_m (.inr rfl) e)).trans (c2.block b h1 (fun f => f)))
    n2 := fun _ e => by cases e
    ne := h.ne
    ok1 := h.ok1
    ok2 := fun y hy => by
      rcases List.mem_append.1 hy with hy | hy
      · exact h.ok2 y hy
      · rw [List.mem_singleton.1 hy]; exact hx
    nd1 := h.nd1
    nd2 := List.nodup_append.2 ⟨h.nd2, by simp, fun a ha c hc e => hnew (by rw [List.mem_singleton.1 hc] at e; exact e ▸ ha)⟩
    f0 := hF0 _ h.f0
    f1 := fun j hj => hF0 _ (h.f1 j hj), f2 := fun j hj => hF0 _ (h.f2 j hj)
    f3 := fun j hj => by
      rcases hown j hj with h1 | ⟨h1, h2⟩
      · exact hF0 _ (h.f3 j h1)
      · exact .inr ⟨Nat.le_trans (Nat.le_trans c1.size c2.size) h1, by rw [hsz]; exact h2⟩
    f4 := fun j hj => hF0 _ (h.f4 j hj) }, ?_⟩
  exact (call.mono fun j _ hj => hj.elim (fun e => h.f4 j (by rw [e])) (fun e => h.f3 j e)).setCell _ _ (fun _ => h.f0)

/-- Back to what was: the map has rs alone, the row is cut. -/
theorem SeesIn.cut2 {b : Nat} {ys : List Rng} {A : Option Addr} {n c : Nat} (h : SeesIn w sb l (rs ++ ys) F v1 m1 (.slice A n c) (some b)) (hA : A ≠ none) (hl : rs.length ≤ n) (hn : n ≤ c)
    (c1 : Chg (fun j => j = b) w w1) (hm : MapSet Try.prog 72 3 w1 (some b) (rs.map rKey)) :
    SeesIn (w1.setCell ⟨sb, 2, none⟩ (.slice A rs.length rs.length)) sb l rs F v1 m1 (.slice A rs.length rs.length) (some b) ∧ Chg F w (w1.setCell ⟨sb, 2, none⟩ (.slice A rs.length rs.length)) := by
  have hset : ∀ j, j ≠ sb → (w1.setCell ⟨sb, 2, none⟩ (.slice A rs.length rs.length)).heap[j]? = w1.heap[j]? := fun j hj => Below.heap_setCell _ _ _ _ hj
  have hbsb : sb ≠ b := fun e => h.sb_m2 (by rw [e])
  have hother : ∀ j, j < w.heap.size → j ≠ sb → j ≠ b → (w1.setCell ⟨sb, 2, none⟩ (.slice A rs.length rs.length)).heap[j]? = w.heap[j]? := fun j hj h1 h2 => (hset j h1).trans (c1.block j hj h2)
  have hnl : n = (rs ++ ys).length := by
    rcases h.s2.2 with ⟨hv, h0⟩ | ⟨g, off, cap, cur, hv, _⟩
    · cases hv; exact absurd rfl hA
    · cases hv; rfl
  subst hnl
  have hcut := h.s2.cut (k := rs.length) (c' := rs.length) (by simp) (Nat.le_trans hl hn) (Nat.le_refl _) hA
  have e1 : (rCells (rs ++ ys)).take (rs.length * 2) = rCells rs := by
    rw [rCells_append, List.take_append_of_le_length (by rw [rCells_length]; omega), List.take_of_length_le (by rw [rCells_length]; omega)]
  rw [e1] at hcut
  have hblk : ∀ j, (Value.slice A rs.length rs.length).ownBlock = some j → (Value.slice A (rs ++ ys).length c).ownBlock = some j := fun j hj => by
    cases A with
    | none => cases hj
    | some a => exact hj
  refine ⟨{
    here := heap_setCell_same ((c1.block sb h.lt_sb hbsb).trans h.here)
    s1 := h.s1.keep fun j hj hF => hother j hj (fun e => h.sb_v1 (e ▸ hF)) (fun e => h.v1_m1 (.inr rfl) (e ▸ hF))
    k1 := h.k1.keep fun b' hb' => hother b' (h.lt_m1 hb') (fun e => h.sb_m1 (e ▸ hb')) (fun e => h.ne b' hb' (e ▸ rfl))
    n1 := h.n1
    s2 := hcut.own.keep fun j hj hF => hother j hj (fun e => h.sb_v2 (hblk _ (e ▸ hF))) (fun e => h.v2_m (.inr rfl) (hblk _ (e ▸ hF)))
    k2 := hm.keep fun b' hb' => by cases hb'; exact hset b hbsb.symm
    n2 := fun _ e => by cases e
    ne := h.ne
    ok1 := h.ok1, ok2 := fun y hy => h.ok2 y (List.mem_append_left _ hy)
    nd1 := h.nd1, nd2 := (List.nodup_append.1 h.nd2).1
    f0 := h.f0, f1 := h.f1, f2 := h.f2, f3 := fun j hj => h.f3 j (hblk j hj), f4 := h.f4 }, ?_⟩
  exact (c1.mono fun j _ hj => h.f4 j (by rw [hj])).setCell _ _ (fun _ => h.f0)
end
end Go.Proofs.Ytflinpnmpkdopaa
