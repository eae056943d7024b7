/- Own texts of this claim, joined in build order: La0. -/
import Derived.Test.YtooigfkjdemnlaaGreatRows
import Derived.Test.YtooigfkjdemnlaaGreatM06
import Derived.WalkKit
import Derived.ProofKit
import Derived.OpenShut
import Derived.ShutString
import Derived.Below
import Derived.Deep.Slices
import Derived.SizedLaws
set_option linter.all false
namespace Go.Proofs.YtooigfkjdemnlaaGreat
set_option maxRecDepth 100000
open Go.ChangeShapes Go.WideShapes Go.ChangeAt Go.RowKit Go.Deep Xw

theorem blk_lt {w : World} {a : Addr} {v : Value} (h : w.cell? a = some v) : a.block < w.heap.size := by
  rcases Nat.lt_or_ge a.block w.heap.size with hl | hg
  · exact hl
  · unfold World.cell? at h
    rw [Array.getElem?_eq_none hg] at h
    cases h
theorem listOf {α : Type} {Q : Nat → α → Prop} {len : Nat} (each : ∀ i, i < len → ∃ x, Q i x) : ∃ xs : List α, xs.length = len ∧ ∀ i x, xs[i]? = some x → Q i x := by
  suffices h : ∀ k, k ≤ len → ∃ xs : List α, xs.length = k ∧ ∀ i x, xs[i]? = some x → Q i x from h len (Nat.le_refl _)
  intro k
  induction k with
  | zero => exact fun _ => ⟨[], rfl, fun i x h => by simp at h⟩
  | succ k ih =>
    intro hk
    obtain ⟨xs, hl, hx⟩ := ih (by omega)
    obtain ⟨y, hy⟩ := each k (by omega)
    refine ⟨xs ++ [y], by simp [hl], fun i x h => ?_⟩
    by_cases hi : i < k
    · rw [List.getElem?_append_left (by omega)] at h
      exact hx i x h
    · have : i = k := by
        have := (List.getElem?_eq_some_iff.1 h).1
        simp at this; omega
      subst this
      rw [List.getElem?_append_right (by omega), hl, Nat.sub_self] at h
      cases h
      exact hy
theorem spot_none {w : World} {a : Addr} {v : Value} (h : w.cell? a = some v) : a.spot = none := by
  unfold World.cell? at h
  split at h
  · split at h
    · cases h
    · rename_i h1
      cases hs : a.spot with
      | none => rfl
      | some x => rw [hs] at h1; exact absurd rfl h1
  · cases h
/-- A slice that was handed in, each of its elements opened. -/
theorem rows_of {α : Type} {H : Type} {enc : TypeId × Value → H} {P : Program} {W : World} {held : Bool} {fuel : Nat} {t e : TypeId} {size : Nat} {R : World → List Value → α → Prop} {Q : DataW H → α → Prop} {v : Value} {x : DataW H × List MemPlace}
    (ht : P.underlying t = some (.slice e)) (hc : P.cellsOf e = size) (hs0 : 0 < size)
    (elem : ∀ n cs y, cs.length = size → DataW.trod enc P W 0 (fun _ => true) held n e cs = some y → ∃ z : α, R W cs z ∧ Q y.1 z)
    (h : DataW.trod enc P W 0 (fun _ => true) held fuel t [v] = some x) :
    ∃ l : List α, Rows W W.heap.size size R v l ∧ ((x.1 = .nil ∧ l = []) ∨ ∃ (D : Nat → DataW H) (sp : List (DataW H)), x.1 = .slice ((List.range l.length).map D) sp ∧ ∀ i z, l[i]? = some z → Q (D i) z) := by
  rcases open_slice ht h with ⟨hcs, hx⟩ | ⟨a, len, cap, m, n, D, Pl, hcs, hb, hl, hm, hmm, hx, hi⟩
  · simp only [List.cons.injEq, and_true] at hcs
    subst hcs hx
    exact ⟨[], Rows.nil 0 (by simp) none, .inl ⟨rfl, rfl⟩⟩
  · simp only [List.cons.injEq, and_true] at hcs
    subst hcs hx
    have hmc : m = cap := by simpa using hmm
    obtain ⟨l, hll, hlq⟩ := listOf (Q := fun i (z : α) => (∃ cs, W.cells? 0 (a.add (i * size)) size = some cs ∧ R W cs z) ∧ Q (D i) z) (len := len) (fun i hil => by
      obtain ⟨cs, h1, h2⟩ := hi i (by omega)
      rw [hc] at h1
      obtain ⟨_, hcl, _⟩ := World.cells?_some h1
      obtain ⟨z, h3, h4⟩ := elem n cs _ hcl h2
      exact ⟨z, ⟨cs, h1, h3⟩, h4⟩)
    subst hll
    refine ⟨l, ?_, .inr ⟨D, _, rfl, fun i z hz => (hlq i z hz).2⟩⟩
    rcases Nat.eq_zero_or_pos l.length with h0 | hpos
    · have : l = [] := List.eq_nil_of_length_eq_zero h0
      subst this
      exact .inl ⟨rfl, _, cap, rfl, hm⟩
    · obtain ⟨z0, hz0⟩ : ∃ z, l[0]? = some z := ⟨_, List.getElem?_eq_getElem hpos⟩
      obtain ⟨⟨cs, h1, _⟩, _⟩ := hlq 0 z0 hz0
      obtain ⟨_, hcl, hat⟩ := World.cells?_some h1
      have hc0 := hat 0 hs0
      have hadd0 : (a.add (0 * size)).add 0 = a := by simp [Addr.add]
      rw [hadd0, List.getElem?_eq_getElem (by omega)] at hc0
      obtain ⟨b, o, sp⟩ := a
      obtain rfl : sp = none := spot_none hc0
      refine .inr ⟨b, o, cap, rfl, blk_lt hc0, hl, hm, fun e => by subst e; simp at hpos, fun i z hz => ?_⟩
      obtain ⟨⟨cs, h1, h2⟩, _⟩ := hlq i z hz
      obtain ⟨_, hcl, hat⟩ := World.cells?_some h1
      refine ⟨cs, hcl, h2, fun j u hj => ?_⟩
      have hjl := (List.getElem?_eq_some_iff.1 hj).1
      have := hat j (by omega)
      rw [hj] at this
      have hadd : ((⟨b, o, none⟩ : Addr).add (i * size)).add j = ⟨b, o + i * size + j, none⟩ := by
        unfold Addr.add
        split <;> split <;> simp_all
      rw [hadd] at this
      exact this
theorem one_of {cs : Array Value} (h : cs.size = 1) : ∃ sv, cs = #[sv] := by
  obtain ⟨l⟩ := cs
  match l, h with
  | [v], _ => exact ⟨v, rfl⟩
/-- A field's reading. -/
theorem field_of {H : Type} {enc : TypeId × Value → H} {W : World} {held : Bool} {m : Nat} {fs : Array Field} {cs : List Value} {xs : List (DataW H × List MemPlace)}
    (hf : ∀ (i : Nat) (f : Field), fs[i]? = some f → DataW.trod enc Tryz.prog W 0 (fun _ => true) held m f.type ((cs.drop f.offset).take (Tryz.prog.cellsOf f.type)) = xs[i]?) (hxl : xs.length = fs.size)
    (i : Nat) (f : Field) (hi : fs[i]? = some f) (c : Nat) (hc : Tryz.prog.cellsOf f.type = c) : ∃ x, xs[i]? = some x ∧ DataW.trod enc Tryz.prog W 0 (fun _ => true) held m f.type ((cs.drop f.offset).take c) = some x := by
  have hlt : i < fs.size := (Array.getElem?_eq_some_iff.1 hi).1
  refine ⟨xs[i]'(by omega), List.getElem?_eq_getElem _, ?_⟩
  rw [← hc, hf i f hi]
  exact List.getElem?_eq_getElem _
end Go.Proofs.YtooigfkjdemnlaaGreat
