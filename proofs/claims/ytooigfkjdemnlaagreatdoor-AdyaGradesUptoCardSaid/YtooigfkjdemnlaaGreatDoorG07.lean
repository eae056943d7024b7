/- Own texts of this claim, joined in build order: La0, La1, La2, Bn. -/
import Derived.Test.YtooigfkjdemnlaaGreatDoorRows
import Derived.Test.YtooigfkjdemnlaaGreatDoorG06
import Derived.WalkKit
import Derived.ProofKit
import Derived.OpenShut
import Derived.ShutString
import Derived.Below
import Derived.Deep.Slices
import Derived.SizedLaws
import Derived.Test.YtooigfkjdemnlaaGreatDoorG03
import Derived.LaidMore
import Derived.Stop.Joined
set_option linter.all false
namespace Go.Proofs.YtooigfkjdemnlaaGreatDoor
set_option maxRecDepth 100000
open Go.ChangeShapes Go.WideShapes Go.ChangeAt Go.RowKit Go.Deep Xw

theorem blk_lt {w : World} {a : Addr} {v : Value} (h : w.cell? a = some v) : a.block < w.heap.size := by
  rcases Nat.lt_or_ge a.block w.heap.size with hl | hg
  · exact hl
  · unfold World.cell? at h
    rw [Array.getElem?_eq_none hg] at h
    cases h
theorem listOf {α : Type} {Q : Nat → α → Prop} {len : Nat} (each : ∀ i, i < len → ∃ x, Q i x) : ∃ xs : List α, xs.length = len ∧ ∀ i x, xs[i]? = some x → Q i x := by
  suffices h : ∀ k, k ≤ len → ∃ xs : List α, xs.length = k ∧ ∀ i x, xs[i]? = some x → Q i x from h len (Nat.le_refl _)
  intro k
  induction k with
  | zero => exact fun _ => ⟨[], rfl, fun i x h => by simp at h⟩
  | succ k ih =>
    intro hk
    obtain ⟨xs, hl, hx⟩ := ih (by omega)
    obtain ⟨y, hy⟩ := each k (by omega)
    refine ⟨xs ++ [y], by simp [hl], fun i x h => ?_⟩
    by_cases hi : i < k
    · rw [List.getElem?_append_left (by omega)] at h
      exact hx i x h
    · have : i = k := by
        have := (List.getElem?_eq_some_iff.1 h).1
        simp at this; omega
      subst this
      rw [List.getElem?_append_right (by omega), hl, Nat.sub_self] at h
      cases h
      exact hy
theorem spot_none {w : World} {a : Addr} {v : Value} (h : w.cell? a = some v) : a.spot = none := by
  unfold World.cell? at h
  split at h
  · split at h
    · cases h
    · rename_i h1
      cases hs : a.spot with
      | none => rfl
      | some x => rw [hs] at h1; exact absurd rfl h1
  · cases h
theorem rows_of {α : Type} {H : Type} {enc : TypeId × Value → H} {P : Program} {W : World} {held : Bool} {fuel : Nat} {t e : TypeId} {size : Nat} {R : World → List Value → α → Prop} {Q : DataW H → α → Prop} {v : Value} {x : DataW H × List MemPlace}
    (ht : P.underlying t = some (.slice e)) (hc : P.cellsOf e = size) (hs0 : 0 < size)
    (elem : ∀ n cs y, cs.length = size → DataW.trod enc P W 0 (fun _ => true) held n e cs = some y → ∃ z : α, R W cs z ∧ Q y.1 z)
    (h : DataW.trod enc P W 0 (fun _ => true) held fuel t [v] = some x) :
    ∃ l : List α, Rows W W.heap.size size R v l ∧ ((x.1 = .nil ∧ l = []) ∨ ∃ (D : Nat → DataW H) (sp : List (DataW H)), x.1 = .slice ((List.range l.length).map D) sp ∧ ∀ i z, l[i]? = some z → Q (D i) z) := by
  rcases open_slice ht h with ⟨hcs, hx⟩ | ⟨a, len, cap, m, n, D, Pl, hcs, hb, hl, hm, hmm, hx, hi⟩
  · simp only [List.cons.injEq, and_true] at hcs
    subst hcs hx
    exact ⟨[], Rows.nil 0 (by simp) none, .inl ⟨rfl, rfl⟩⟩
  · simp only [List.cons.injEq, and_true] at hcs
    subst hcs hx
    have hmc : m = cap := by simpa using hmm
    obtain ⟨l, hll, hlq⟩ := listOf (Q := fun i (z : α) => (∃ cs, W.cells? 0 (a.add (i * size)) size = some cs ∧ R W cs z) ∧ Q (D i) z) (len := len) (fun i hil => by
      obtain ⟨cs, h1, h2⟩ := hi i (by omega)
      rw [hc] at h1
      obtain ⟨_, hcl, _⟩ := World.cells?_some h1
      obtain ⟨z, h3, h4⟩ := elem n cs _ hcl h2
      exact ⟨z, ⟨cs, h1, h3⟩, h4⟩)
    subst hll
    refine ⟨l, ?_, .inr ⟨D, _, rfl, fun i z hz => (hlq i z hz).2⟩⟩
    rcases Nat.eq_zero_or_pos l.length with h0 | hpos
    · have : l = [] := List.eq_nil_of_length_eq_zero h0
      subst this
      exact .inl ⟨rfl, _, cap, rfl, hm⟩
    · obtain ⟨z0, hz0⟩ : ∃ z, l[0]? = some z := ⟨_, List.getElem?_eq_getElem hpos⟩
      obtain ⟨⟨cs, h1, _⟩, _⟩ := hlq 0 z0 hz0
      obtain ⟨_, hcl, hat⟩ := World.cells?_some h1
      have hc0 := hat 0 hs0
      have hadd0 : (a.add (0 * size)).add 0 = a := by simp [Addr.add]
      rw [hadd0, List.getElem?_eq_getElem (by omega)] at hc0
      obtain ⟨b, o, sp⟩ := a
      obtain rfl : sp = none := spot_none hc0
      refine .inr ⟨b, o, cap, rfl, blk_lt hc0, hl, hm, fun e => by subst e; simp at hpos, fun i z hz => ?_⟩
      obtain ⟨⟨cs, h1, h2⟩, _⟩ := hlq i z hz
      obtain ⟨_, hcl, hat⟩ := World.cells?_some h1
      refine ⟨cs, hcl, h2, fun j u hj => ?_⟩
      have hjl := (List.getElem?_eq_some_iff.1 hj).1
      have := hat j (by omega)
      rw [hj] at this
      have hadd : ((⟨b, o, none⟩ : Addr).add (i * size)).add j = ⟨b, o + i * size + j, none⟩ := by
        unfold Addr.add
        split <;> split <;> simp_all
      rw [hadd] at this
      exact this
theorem one_of {cs : Array Value} (h : cs.size = 1) : ∃ sv, cs = #[sv] := by
  obtain ⟨l⟩ := cs
  match l, h with
  | [v], _ => exact ⟨v, rfl⟩
theorem field_of {H : Type} {enc : TypeId × Value → H} {W : World} {held : Bool} {m : Nat} {fs : Array Field} {cs : List Value} {xs : List (DataW H × List MemPlace)}
    (hf : ∀ (i : Nat) (f : Field), fs[i]? = some f → DataW.trod enc Tryz.prog W 0 (fun _ => true) held m f.type ((cs.drop f.offset).take (Tryz.prog.cellsOf f.type)) = xs[i]?) (hxl : xs.length = fs.size)
    (i : Nat) (f : Field) (hi : fs[i]? = some f) (c : Nat) (hc : Tryz.prog.cellsOf f.type = c) : ∃ x, xs[i]? = some x ∧ DataW.trod enc Tryz.prog W 0 (fun _ => true) held m f.type ((cs.drop f.offset).take c) = some x := by
  have hlt : i < fs.size := (Array.getElem?_eq_some_iff.1 hi).1
  refine ⟨xs[i]'(by omega), List.getElem?_eq_getElem _, ?_⟩
  rw [← hc, hf i f hi]
  exact List.getElem?_eq_getElem _
end Go.Proofs.YtooigfkjdemnlaaGreatDoor

namespace Go.Proofs.YtooigfkjdemnlaaGreatDoor
set_option maxRecDepth 100000
open Go.ChangeShapes Go.WideShapes Go.ChangeAt Go.RowKit Go.Deep Xw

theorem ver_of {H : Type} {enc : TypeId × Value → H} {W : World} {held : Bool} (n : Nat) (cs : List Value) (y : DataW H × List MemPlace) (hl : cs.length = 3) (h : DataW.trod enc Tryz.prog W 0 (fun _ => true) held n 56 cs = some y) :
    ∃ z : HVer, Flat verC W cs z ∧ True := by
  obtain ⟨xs, m, rfl, hy, _, hxl, hf⟩ := DataW.trod_struct Tryz.underlying56 h
  match cs, hl with
  | [a, b, c], _ =>
    have k : ∀ i, i < 3 → ∃ x, xs[i]? = some x := fun i hi => ⟨_, List.getElem?_eq_getElem (by rw [hxl]; exact hi)⟩
    have c1 : Tryz.prog.cellsOf 9 = 1 := by kernel_rfl
    have c2 : Tryz.prog.cellsOf 3 = 1 := by kernel_rfl
    obtain ⟨x0, e0⟩ := k 0 (by omega)
    obtain ⟨x1, e1⟩ := k 1 (by omega)
    obtain ⟨x2, e2⟩ := k 2 (by omega)
    have h0 : DataW.trod enc Tryz.prog W 0 (fun _ => true) held m 9 (([a, b, c].drop 0).take (Tryz.prog.cellsOf 9)) = some x0 := (hf 0 _ rfl).trans e0
    have h1 : DataW.trod enc Tryz.prog W 0 (fun _ => true) held m 3 (([a, b, c].drop 1).take (Tryz.prog.cellsOf 3)) = some x1 := (hf 1 _ rfl).trans e1
    have h2 : DataW.trod enc Tryz.prog W 0 (fun _ => true) held m 3 (([a, b, c].drop 2).take (Tryz.prog.cellsOf 3)) = some x2 := (hf 2 _ rfl).trans e2
    rw [c1] at h0
    rw [c2] at h1 h2
    simp only [List.drop, List.take] at h0 h1 h2
    obtain ⟨s0, g0, _, _⟩ := DataW.trod_string Tryz.underlying9 h0
    obtain ⟨k1, g1, _, _⟩ := DataW.trod_int Tryz.underlying3 h1
    obtain ⟨k2, g2, _, _⟩ := DataW.trod_int Tryz.underlying3 h2
    simp only [List.cons.injEq, and_true] at g0 g1 g2
    subst g0 g1 g2
    exact ⟨⟨s0, k1, k2⟩, rfl, trivial⟩
set_option maxHeartbeats 2000000 in
theorem hop_of {H : Type} {enc : TypeId × Value → H} {W : World} (n : Nat) (cs : List Value) (y : DataW H × List MemPlace) (hl : cs.length = 9) (h : DataW.trod enc Tryz.prog W 0 (fun _ => true) true n 59 cs = some y) :
    ∃ z : HOpr, OpR W.heap.size W cs z ∧ True := by
  obtain ⟨xs, m, rfl, hy, _, hxl, hf⟩ := DataW.trod_struct Tryz.underlying59 h
  match cs, hl with
  | [a, b, c, d, e, f, g, sv, at_], _ =>
    obtain ⟨x0, e0, h0⟩ := field_of hf hxl 0 _ rfl 1 (by kernel_rfl)
    obtain ⟨x1, e1, h1⟩ := field_of hf hxl 1 _ rfl 3 (by kernel_rfl)
    obtain ⟨x2, e2, h2⟩ := field_of hf hxl 2 _ rfl 1 (by kernel_rfl)
    obtain ⟨x3, e3, h3⟩ := field_of hf hxl 3 _ rfl 1 (by kernel_rfl)
    obtain ⟨x4, e4, h4⟩ := field_of hf hxl 4 _ rfl 1 (by kernel_rfl)
    obtain ⟨x5, e5, h5⟩ := field_of hf hxl 5 _ rfl 1 (by kernel_rfl)
    obtain ⟨x6, e6, h6⟩ := field_of hf hxl 6 _ rfl 1 (by kernel_rfl)
    have h0 : DataW.trod enc Tryz.prog W 0 (fun _ => true) true m 54 [a] = some x0 := h0
    have h1 : DataW.trod enc Tryz.prog W 0 (fun _ => true) true m 56 [b, c, d] = some x1 := h1
    have h2 : DataW.trod enc Tryz.prog W 0 (fun _ => true) true m 4 [e] = some x2 := h2
    have h3 : DataW.trod enc Tryz.prog W 0 (fun _ => true) true m 9 [f] = some x3 := h3
    have h4 : DataW.trod enc Tryz.prog W 0 (fun _ => true) true m 9 [g] = some x4 := h4
    have h5 : DataW.trod enc Tryz.prog W 0 (fun _ => true) true m 57 [sv] = some x5 := h5
    have h6 : DataW.trod enc Tryz.prog W 0 (fun _ => true) true m 50 [at_] = some x6 := h6
    obtain ⟨k0, g0, _, _⟩ := DataW.trod_int Tryz.underlying54 h0
    obtain ⟨v, g1, _⟩ := ver_of m _ _ rfl h1
    obtain ⟨s3, g3, _, _⟩ := DataW.trod_string Tryz.underlying9 h3
    obtain ⟨s4, g4, _, _⟩ := DataW.trod_string Tryz.underlying9 h4
    obtain ⟨k6, g6, _, _⟩ := DataW.trod_int Tryz.underlying50 h6
    obtain ⟨bb, g2, _⟩ := DataW.trod_bool Tryz.underlying4 h2
    obtain ⟨vs, hv, _⟩ := rows_of (α := HVer) (size := 3) (R := Flat verC) (Q := fun _ _ => True) Tryz.underlying57 (by kernel_rfl) (by omega) (fun n cs y hl h => ver_of n cs y hl h) h5
    simp only [List.cons.injEq, and_true] at g0 g2 g3 g4 g6
    obtain rfl := g0
    obtain rfl := g2
    obtain rfl := g3
    obtain rfl := g4
    obtain rfl := g6
    unfold Flat verC at g1
    simp only [List.cons.injEq, and_true] at g1
    obtain ⟨rfl, rfl, rfl⟩ := g1
    exact ⟨⟨k0, v, bb, s3, s4, vs, k6⟩, ⟨sv, rfl, hv⟩, trivial⟩
end Go.Proofs.YtooigfkjdemnlaaGreatDoor

namespace Go.Proofs.YtooigfkjdemnlaaGreatDoor
set_option maxRecDepth 100000
open Go.ChangeShapes Go.WideShapes Go.ChangeAt Go.RowKit Go.Deep Xw

theorem bulk_one {H : Type} (d : DataW H) : 1 ≤ Rows.uptoBulk d := by
  cases d with
  | lit l => cases l <;> simp [Rows.uptoBulk]
  | nil => simp [Rows.uptoBulk]
  | ptr d => simp [Rows.uptoBulk]
  | slice elems spare => simp [Rows.uptoBulk]
  | agg parts => simp [Rows.uptoBulk]
  | iface t d => simp [Rows.uptoBulk]
  | map entries => simp [Rows.uptoBulk]
  | held h => simp [Rows.uptoBulk]
theorem bulk_part {H : Type} {d : DataW H} : ∀ {l : List (DataW H)}, d ∈ l → Rows.uptoBulk d ≤ Rows.uptoBulkAll l
  | x :: r, h => by
    simp only [Rows.uptoBulkAll]
    rcases List.mem_cons.1 h with rfl | h
    · omega
    · have := bulk_part h; omega
theorem bulk_len {H : Type} : ∀ (l : List (DataW H)), l.length ≤ Rows.uptoBulkAll l
  | [] => by simp [Rows.uptoBulkAll]
  | x :: r => by have := bulk_one x; have := bulk_len r; simp only [Rows.uptoBulkAll, List.length_cons]; omega
set_option maxHeartbeats 2000000 in
theorem txn_of {H : Type} {enc : TypeId × Value → H} {W : World} (n : Nat) (cs : List Value) (y : DataW H × List MemPlace) (hl : cs.length = 9) (h : DataW.trod enc Tryz.prog W 0 (fun _ => true) true n 53 cs = some y) :
    ∃ z : HTx, TxR W.heap.size W cs z ∧ z.ops.length ≤ Rows.uptoBulk y.1 := by
  obtain ⟨xs, m, rfl, hy, _, hxl, hf⟩ := DataW.trod_struct Tryz.underlying53 h
  match cs, hl with
  | [a, b, c, d, e, f, g, i, ov], _ =>
    obtain ⟨x0, e0, h0⟩ := field_of hf hxl 0 _ rfl 1 (by kernel_rfl)
    obtain ⟨x1, e1, h1⟩ := field_of hf hxl 1 _ rfl 1 (by kernel_rfl)
    obtain ⟨x2, e2, h2⟩ := field_of hf hxl 2 _ rfl 1 (by kernel_rfl)
    obtain ⟨x3, e3, h3⟩ := field_of hf hxl 3 _ rfl 1 (by kernel_rfl)
    obtain ⟨x4, e4, h4⟩ := field_of hf hxl 4 _ rfl 1 (by kernel_rfl)
    obtain ⟨x5, e5, h5⟩ := field_of hf hxl 5 _ rfl 1 (by kernel_rfl)
    obtain ⟨x6, e6, h6⟩ := field_of hf hxl 6 _ rfl 1 (by kernel_rfl)
    obtain ⟨x7, e7, h7⟩ := field_of hf hxl 7 _ rfl 1 (by kernel_rfl)
    obtain ⟨x8, e8, h8⟩ := field_of hf hxl 8 _ rfl 1 (by kernel_rfl)
    have h0 : DataW.trod enc Tryz.prog W 0 (fun _ => true) true m 3 [a] = some x0 := h0
    have h1 : DataW.trod enc Tryz.prog W 0 (fun _ => true) true m 49 [b] = some x1 := h1
    have h2 : DataW.trod enc Tryz.prog W 0 (fun _ => true) true m 50 [c] = some x2 := h2
    have h3 : DataW.trod enc Tryz.prog W 0 (fun _ => true) true m 50 [d] = some x3 := h3
    have h4 : DataW.trod enc Tryz.prog W 0 (fun _ => true) true m 3 [e] = some x4 := h4
    have h5 : DataW.trod enc Tryz.prog W 0 (fun _ => true) true m 3 [f] = some x5 := h5
    have h6 : DataW.trod enc Tryz.prog W 0 (fun _ => true) true m 3 [g] = some x6 := h6
    have h7 : DataW.trod enc Tryz.prog W 0 (fun _ => true) true m 3 [i] = some x7 := h7
    have h8 : DataW.trod enc Tryz.prog W 0 (fun _ => true) true m 51 [ov] = some x8 := h8
    obtain ⟨k0, g0, _, _⟩ := DataW.trod_int Tryz.underlying3 h0
    obtain ⟨k1, g1, _, _⟩ := DataW.trod_int Tryz.underlying49 h1
    obtain ⟨k2, g2, _, _⟩ := DataW.trod_int Tryz.underlying50 h2
    obtain ⟨k3, g3, _, _⟩ := DataW.trod_int Tryz.underlying50 h3
    obtain ⟨k4, g4, _, _⟩ := DataW.trod_int Tryz.underlying3 h4
    obtain ⟨k5, g5, _, _⟩ := DataW.trod_int Tryz.underlying3 h5
    obtain ⟨k6, g6, _, _⟩ := DataW.trod_int Tryz.underlying3 h6
    obtain ⟨k7, g7, _, _⟩ := DataW.trod_int Tryz.underlying3 h7
    obtain ⟨os, hv, hq⟩ := rows_of (α := HOpr) (size := 9) (R := OpR W.heap.size) (Q := fun _ _ => True) Tryz.underlying51 (by kernel_rfl) (by omega) (fun n cs y hl h => hop_of n cs y hl h) h8
    simp only [List.cons.injEq, and_true] at g0 g1 g2 g3 g4 g5 g6 g7
    obtain rfl := g0
    obtain rfl := g1
    obtain rfl := g2
    obtain rfl := g3
    obtain rfl := g4
    obtain rfl := g5
    obtain rfl := g6
    obtain rfl := g7
    refine ⟨⟨k0, k1, k2, k3, k4, k5, k6, k7, os⟩, ⟨ov, rfl, hv⟩, ?_⟩
    have hm : x8.1 ∈ xs.map (·.1) := List.mem_map.2 ⟨x8, List.mem_of_getElem? e8, rfl⟩
    have h1 := bulk_part hm
    have h2 : os.length ≤ Rows.uptoBulk x8.1 := by
      rcases hq with ⟨_, rfl⟩ | ⟨D, sp, hd, _⟩
      · simp
      · rw [hd]
        simp only [Rows.uptoBulk]
        have := bulk_len ((List.range os.length).map D)
        simp at this
        omega
    rw [hy]
    simp only [Rows.uptoBulk]
    omega
end Go.Proofs.YtooigfkjdemnlaaGreatDoor

namespace Go.Proofs.YtooigfkjdemnlaaGreatDoor
set_option maxRecDepth 100000
open Go.ChangeShapes Go.WideShapes Go.ChangeAt Go.RowKit Xw

def BansI (w : World) : Prop := w.cell? ⟨0, 0, none⟩ = some (.int .i64 0) ∧ w.cell? ⟨0, 1, none⟩ = some (.int .i64 1) ∧ w.cell? ⟨0, 2, none⟩ = some (.int .i64 0) ∧ w.cell? ⟨0, 3, none⟩ = some (.int .i64 0) ∧ w.cell? ⟨0, 4, none⟩ = some (.int .i64 7) ∧ w.cell? ⟨0, 5, none⟩ = some (.int .i64 8)
theorem BansI.pos {w : World} (h : BansI w) : 0 < w.heap.size := by
  rcases Nat.eq_zero_or_pos w.heap.size with h0 | h0
  · have := h.1
    unfold World.cell? at this
    rw [Array.getElem?_eq_none (by omega)] at this
    cases this
  · exact h0
theorem BansI.below {w w' : World} {B : Nat} (h : BansI w) (hb : Below B w w') (hB : 0 < B) : BansI w' := by
  have k : ∀ i, w'.cell? ⟨0, i, none⟩ = w.cell? ⟨0, i, none⟩ := fun i => hb.cell (p := ⟨0, i, none⟩) hB
  unfold BansI
  simp only [k]
  exact h
theorem gBans : Tryz.prog.globalNamed "strata/adya.bans" = some 0 := by kernel_rfl
theorem tBans : (Tryz.prog.globals[0]?).map (·.type) = some 137 := by kernel_rfl
theorem of_laid {W : World} (h : laidMetH Tryz.prog Rows.adyaLineRow.laid W) : BansI W := by
  rw [MakeChecks.laidMetH_plain _ _ _ (by kernel_rfl)] at h
  obtain ⟨ps, ⟨g0, t0, cs0, f0, p0, q0, hg0, ht0, hv0, hd0, _, _⟩, _, _⟩ := h
  obtain rfl := Option.some.inj (gBans.symm.trans hg0)
  obtain rfl := Option.some.inj (tBans.symm.trans ht0)
  obtain ⟨xs, m1, rfl, hx1, hlen, hn3, hel⟩ := DataW.trod_array Tryz.underlying137 hd0
  have c3 : Tryz.prog.cellsOf 101 = 1 := by kernel_rfl
  have c24 : Tryz.prog.cellsOf 137 = 6 := by kernel_rfl
  simp only [Prod.mk.injEq, Rows.laid_strata_adya_bans, DataW.agg.injEq] at hx1
  have e0 := hel 0 (by decide)
  have e1 := hel 1 (by decide)
  have e2 := hel 2 (by decide)
  have e3 := hel 3 (by decide)
  have e4 := hel 4 (by decide)
  have e5 := hel 5 (by decide)
  obtain ⟨l1⟩ := cs0
  rw [c24] at hlen
  match xs, hn3, hx1, l1, hlen with
  | [x0, x1, x2, x3, x4, x5], _, hx1, [v0, v1, v2, v3, v4, v5], _ =>
    simp only [List.map_cons, List.map_nil, List.cons.injEq] at hx1
    rw [c3] at e0 e1 e2 e3 e4 e5
    obtain ⟨⟨h0, h1, h2, h3, h4, h5, _⟩, _⟩ := hx1
    have key : ∀ (x : DataW Unit × List MemPlace) (v : Value) (n : Int), DataW.trod (fun _ => ()) Tryz.prog W 0 (fun _ => true) false m1 101 [v] = some x → DataW.lit (.int .i64 n) = x.1 → v = .int .i64 n := by
      intro x v n hx hn
      obtain ⟨k, g1, g2, _⟩ := DataW.trod_int Tryz.underlying101 hx
      rw [g2] at hn
      simp only [DataW.lit.injEq, Lit.int.injEq, true_and] at hn
      subst hn
      simpa using g1
    have cell : ∀ i, W.cell? ⟨0, i, none⟩ = [v0, v1, v2, v3, v4, v5][i]? := fun i => by
      have := World.var?_cell hg0 hv0 i
      simpa using this
    unfold BansI
    rw [cell, cell, cell, cell, cell, cell]
    have d0 := key x0 v0 0 e0 h0
    have d1 := key x1 v1 1 e1 h1
    have d2 := key x2 v2 0 e2 h2
    have d3 := key x3 v3 0 e3 h3
    have d4 := key x4 v4 7 e4 h4
    have d5 := key x5 v5 8 e5 h5
    subst d0 d1 d2 d3 d4 d5
    exact ⟨rfl, rfl, rfl, rfl, rfl, rfl⟩

end Go.Proofs.YtooigfkjdemnlaaGreatDoor
