/- Own texts of this claim, joined in build order: La1, La2. -/
import Derived.Test.YtooigfkjdemnlaaGreatM07
import Derived.Test.YtooigfkjdemnlaaGreatM44
set_option linter.all false
namespace Go.Proofs.YtooigfkjdemnlaaGreat
set_option maxRecDepth 100000
open Go.ChangeShapes Go.WideShapes Go.ChangeAt Go.RowKit Go.Deep Xw

/-- A version that was handed in. -/
theorem ver_of {H : Type} {enc : TypeId × Value → H} {W : World} {held : Bool} (n : Nat) (cs : List Value) (y : DataW H × List MemPlace) (hl : cs.length = 3) (h : DataW.trod enc Tryz.prog W 0 (fun _ => true) held n 50 cs = some y) :
    ∃ z : HVer, Flat verC W cs z ∧ True := by
  obtain ⟨xs, m, rfl, hy, _, hxl, hf⟩ := DataW.trod_struct Tryz.underlying50 h
  match cs, hl with
  | [a, b, c], _ =>
    have k : ∀ i, i < 3 → ∃ x, xs[i]? = some x := fun i hi => ⟨_, List.getElem?_eq_getElem (by rw [hxl]; exact hi)⟩
    have c1 : Tryz.prog.cellsOf 9 = 1 := by kernel_rfl
    have c2 : Tryz.prog.cellsOf 3 = 1 := by kernel_rfl
    obtain ⟨x0, e0⟩ := k 0 (by omega)
    obtain ⟨x1, e1⟩ := k 1 (by omega)
    obtain ⟨x2, e2⟩ := k 2 (by omega)
    have h0 : DataW.trod enc Tryz.prog W 0 (fun _ => true) held m 9 (([a, b, c].drop 0).take (Tryz.prog.cellsOf 9)) = some x0 := (hf 0 _ rfl).trans e0
    have h1 : DataW.trod enc Tryz.prog W 0 (fun _ => true) held m 3 (([a, b, c].drop 1).take (Tryz.prog.cellsOf 3)) = some x1 := (hf 1 _ rfl).trans e1
    have h2 : DataW.trod enc Tryz.prog W 0 (fun _ => true) held m 3 (([a, b, c].drop 2).take (Tryz.prog.cellsOf 3)) = some x2 := (hf 2 _ rfl).trans e2
    rw [c1] at h0
    rw [c2] at h1 h2
    simp only [List.drop, List.take] at h0 h1 h2
    obtain ⟨s0, g0, _, _⟩ := DataW.trod_string Tryz.underlying9 h0
    obtain ⟨k1, g1, _, _⟩ := DataW.trod_int Tryz.underlying3 h1
    obtain ⟨k2, g2, _, _⟩ := DataW.trod_int Tryz.underlying3 h2
    simp only [List.cons.injEq, and_true] at g0 g1 g2
    subst g0 g1 g2
    exact ⟨⟨s0, k1, k2⟩, rfl, trivial⟩
set_option maxHeartbeats 2000000 in
/-- An operation that was handed in. -/
theorem hop_of {H : Type} {enc : TypeId × Value → H} {W : World} (n : Nat) (cs : List Value) (y : DataW H × List MemPlace) (hl : cs.length = 9) (h : DataW.trod enc Tryz.prog W 0 (fun _ => true) true n 53 cs = some y) :
    ∃ z : HOpr, OpR W.heap.size W cs z ∧ True := by
  obtain ⟨xs, m, rfl, hy, _, hxl, hf⟩ := DataW.trod_struct Tryz.underlying53 h
  match cs, hl with
  | [a, b, c, d, e, f, g, sv, at_], _ =>
    obtain ⟨x0, e0, h0⟩ := field_of hf hxl 0 _ rfl 1 (by kernel_rfl)
    obtain ⟨x1, e1, h1⟩ := field_of hf hxl 1 _ rfl 3 (by kernel_rfl)
    obtain ⟨x2, e2, h2⟩ := field_of hf hxl 2 _ rfl 1 (by kernel_rfl)
    obtain ⟨x3, e3, h3⟩ := field_of hf hxl 3 _ rfl 1 (by kernel_rfl)
    obtain ⟨x4, e4, h4⟩ := field_of hf hxl 4 _ rfl 1 (by kernel_rfl)
    obtain ⟨x5, e5, h5⟩ := field_of hf hxl 5 _ rfl 1 (by kernel_rfl)
    obtain ⟨x6, e6, h6⟩ := field_of hf hxl 6 _ rfl 1 (by kernel_rfl)
    have h0 : DataW.trod enc Tryz.prog W 0 (fun _ => true) true m 48 [a] = some x0 := h0
    have h1 : DataW.trod enc Tryz.prog W 0 (fun _ => true) true m 50 [b, c, d] = some x1 := h1
    have h2 : DataW.trod enc Tryz.prog W 0 (fun _ => true) true m 4 [e] = some x2 := h2
    have h3 : DataW.trod enc Tryz.prog W 0 (fun _ => true) true m 9 [f] = some x3 := h3
    have h4 : DataW.trod enc Tryz.prog W 0 (fun _ => true) true m 9 [g] = some x4 := h4
    have h5 : DataW.trod enc Tryz.prog W 0 (fun _ => true) true m 51 [sv] = some x5 := h5
    have h6 : DataW.trod enc Tryz.prog W 0 (fun _ => true) true m 47 [at_] = some x6 := h6
    obtain ⟨k0, g0, _, _⟩ := DataW.trod_int Tryz.underlying48 h0
    obtain ⟨v, g1, _⟩ := ver_of m _ _ rfl h1
    obtain ⟨s3, g3, _, _⟩ := DataW.trod_string Tryz.underlying9 h3
    obtain ⟨s4, g4, _, _⟩ := DataW.trod_string Tryz.underlying9 h4
    obtain ⟨k6, g6, _, _⟩ := DataW.trod_int Tryz.underlying47 h6
    obtain ⟨bb, g2, _⟩ := DataW.trod_bool Tryz.underlying4 h2
    obtain ⟨vs, hv, _⟩ := rows_of (α := HVer) (size := 3) (R := Flat verC) (Q := fun _ _ => True) Tryz.underlying51 (by kernel_rfl) (by omega) (fun n cs y hl h => ver_of n cs y hl h) h5
    simp only [List.cons.injEq, and_true] at g0 g2 g3 g4 g6
    obtain rfl := g0
    obtain rfl := g2
    obtain rfl := g3
    obtain rfl := g4
    obtain rfl := g6
    unfold Flat verC at g1
    simp only [List.cons.injEq, and_true] at g1
    obtain ⟨rfl, rfl, rfl⟩ := g1
    exact ⟨⟨k0, v, bb, s3, s4, vs, k6⟩, ⟨sv, rfl, hv⟩, trivial⟩
end Go.Proofs.YtooigfkjdemnlaaGreat

namespace Go.Proofs.YtooigfkjdemnlaaGreat
set_option maxRecDepth 100000
open Go.ChangeShapes Go.WideShapes Go.ChangeAt Go.RowKit Go.Deep Xw

theorem bulk_one {H : Type} (d : DataW H) : 1 ≤ Rows.uptoBulk d := by
  cases d with
  | lit l => cases l <;> simp [Rows.uptoBulk]
  | nil => simp [Rows.uptoBulk]
  | ptr d => simp [Rows.uptoBulk]
  | slice elems spare => simp [Rows.uptoBulk]
  | agg parts => simp [Rows.uptoBulk]
  | iface t d => simp [Rows.uptoBulk]
  | map entries => simp [Rows.uptoBulk]
  | held h => simp [Rows.uptoBulk]
theorem bulk_part {H : Type} {d : DataW H} : ∀ {l : List (DataW H)}, d ∈ l → Rows.uptoBulk d ≤ Rows.uptoBulkAll l
  | x :: r, h => by
    simp only [Rows.uptoBulkAll]
    rcases List.mem_cons.1 h with rfl | h
    · omega
    · have := bulk_part h; omega
theorem bulk_len {H : Type} : ∀ (l : List (DataW H)), l.length ≤ Rows.uptoBulkAll l
  | [] => by simp [Rows.uptoBulkAll]
  | x :: r => by have := bulk_one x; have := bulk_len r; simp only [Rows.uptoBulkAll, List.length_cons]; omega
set_option maxHeartbeats 2000000 in
/-- A transaction that was handed in. -/
theorem txn_of {H : Type} {enc : TypeId × Value → H} {W : World} (n : Nat) (cs : List Value) (y : DataW H × List MemPlace) (hl : cs.length = 9) (h : DataW.trod enc Tryz.prog W 0 (fun _ => true) true n 56 cs = some y) :
    ∃ z : HTx, TxR W.heap.size W cs z ∧ z.ops.length ≤ Rows.uptoBulk y.1 := by
  obtain ⟨xs, m, rfl, hy, _, hxl, hf⟩ := DataW.trod_struct Tryz.underlying56 h
  match cs, hl with
  | [a, b, c, d, e, f, g, i, ov], _ =>
    obtain ⟨x0, e0, h0⟩ := field_of hf hxl 0 _ rfl 1 (by kernel_rfl)
    obtain ⟨x1, e1, h1⟩ := field_of hf hxl 1 _ rfl 1 (by kernel_rfl)
    obtain ⟨x2, e2, h2⟩ := field_of hf hxl 2 _ rfl 1 (by kernel_rfl)
    obtain ⟨x3, e3, h3⟩ := field_of hf hxl 3 _ rfl 1 (by kernel_rfl)
    obtain ⟨x4, e4, h4⟩ := field_of hf hxl 4 _ rfl 1 (by kernel_rfl)
    obtain ⟨x5, e5, h5⟩ := field_of hf hxl 5 _ rfl 1 (by kernel_rfl)
    obtain ⟨x6, e6, h6⟩ := field_of hf hxl 6 _ rfl 1 (by kernel_rfl)
    obtain ⟨x7, e7, h7⟩ := field_of hf hxl 7 _ rfl 1 (by kernel_rfl)
    obtain ⟨x8, e8, h8⟩ := field_of hf hxl 8 _ rfl 1 (by kernel_rfl)
    have h0 : DataW.trod enc Tryz.prog W 0 (fun _ => true) true m 3 [a] = some x0 := h0
    have h1 : DataW.trod enc Tryz.prog W 0 (fun _ => true) true m 46 [b] = some x1 := h1
    have h2 : DataW.trod enc Tryz.prog W 0 (fun _ => true) true m 47 [c] = some x2 := h2
    have h3 : DataW.trod enc Tryz.prog W 0 (fun _ => true) true m 47 [d] = some x3 := h3
    have h4 : DataW.trod enc Tryz.prog W 0 (fun _ => true) true m 3 [e] = some x4 := h4
    have h5 : DataW.trod enc Tryz.prog W 0 (fun _ => true) true m 3 [f] = some x5 := h5
    have h6 : DataW.trod enc Tryz.prog W 0 (fun _ => true) true m 3 [g] = some x6 := h6
    have h7 : DataW.trod enc Tryz.prog W 0 (fun _ => true) true m 3 [i] = some x7 := h7
    have h8 : DataW.trod enc Tryz.prog W 0 (fun _ => true) true m 54 [ov] = some x8 := h8
    obtain ⟨k0, g0, _, _⟩ := DataW.trod_int Tryz.underlying3 h0
    obtain ⟨k1, g1, _, _⟩ := DataW.trod_int Tryz.underlying46 h1
    obtain ⟨k2, g2, _, _⟩ := DataW.trod_int Tryz.underlying47 h2
    obtain ⟨k3, g3, _, _⟩ := DataW.trod_int Tryz.underlying47 h3
    obtain ⟨k4, g4, _, _⟩ := DataW.trod_int Tryz.underlying3 h4
    obtain ⟨k5, g5, _, _⟩ := DataW.trod_int Tryz.underlying3 h5
    obtain ⟨k6, g6, _, _⟩ := DataW.trod_int Tryz.underlying3 h6
    obtain ⟨k7, g7, _, _⟩ := DataW.trod_int Tryz.underlying3 h7
    obtain ⟨os, hv, hq⟩ := rows_of (α := HOpr) (size := 9) (R := OpR W.heap.size) (Q := fun _ _ => True) Tryz.underlying54 (by kernel_rfl) (by omega) (fun n cs y hl h => hop_of n cs y hl h) h8
    simp only [List.cons.injEq, and_true] at g0 g1 g2 g3 g4 g5 g6 g7
    obtain rfl := g0
    obtain rfl := g1
    obtain rfl := g2
    obtain rfl := g3
    obtain rfl := g4
    obtain rfl := g5
    obtain rfl := g6
    obtain rfl := g7
    refine ⟨⟨k0, k1, k2, k3, k4, k5, k6, k7, os⟩, ⟨ov, rfl, hv⟩, ?_⟩
    have hm : x8.1 ∈ xs.map (·.1) := List.mem_map.2 ⟨x8, List.mem_of_getElem? e8, rfl⟩
    have h1 := bulk_part hm
    have h2 : os.length ≤ Rows.uptoBulk x8.1 := by
      rcases hq with ⟨_, rfl⟩ | ⟨D, sp, hd, _⟩
      · simp
      · rw [hd]
        simp only [Rows.uptoBulk]
        have := bulk_len ((List.range os.length).map D)
        simp at this
        omega
    rw [hy]
    simp only [Rows.uptoBulk]
    omega
end Go.Proofs.YtooigfkjdemnlaaGreat
