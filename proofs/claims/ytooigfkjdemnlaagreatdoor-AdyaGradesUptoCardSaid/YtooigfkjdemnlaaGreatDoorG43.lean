/- Own texts of this claim, joined in build order: J6, J7, J8, J9. -/
import Derived.Test.YtooigfkjdemnlaaGreatDoorG39
import Derived.Test.YtooigfkjdemnlaaGreatDoorG42
set_option linter.all false
namespace Go.Proofs.YtooigfkjdemnlaaGreatDoor
set_option maxRecDepth 100000

def kX : ByteArray := ⟨#[120]⟩
def kV : ByteArray := ⟨#[118]⟩
def kE : ByteArray := ⟨#[]⟩
def hWk : List HTx := [⟨2, 1, 1, 2, 0, 0, 0, 0, [⟨2, ⟨kX, 0, 0⟩, false, kV, kE, [], 0⟩]⟩, ⟨4, 1, 3, 4, 0, 0, 0, 0, [⟨1, ⟨kX, 0, 1⟩, false, kV, kE, [], 3⟩]⟩]
theorem hWk_fault : histFault hWk = none := by kernel_rfl
theorem hWk_edges : edgesOf hWk = [⟨0, 1, 2, kX⟩] := by kernel_rfl
theorem hWk_com (t : Nat) : com hWk t = true ↔ t = 0 ∨ t = 1 := by
  match t with
  | 0 => exact ⟨fun _ => .inl rfl, fun _ => rfl⟩
  | 1 => exact ⟨fun _ => .inr rfl, fun _ => rfl⟩
  | n + 2 => exact ⟨fun h => (by cases h), fun h => by omega⟩
theorem hWk_rise : ¬ ∃ e ∈ edgesOf hWk, e.to < e.frm := by
  rw [hWk_edges]
  rintro ⟨e, he, h⟩
  simp only [List.mem_singleton] at he
  subst he
  exact absurd h (by decide)
theorem hWk_line : Line hWk [0, 1] := ⟨by decide, fun t => by rw [hWk_com]; simp, fun e he => by
  rw [hWk_edges] at he
  simp only [List.mem_singleton] at he
  subst he
  exact ⟨0, 1, 0, 1, by omega, rfl, rfl, rfl, rfl⟩⟩
theorem hWk_uniq {l : List Nat} (L : Line hWk l) : l = [0, 1] := by
  obtain ⟨i, j, a, b, h1, h2, h3, h4, h5⟩ := L.rise ⟨0, 1, 2, kX⟩ (by rw [hWk_edges]; exact List.mem_singleton.2 rfl)
  simp only at h4 h5
  obtain rfl : a = 0 := by omega
  obtain rfl : b = 1 := by omega
  have hp : l.Perm [0, 1] := (List.perm_ext_iff_of_nodup L.nd (by decide)).2 fun t => by rw [L.cm, hWk_com]; simp
  have hl := hp.length_eq
  match l, hl with
  | [x, y], _ =>
    have hi : i < 2 := (List.getElem?_eq_some_iff.1 h2).1
    have hj : j < 2 := (List.getElem?_eq_some_iff.1 h3).1
    obtain rfl : i = 0 := by omega
    obtain rfl : j = 1 := by omega
    simp at h2 h3
    rw [h2, h3]
theorem hWk_told (bad : Nat → HVer → Bool) (hb : bad 1 ⟨kX, 0, 1⟩ = false) : ¬ ToldB hWk bad := by
  rintro ⟨t, x, o, v, h1, h2, h3, h4, h5, h6⟩
  rcases (hWk_com t).1 h2 with rfl | rfl
  · cases h1
    simp only [List.mem_singleton] at h3
    subst h3
    exact absurd h4 (by simp [seenOf])
  · cases h1
    simp only [List.mem_singleton] at h3
    subst h3
    simp [seenOf] at h4
    subst h4
    rw [hb] at h6
    cases h6
theorem hWk_phen {ps : List Int} (P : PhenL hWk 8 ps) : ps = [] := by
  refine List.eq_nil_iff_forall_not_mem.2 fun x hx => ?_
  obtain ⟨q, h1, h2, h3, -⟩ := (P.2 x).1 hx
  have hq : q = 1 ∨ q = 2 ∨ q = 3 ∨ q = 4 ∨ q = 5 ∨ q = 6 ∨ q = 7 ∨ q = 8 := by omega
  rcases hq with rfl | rfl | rfl | rfl | rfl | rfl | rfl | rfl
  · exact hWk_line.no_cycle h3
  · exact hWk_told _ rfl h3
  · exact hWk_told _ (by kernel_rfl) h3
  · exact hWk_line.no_cycle h3
  · obtain ⟨e, he, h⟩ := h3
    rw [hWk_edges] at he
    simp only [List.mem_singleton] at he
    subst he
    exact absurd h (by decide)
  · obtain ⟨e, he, h, _⟩ := h3
    rw [hWk_edges] at he
    simp only [List.mem_singleton] at he
    subst he
    exact absurd h (by decide)
  · exact hWk_line.no_cycle h3
  · exact hWk_line.no_cycle h3
theorem hWk_replay : ReplayOK hWk [0, 1] := line_replays (fine_of hWk_fault) hWk_line (hWk_told _ rfl) (hWk_told _ (by kernel_rfl))
end Go.Proofs.YtooigfkjdemnlaaGreatDoor

namespace Go.Proofs.YtooigfkjdemnlaaGreatDoor
set_option maxRecDepth 100000

def lWk : List Pt := [⟨0, false, 0⟩, ⟨0, true, 0⟩, ⟨1, false, 0⟩, ⟨1, true, 0⟩]
theorem hWk_pts : ptsRaw hWk hWk.length = lWk := by kernel_rfl
theorem hWk_moments {l : List Pt} (M : Moments hWk l) : l = lWk := by
  have hp := M.1
  rw [hWk_pts] at hp
  refine List.Perm.eq_of_pairwise (le := fun a b => ptLt hWk b a = false) (fun x y hx hy h1 h2 => ?_) M.2 (by decide) hp
  have hx' := hp.mem_iff.1 hx
  simp only [lWk, List.mem_cons, List.not_mem_nil, or_false] at hx' hy
  rcases hx' with rfl | rfl | rfl | rfl <;> rcases hy with rfl | rfl | rfl | rfl <;> first | rfl | exact absurd h1 (by decide) | exact absurd h2 (by decide)
theorem hWk_fits : FitsN hWk lWk lWk.length := by
  intro i p hi hp
  have : i < 4 := hi
  match i, this with
  | 0, _ => cases hp; decide
  | 1, _ => cases hp; decide
  | 2, _ => cases hp; decide
  | 3, _ => cases hp; decide
theorem hWk_run : RunOK hWk lWk := by
  intro p q x hq hc hx hiso
  match p with
  | 0 => cases hq; cases hc
  | 2 => cases hq; cases hc
  | 1 =>
    cases hq; cases hx
    refine ⟨fun u hu => ?_, fun i o ho hk => ?_⟩
    · have : sinceF lWk 1 0 = [] := by kernel_rfl
      rw [show ((⟨0, true, 0⟩ : Pt).txn : Int) = 0 from rfl, this] at hu
      cases hu
    · match i with
      | 0 => cases ho; exact absurd rfl hk
      | i + 1 => cases ho
  | 3 =>
    cases hq; cases hx
    refine ⟨fun u hu => ?_, fun i o ho hk => ?_⟩
    · have : sinceF lWk 3 1 = [] := by kernel_rfl
      rw [show ((⟨1, true, 0⟩ : Pt).txn : Int) = 1 from rfl, this] at hu
      cases hu
    · match i with
      | 0 =>
        cases ho
        unfold SameP
        rw [if_pos rfl]
        kernel_rfl
      | i + 1 => cases ho
  | n + 4 => cases hq
end Go.Proofs.YtooigfkjdemnlaaGreatDoor

namespace Go.Proofs.YtooigfkjdemnlaaGreatDoor
set_option maxRecDepth 100000
open Go.RowKit Go.Lib Go.Sort Go.Shelf Xw

def wkOp0 : List Value := [.int .i64 2, .string kX, .int .i64 0, .int .i64 0, .bool false, .string kV, .string kE, .slice none 0 0, .int .u64 0]
def wkOp1 : List Value := [.int .i64 1, .string kX, .int .i64 0, .int .i64 1, .bool false, .string kV, .string kE, .slice none 0 0, .int .u64 3]
def wkTx (b : Nat) : List Value := [.int .i64 2, .int .i64 1, .int .u64 1, .int .u64 2, .int .i64 0, .int .i64 0, .int .i64 0, .int .i64 0, .slice (some ⟨b, 0, none⟩) 1 1, .int .i64 4, .int .i64 1, .int .u64 3, .int .u64 4, .int .i64 0, .int .i64 0, .int .i64 0, .int .i64 0, .slice (some ⟨b + 1, 0, none⟩) 1 1]
theorem lit_cell {w : World} {b : Nat} {cs : List Value} {ty : TypeId} (h : w.heap[b]? = some (.cells cs.toArray ty)) {k : Nat} {u : Value} (hu : cs[k]? = some u) : w.cell? ⟨b, k, none⟩ = some u := by
  rw [(cells_of h).1 k, hu]
theorem wk_hist {W : World} {n : Nat} {t0 t1 t2 : TypeId} (h0 : W.heap[n]? = some (.cells wkOp0.toArray t0)) (h1 : W.heap[n + 1]? = some (.cells wkOp1.toArray t1)) (h2 : W.heap[n + 2]? = some (.cells (wkTx n).toArray t2)) :
    HistV W (n + 3) (.slice (some ⟨n + 2, 0, none⟩) 2 2) hWk := by
  have r0 : Rows W (n + 3) 9 (OpR (n + 3)) (.slice (some ⟨n, 0, none⟩) 1 1) [⟨2, ⟨kX, 0, 0⟩, false, kV, kE, [], 0⟩] := by
    refine .inr ⟨n, 0, 1, rfl, by omega, by simp, by simp only [maxLen]; omega, by simp, fun i x hx => ?_⟩
    match i with
    | 0 => cases hx; exact ⟨wkOp0, rfl, ⟨.slice none 0 0, rfl, Rows.nil 0 (by simp) none⟩, fun j u hu => by simpa using lit_cell h0 hu⟩
    | i + 1 => cases hx
  have r1 : Rows W (n + 3) 9 (OpR (n + 3)) (.slice (some ⟨n + 1, 0, none⟩) 1 1) [⟨1, ⟨kX, 0, 1⟩, false, kV, kE, [], 3⟩] := by
    refine .inr ⟨n + 1, 0, 1, rfl, by omega, by simp, by simp only [maxLen]; omega, by simp, fun i x hx => ?_⟩
    match i with
    | 0 => cases hx; exact ⟨wkOp1, rfl, ⟨.slice none 0 0, rfl, Rows.nil 0 (by simp) none⟩, fun j u hu => by simpa using lit_cell h1 hu⟩
    | i + 1 => cases hx
  refine .inr ⟨n + 2, 0, 2, rfl, by omega, by simp [hWk], by simp only [maxLen]; omega, by simp [hWk], fun i x hx => ?_⟩
  match i with
  | 0 => cases hx; exact ⟨(wkTx n).take 9, rfl, ⟨_, rfl, r0⟩, fun j u hu => by
      have hj : j < 9 := by simpa [wkTx] using (List.getElem?_eq_some_iff.1 hu).1
      rw [List.getElem?_take, if_pos hj] at hu
      simpa using lit_cell h2 hu⟩
  | 1 => cases hx; exact ⟨(wkTx n).drop 9, rfl, ⟨_, rfl, r1⟩, fun j u hu => by
      rw [List.getElem?_drop] at hu
      simpa using lit_cell h2 hu⟩
  | i + 2 => cases hx
def wkW (w : World) : World := ((((w.alloc (.cells wkOp0.toArray 59)).alloc (.cells wkOp1.toArray 59)).alloc (.cells (wkTx w.heap.size).toArray 53)).alloc (.cells #[.slice (some ⟨w.heap.size + 1 + 1, 0, none⟩) 2 2] 28))
theorem size_al2 (w : World) (o : Obj) : (w.alloc o).heap.size = w.heap.size + 1 := by simp
theorem wkW_size (w : World) : (wkW w).heap.size = w.heap.size + 4 := by simp [wkW]
theorem wkW_below (w : World) : Below w.heap.size w (wkW w) := by
  unfold wkW
  exact (((bel1 w _).trans ((bel1 _ _).mono (by simp only [size_al2]; omega))).trans ((bel1 _ _).mono (by simp only [size_al2]; omega))).trans ((bel1 _ _).mono (by simp only [size_al2]; omega))
theorem wkW_box (w : World) : (wkW w).heap[w.heap.size + 3]? = some (.cells #[.slice (some ⟨w.heap.size + 2, 0, none⟩) 2 2] 28) := by
  unfold wkW
  rw [show w.heap.size + 3 = (((w.alloc (.cells wkOp0.toArray 59)).alloc (.cells wkOp1.toArray 59)).alloc (.cells (wkTx w.heap.size).toArray 53)).heap.size by simp]
  exact heap_alloc_new _ _
theorem wkW_hist (w : World) : HistV (wkW w) (w.heap.size + 3) (.slice (some ⟨w.heap.size + 2, 0, none⟩) 2 2) hWk := by
  refine wk_hist (t0 := 59) (t1 := 59) (t2 := 53) ?_ ?_ ?_
  · unfold wkW
    rw [heap_alloc_lt (by simp only [size_al2]; omega), heap_alloc_lt (by simp only [size_al2]; omega), heap_alloc_lt (by simp only [size_al2]; omega)]
    exact heap_alloc_new _ _
  · unfold wkW
    rw [heap_alloc_lt (by simp only [size_al2]; omega), heap_alloc_lt (by simp only [size_al2]; omega), show w.heap.size + 1 = (w.alloc (.cells wkOp0.toArray 59)).heap.size by simp only [size_al2]]
    exact heap_alloc_new _ _
  · unfold wkW
    rw [heap_alloc_lt (by simp only [size_al2]; omega), show w.heap.size + 2 = ((w.alloc (.cells wkOp0.toArray 59)).alloc (.cells wkOp1.toArray 59)).heap.size by simp only [size_al2]]
    exact heap_alloc_new _ _
end Go.Proofs.YtooigfkjdemnlaaGreatDoor

namespace Go.Proofs.YtooigfkjdemnlaaGreatDoor
set_option maxRecDepth 100000
open Go.RowKit Go.Lib Go.Sort Go.Shelf Xw

theorem wk_ord (w : World) : Rows (w.alloc (.cells #[.int .i64 0, .int .i64 1] 3)) (w.heap.size + 1) 1 (Flat intC) (.slice (some ⟨w.heap.size, 0, none⟩) 2 2) [0, 1] := by
  have h : ∀ (k : Nat) (u : Value), [Value.int .i64 0, Value.int .i64 1][k]? = some u → (w.alloc (.cells #[.int .i64 0, .int .i64 1] 3)).cell? ⟨w.heap.size, k, none⟩ = some u := fun k u hu => lit_cell (cs := [Value.int .i64 0, Value.int .i64 1]) (heap_alloc_new _ _) hu
  refine .inr ⟨w.heap.size, 0, 2, rfl, by omega, by simp, by simp only [maxLen]; omega, by simp, fun i x hx => ?_⟩
  match i with
  | 0 => cases hx; exact ⟨[.int .i64 0], rfl, rfl, fun j u hu => by
      match j with
      | 0 => cases hu; exact h 0 _ rfl
      | j + 1 => cases hu⟩
  | 1 => cases hx; exact ⟨[.int .i64 1], rfl, rfl, fun j u hu => by
      match j with
      | 0 => cases hu; exact h 1 _ rfl
      | j + 1 => cases hu⟩
  | i + 2 => cases hx
theorem wk_two {w : World} {lo : Nat} {v : Value} (h : RowsN w lo 1 intC v [0, 1]) : ∃ b o c, v = .slice (some ⟨b, o, none⟩) 2 c ∧ b < w.heap.size ∧ ∀ W, Below w.heap.size w W → W.cell? ⟨b, o, none⟩ = some (.int .i64 0) ∧ W.cell? ⟨b, o + 1, none⟩ = some (.int .i64 1) := by
  obtain ⟨b, o, c, hq, hb, h0⟩ := h.1.get1 (i := 0) (x := 0) rfl (wr := w) (fun _ _ => rfl) rfl
  obtain ⟨b', o', c', hq', hb', h1⟩ := h.1.get1 (i := 1) (x := 1) rfl (wr := w) (fun _ _ => rfl) rfl
  rw [hq] at hq'
  cases hq'
  exact ⟨b, o, c, hq, hb, fun W hB => ⟨(World.cell?_of_block (a := ⟨b, o, none⟩) (hB.block b hb)).trans h0, (World.cell?_of_block (a := ⟨b, o + 1, none⟩) (hB.block b hb)).trans h1⟩⟩
theorem wk_edge {w : World} {lo : Nat} {v : Value} (h : RowsN w lo 4 edgeC v [⟨0, 1, 2, kX⟩]) : ∃ b o c, v = .slice (some ⟨b, o, none⟩) 1 c ∧ b < w.heap.size ∧ ∀ W, Below w.heap.size w W → W.cell? ⟨b, o, none⟩ = some (.int .i64 0) ∧ W.cell? ⟨b, o + 1, none⟩ = some (.int .i64 1) ∧ W.cell? ⟨b, o + 2, none⟩ = some (.int .i64 2) ∧ W.cell? ⟨b, o + 3, none⟩ = some (.string ⟨#[120]⟩) := by
  obtain ⟨b, o, c, hq, hb, h0, h1, h2, h3⟩ := h.1.get4 (i := 0) (x := ⟨0, 1, 2, kX⟩) rfl (wr := w) (fun _ _ => rfl) rfl
  simp only [Nat.zero_mul, Nat.add_zero] at h0 h1 h2 h3
  exact ⟨b, o, c, hq, hb, fun W hB => ⟨(World.cell?_of_block (a := ⟨b, o, none⟩) (hB.block b hb)).trans h0, (World.cell?_of_block (a := ⟨b, o + 1, none⟩) (hB.block b hb)).trans h1, (World.cell?_of_block (a := ⟨b, o + 2, none⟩) (hB.block b hb)).trans h2, (World.cell?_of_block (a := ⟨b, o + 3, none⟩) (hB.block b hb)).trans h3⟩⟩
set_option maxHeartbeats 16000000 in
theorem works_ (w : World) : Calls Tryz.prog 5 #[] w fun e w' => e = .returned (.bool true) ∧ Below w.heap.size w w' := by
  obtain ⟨W4, hW4⟩ : ∃ W4, W4 = wkW w := ⟨_, rfl⟩
  have hWl : W4 = ((((w.alloc (.cells #[.int .i64 2, .string ⟨#[120]⟩, .int .i64 0, .int .i64 0, .bool false, .string ⟨#[118]⟩, .string ⟨#[]⟩, .slice none 0 0, .int .u64 0] 59)).alloc (.cells #[.int .i64 1, .string ⟨#[120]⟩, .int .i64 0, .int .i64 1, .bool false, .string ⟨#[118]⟩, .string ⟨#[]⟩, .slice none 0 0, .int .u64 3] 59)).alloc (.cells #[.int .i64 2, .int .i64 1, .int .u64 1, .int .u64 2, .int .i64 0, .int .i64 0, .int .i64 0, .int .i64 0, .slice (some ⟨w.heap.size, 0, none⟩) 1 1, .int .i64 4, .int .i64 1, .int .u64 3, .int .u64 4, .int .i64 0, .int .i64 0, .int .i64 0, .int .i64 0, .slice (some ⟨w.heap.size + 1, 0, none⟩) 1 1] 53)).alloc (.cells #[.slice (some ⟨w.heap.size + 1 + 1, 0, none⟩) 2 2] 28)) := hW4
  have hz4 : W4.heap.size = w.heap.size + 4 := by rw [hW4]; exact wkW_size w
  have hB4 : Below w.heap.size w W4 := by rw [hW4]; exact wkW_below w
  have hbox : W4.heap[w.heap.size + 3]? = some (.cells #[.slice (some ⟨w.heap.size + 2, 0, none⟩) 2 2] 28) := by rw [hW4]; exact wkW_box w
  have hhi : HistV W4 (w.heap.size + 3) (.slice (some ⟨w.heap.size + 2, 0, none⟩) 2 2) hWk := by rw [hW4]; exact wkW_hist w
  have hops : ∀ x ∈ hWk, x.ops.length ≤ 1048576 := by simp [hWk]
  have hbx : ∀ W, Below W4.heap.size W4 W → W.cell? ⟨w.heap.size + 3, 0, none⟩ = some (.slice (some ⟨w.heap.size + 2, 0, none⟩) 2 2) ∧ w.heap.size + 3 < W.heap.size := fun W hb =>
    ⟨(World.cell?_of_block (a := ⟨w.heap.size + 3, 0, none⟩) (hb.block (w.heap.size + 3) (by omega))).trans ((cells_of (cs := [.slice (some ⟨w.heap.size + 2, 0, none⟩) 2 2]) hbox).1 0), by have := hb.size; omega⟩
  have hk : ∀ W, Below W4.heap.size W4 W → HistV W (w.heap.size + 3) (.slice (some ⟨w.heap.size + 2, 0, none⟩) 2 2) hWk ∧ w.heap.size + 3 ≤ W.heap.size := fun W hb => ⟨hhi.keep (fun j hj => hb.block j (by omega)), by have := hb.size; omega⟩
  have HK := Lib.hid hk
  have HBX := Lib.hid hbx
  have HW4 := Lib.hid hWl
  have HZ := Lib.hid hz4
  have HB4 := Lib.hid hB4
  clear hk hbx hWl hW4 hz4 hB4 hbox hhi
  have e0 : errOf (histFault hWk) = 0 := by rw [hWk_fault]; rfl
  have e1 : txnOf (histFault hWk) = 0 := by rw [hWk_fault]; rfl
  have e2 : opOf (histFault hWk) = 0 := by rw [hWk_fault]; rfl
  go_enter Tryz.func5, Tryz.ntmps5
  go_upto_region 2 with (fail)
  rw [← HW4.out]
  obtain ⟨o4, p4⟩ := HBX.out W4 (Below.refl _ _)
  go_upto_region 4 with (first
    | (go_at_call 7; refine (checkC_ (HK.out W4 (Below.refl _ _)).1 (HK.out W4 (Below.refl _ _)).2 hops).mono ?_
       rintro e w5 ⟨rfl, hB5⟩
       rw [e0, e1, e2]
       obtain ⟨o5, p5⟩ := HBX.out w5 hB5
       have HB5 := Lib.hid hB5
       clear hB5)
    | (go_at_call 10; refine (serial_ (HK.out w5 HB5.out).1 (HK.out w5 HB5.out).2 hops).mono ?_
       rintro e w6 ⟨hB6, sv, sn, rfl, hs⟩
       obtain ⟨rfl, hs1⟩ : sn = 0 ∧ RowsN w6 w5.heap.size 1 intC sv [0, 1] := by
         rcases hs with ⟨h1, _⟩ | ⟨_, _, h1⟩ | ⟨_, h1, l, h2, h3⟩
         · exact absurd hWk_fault h1
         · exact absurd h1 hWk_rise
         · rw [hWk_uniq h2] at h3
           exact ⟨h1, h3⟩
       obtain ⟨sb, so, sc, rfl, hsb, hsc⟩ := wk_two hs1
       have HSC := Lib.hid hsc
       have HB6 := Lib.hid (HB5.out.trans (hB6.mono HB5.out.size))
       obtain ⟨o6, p6⟩ := HBX.out w6 HB6.out
       clear hB6 hs hs1 hsc))
  have h6B : Below w6.heap.size w6 (w6.alloc (.cells #[.int .i64 0, .int .i64 1] 3)) := bel1 _ _
  have hrp := replay_ ((HK.out _ (HB6.out.trans (h6B.mono HB6.out.size))).1.more (B' := w6.heap.size + 1) (by omega)) (by simp) (wk_ord w6) hops
  have HRP := Lib.hid hrp
  have H6B := Lib.hid h6B
  clear hrp h6B
  go_upto_region 7 with (first
    | (go_at_call 9; with_reducible refine HRP.out.mono ?_
       rintro e w7 ⟨hB7, b, n, rfl, hr⟩
       obtain ⟨rfl, rfl⟩ : n = 0 ∧ b = true := by
         rcases hr with ⟨h1, _⟩ | ⟨_, _, h1⟩ | ⟨_, h1, l, h2, h3⟩
         · exact absurd hWk_fault h1
         · exact absurd ⟨[0, 1], hWk_line.ord⟩ h1
         · refine ⟨h1, h3.2 ?_⟩
           rw [h2.uniq (b := [0, 1]) hWk_line.ord]
           exact hWk_replay
       have HC7 := Lib.hid (H6B.out.trans (hB7.mono H6B.out.size))
       have HB7 := Lib.hid (HB6.out.trans (HC7.out.mono HB6.out.size))
       obtain ⟨o7, p7⟩ := HBX.out w7 HB7.out
       clear hB7 hr)
    | (go_at_call 15; refine (edges_ (HK.out w7 HB7.out).1 (HK.out w7 HB7.out).2 hops).mono ?_
       rintro e w8 ⟨hB8, ev, rfl, he⟩
       rw [e0]
       have he' := he hWk_fault
       rw [hWk_edges] at he'
       obtain ⟨eb, eo, ec, rfl, heb, hec⟩ := wk_edge he'
       have HEC := Lib.hid hec
       have HC8 := Lib.hid (HC7.out.trans (hB8.mono HC7.out.size))
       have HB8 := Lib.hid (HB7.out.trans (hB8.mono HB7.out.size))
       obtain ⟨o8, p8⟩ := HBX.out w8 HB8.out
       clear hB8 he he' hec)
    | (go_at_call 12; refine (phenomena_ (HK.out w8 HB8.out).1 (HK.out w8 HB8.out).2 hops).mono ?_
       rintro e w9 ⟨hB9, pv, rfl, hp⟩
       rw [e0]
       obtain ⟨ps, hp1, hp2⟩ := hp hWk_fault
       obtain rfl := hWk_phen hp1
       obtain ⟨PA, pc, rfl, _, _⟩ := hp2.1.shape
       have HC9 := Lib.hid (HC8.out.trans (hB9.mono HC8.out.size))
       have HB9 := Lib.hid (HB8.out.trans (hB9.mono HB8.out.size))
       obtain ⟨q0, q1⟩ := HSC.out w9 HC9.out
       obtain ⟨r0, r1, r2, r3⟩ := HEC.out w9 hB9
       have hz9 : sb < w9.heap.size := by have := HC9.out.size; omega
       have hy9 : eb < w9.heap.size := by have := hB9.size; omega
       have HD9 := Lib.hid hB9
       obtain ⟨o9, p9⟩ := HBX.out w9 HB9.out
       clear hB9 hp hp1 hp2))
  have heq : ∀ W : World, (binOp .eql 66 (.agg #[.int .i64 0, .int .i64 1, .int .i64 2, .string ⟨#[120]⟩]) (.agg #[.int .i64 0, .int .i64 1, .int .i64 2, .string ⟨#[120]⟩])).run Tryz.prog W = .ok (.bool true) W := fun W => by kernel_rfl
  go_upto_region 9 with (first
    | (go_at_call 8; refine (num_ _ _).mono ?_; rintro e w10 ⟨rfl, rfl⟩))
  go_upto_region 10 with (first
    | (go_at_call 13; refine (embed_ (HK.out w9 HB9.out).1 (HK.out w9 HB9.out).2 hops).mono ?_
       rintro e w10 ⟨hB10, MA, k, mc, n, rfl, hm⟩
       obtain ⟨rfl, rfl⟩ : n = 0 ∧ k = 4 := by
         rcases hm with ⟨h1, _⟩ | ⟨_, l, h1, h2⟩
         · exact absurd hWk_fault h1
         · obtain rfl := hWk_moments h1
           rcases h2 with ⟨h2, h3, _⟩ | ⟨_, h2⟩
           · exact ⟨h2, h3⟩
           · exact absurd ⟨hWk_fits, hWk_run⟩ h2
       obtain ⟨r0', r1', r2', r3'⟩ := HEC.out w10 (HD9.out.trans (hB10.mono HD9.out.size))
       have hy10 : eb < w10.heap.size := by have := hB10.size; omega
       have HB10 := Lib.hid (HB4.out.trans ((HB9.out.trans (hB10.mono HB9.out.size)).mono HB4.out.size))
       clear hB10 hm))
  clear r0 r1 r2 r3
  go_wp2_with (go_at_call 8; refine (num_ _ _).mono ?_; rintro e w11 ⟨rfl, rfl⟩)
  go_ret
  exact ⟨rfl, HB10.out⟩
end Go.Proofs.YtooigfkjdemnlaaGreatDoor
