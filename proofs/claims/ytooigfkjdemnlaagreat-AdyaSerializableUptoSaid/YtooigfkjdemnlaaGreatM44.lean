/- Own texts of this claim, joined in build order: J9, J10. -/
import Derived.Test.YtooigfkjdemnlaaGreatM43
set_option linter.all false
namespace Go.Proofs.YtooigfkjdemnlaaGreat
set_option maxRecDepth 100000
open Go.RowKit Go.Lib Go.Sort Go.Shelf Xw

theorem wk_ord (w : World) : Rows (w.alloc (.cells #[.int .i64 0, .int .i64 1] 3)) (w.heap.size + 1) 1 (Flat intC) (.slice (some ⟨w.heap.size, 0, none⟩) 2 2) [0, 1] := by
  have h : ∀ (k : Nat) (u : Value), [Value.int .i64 0, Value.int .i64 1][k]? = some u → (w.alloc (.cells #[.int .i64 0, .int .i64 1] 3)).cell? ⟨w.heap.size, k, none⟩ = some u := fun k u hu => lit_cell (cs := [Value.int .i64 0, Value.int .i64 1]) (heap_alloc_new _ _) hu
  refine .inr ⟨w.heap.size, 0, 2, rfl, by omega, by simp, by simp only [maxLen]; omega, by simp, fun i x hx => ?_⟩
  match i with
  | 0 => cases hx; exact ⟨[.int .i64 0], rfl, rfl, fun j u hu => by
      match j with
      | 0 => cases hu; exact h 0 _ rfl
      | j + 1 => cases hu⟩
  | 1 => cases hx; exact ⟨[.int .i64 1], rfl, rfl, fun j u hu => by
      match j with
      | 0 => cases hu; exact h 1 _ rfl
      | j + 1 => cases hu⟩
  | i + 2 => cases hx
theorem wk_two {w : World} {lo : Nat} {v : Value} (h : RowsN w lo 1 intC v [0, 1]) : ∃ b o c, v = .slice (some ⟨b, o, none⟩) 2 c ∧ b < w.heap.size ∧ ∀ W, Below w.heap.size w W → W.cell? ⟨b, o, none⟩ = some (.int .i64 0) ∧ W.cell? ⟨b, o + 1, none⟩ = some (.int .i64 1) := by
  obtain ⟨b, o, c, hq, hb, h0⟩ := h.1.get1 (i := 0) (x := 0) rfl (wr := w) (fun _ _ => rfl) rfl
  obtain ⟨b', o', c', hq', hb', h1⟩ := h.1.get1 (i := 1) (x := 1) rfl (wr := w) (fun _ _ => rfl) rfl
  rw [hq] at hq'
  cases hq'
  exact ⟨b, o, c, hq, hb, fun W hB => ⟨(World.cell?_of_block (a := ⟨b, o, none⟩) (hB.block b hb)).trans h0, (World.cell?_of_block (a := ⟨b, o + 1, none⟩) (hB.block b hb)).trans h1⟩⟩
theorem wk_edge {w : World} {lo : Nat} {v : Value} (h : RowsN w lo 4 edgeC v [⟨0, 1, 2, kX⟩]) : ∃ b o c, v = .slice (some ⟨b, o, none⟩) 1 c ∧ b < w.heap.size ∧ ∀ W, Below w.heap.size w W → W.cell? ⟨b, o, none⟩ = some (.int .i64 0) ∧ W.cell? ⟨b, o + 1, none⟩ = some (.int .i64 1) ∧ W.cell? ⟨b, o + 2, none⟩ = some (.int .i64 2) ∧ W.cell? ⟨b, o + 3, none⟩ = some (.string ⟨#[120]⟩) := by
  obtain ⟨b, o, c, hq, hb, h0, h1, h2, h3⟩ := h.1.get4 (i := 0) (x := ⟨0, 1, 2, kX⟩) rfl (wr := w) (fun _ _ => rfl) rfl
  simp only [Nat.zero_mul, Nat.add_zero] at h0 h1 h2 h3
  exact ⟨b, o, c, hq, hb, fun W hB => ⟨(World.cell?_of_block (a := ⟨b, o, none⟩) (hB.block b hb)).trans h0, (World.cell?_of_block (a := ⟨b, o + 1, none⟩) (hB.block b hb)).trans h1, (World.cell?_of_block (a := ⟨b, o + 2, none⟩) (hB.block b hb)).trans h2, (World.cell?_of_block (a := ⟨b, o + 3, none⟩) (hB.block b hb)).trans h3⟩⟩
set_option maxHeartbeats 16000000 in
theorem works_ (w : World) : Calls Tryz.prog 4 #[] w fun e w' => e = .returned (.bool true) ∧ Below w.heap.size w w' := by
  obtain ⟨W4, hW4⟩ : ∃ W4, W4 = wkW w := ⟨_, rfl⟩
  have hWl : W4 = ((((w.alloc (.cells #[.int .i64 2, .string ⟨#[120]⟩, .int .i64 0, .int .i64 0, .bool false, .string ⟨#[118]⟩, .string ⟨#[]⟩, .slice none 0 0, .int .u64 0] 53)).alloc (.cells #[.int .i64 1, .string ⟨#[120]⟩, .int .i64 0, .int .i64 1, .bool false, .string ⟨#[118]⟩, .string ⟨#[]⟩, .slice none 0 0, .int .u64 3] 53)).alloc (.cells #[.int .i64 2, .int .i64 1, .int .u64 1, .int .u64 2, .int .i64 0, .int .i64 0, .int .i64 0, .int .i64 0, .slice (some ⟨w.heap.size, 0, none⟩) 1 1, .int .i64 4, .int .i64 1, .int .u64 3, .int .u64 4, .int .i64 0, .int .i64 0, .int .i64 0, .int .i64 0, .slice (some ⟨w.heap.size + 1, 0, none⟩) 1 1] 56)).alloc (.cells #[.slice (some ⟨w.heap.size + 1 + 1, 0, none⟩) 2 2] 24)) := hW4
  have hz4 : W4.heap.size = w.heap.size + 4 := by rw [hW4]; exact wkW_size w
  have hB4 : Below w.heap.size w W4 := by rw [hW4]; exact wkW_below w
  have hbox : W4.heap[w.heap.size + 3]? = some (.cells #[.slice (some ⟨w.heap.size + 2, 0, none⟩) 2 2] 24) := by rw [hW4]; exact wkW_box w
  have hhi : HistV W4 (w.heap.size + 3) (.slice (some ⟨w.heap.size + 2, 0, none⟩) 2 2) hWk := by rw [hW4]; exact wkW_hist w
  have hops : ∀ x ∈ hWk, x.ops.length ≤ 1048576 := by simp [hWk]
  have hbx : ∀ W, Below W4.heap.size W4 W → W.cell? ⟨w.heap.size + 3, 0, none⟩ = some (.slice (some ⟨w.heap.size + 2, 0, none⟩) 2 2) ∧ w.heap.size + 3 < W.heap.size := fun W hb =>
    ⟨(World.cell?_of_block (a := ⟨w.heap.size + 3, 0, none⟩) (hb.block (w.heap.size + 3) (by omega))).trans ((cells_of (cs := [.slice (some ⟨w.heap.size + 2, 0, none⟩) 2 2]) hbox).1 0), by have := hb.size; omega⟩
  have hk : ∀ W, Below W4.heap.size W4 W → HistV W (w.heap.size + 3) (.slice (some ⟨w.heap.size + 2, 0, none⟩) 2 2) hWk ∧ w.heap.size + 3 ≤ W.heap.size := fun W hb => ⟨hhi.keep (fun j hj => hb.block j (by omega)), by have := hb.size; omega⟩
  have HK := Lib.hid hk
  have HBX := Lib.hid hbx
  have HW4 := Lib.hid hWl
  have HZ := Lib.hid hz4
  have HB4 := Lib.hid hB4
  clear hk hbx hWl hW4 hz4 hB4 hbox hhi
  have e0 : errOf (histFault hWk) = 0 := by rw [hWk_fault]; rfl
  have e1 : txnOf (histFault hWk) = 0 := by rw [hWk_fault]; rfl
  have e2 : opOf (histFault hWk) = 0 := by rw [hWk_fault]; rfl
  go_enter Tryz.func4, Tryz.ntmps4
  go_upto_region 2 with (fail)
  rw [← HW4.out]
  obtain ⟨o4, p4⟩ := HBX.out W4 (Below.refl _ _)
  go_upto_region 4 with (first
    | (go_at_call 5; refine (checkC_ (HK.out W4 (Below.refl _ _)).1 (HK.out W4 (Below.refl _ _)).2 hops).mono ?_
       rintro e w5 ⟨rfl, hB5⟩
       rw [e0, e1, e2]
       obtain ⟨o5, p5⟩ := HBX.out w5 hB5
       have HB5 := Lib.hid hB5
       clear hB5)
    | (go_at_call 6; refine (serial_ (HK.out w5 HB5.out).1 (HK.out w5 HB5.out).2 hops).mono ?_
       rintro e w6 ⟨hB6, sv, sn, rfl, hs⟩
       obtain ⟨rfl, hs1⟩ : sn = 0 ∧ RowsN w6 w5.heap.size 1 intC sv [0, 1] := by
         rcases hs with ⟨h1, _⟩ | ⟨_, _, h1⟩ | ⟨_, h1, l, h2, h3⟩
         · exact absurd hWk_fault h1
         · exact absurd h1 hWk_rise
         · rw [hWk_uniq h2] at h3
           exact ⟨h1, h3⟩
       obtain ⟨sb, so, sc, rfl, hsb, hsc⟩ := wk_two hs1
       have HSC := Lib.hid hsc
       have HB6 := Lib.hid (HB5.out.trans (hB6.mono HB5.out.size))
       obtain ⟨o6, p6⟩ := HBX.out w6 HB6.out
       clear hB6 hs hs1 hsc))
  have h6B : Below w6.heap.size w6 (w6.alloc (.cells #[.int .i64 0, .int .i64 1] 3)) := bel1 _ _
  have hrp := replay_ ((HK.out _ (HB6.out.trans (h6B.mono HB6.out.size))).1.more (B' := w6.heap.size + 1) (by omega)) (by simp) (wk_ord w6) hops
  have HRP := Lib.hid hrp
  have H6B := Lib.hid h6B
  clear hrp h6B
  go_upto_region 7 with (first
    | (go_at_call 11; with_reducible refine HRP.out.mono ?_
       rintro e w7 ⟨hB7, b, n, rfl, hr⟩
       obtain ⟨rfl, rfl⟩ : n = 0 ∧ b = true := by
         rcases hr with ⟨h1, _⟩ | ⟨_, _, h1⟩ | ⟨_, h1, l, h2, h3⟩
         · exact absurd hWk_fault h1
         · exact absurd ⟨[0, 1], hWk_line.ord⟩ h1
         · refine ⟨h1, h3.2 ?_⟩
           rw [h2.uniq (b := [0, 1]) hWk_line.ord]
           exact hWk_replay
       have HC7 := Lib.hid (H6B.out.trans (hB7.mono H6B.out.size))
       have HB7 := Lib.hid (HB6.out.trans (HC7.out.mono HB6.out.size))
       obtain ⟨o7, p7⟩ := HBX.out w7 HB7.out
       clear hB7 hr)
    | (go_at_call 9; refine (edges_ (HK.out w7 HB7.out).1 (HK.out w7 HB7.out).2 hops).mono ?_
       rintro e w8 ⟨hB8, ev, rfl, he⟩
       rw [e0]
       have he' := he hWk_fault
       rw [hWk_edges] at he'
       obtain ⟨eb, eo, ec, rfl, heb, hec⟩ := wk_edge he'
       have HEC := Lib.hid hec
       have HC8 := Lib.hid (HC7.out.trans (hB8.mono HC7.out.size))
       have HB8 := Lib.hid (HB7.out.trans (hB8.mono HB7.out.size))
       obtain ⟨o8, p8⟩ := HBX.out w8 HB8.out
       clear hB8 he he' hec)
    | (go_at_call 7; refine (phenomena_ (HK.out w8 HB8.out).1 (HK.out w8 HB8.out).2 hops).mono ?_
       rintro e w9 ⟨hB9, pv, rfl, hp⟩
       rw [e0]
       obtain ⟨ps, hp1, hp2⟩ := hp hWk_fault
       obtain rfl := hWk_phen hp1
       obtain ⟨PA, pc, rfl, _, _⟩ := hp2.1.shape
       have HC9 := Lib.hid (HC8.out.trans (hB9.mono HC8.out.size))
       have HB9 := Lib.hid (HB8.out.trans (hB9.mono HB8.out.size))
       obtain ⟨q0, q1⟩ := HSC.out w9 HC9.out
       obtain ⟨r0, r1, r2, r3⟩ := HEC.out w9 hB9
       have hz9 : sb < w9.heap.size := by have := HC9.out.size; omega
       have hy9 : eb < w9.heap.size := by have := hB9.size; omega
       have HD9 := Lib.hid hB9
       obtain ⟨o9, p9⟩ := HBX.out w9 HB9.out
       clear hB9 hp hp1 hp2))
  have heq : ∀ W : World, (binOp .eql 41 (.agg #[.int .i64 0, .int .i64 1, .int .i64 2, .string ⟨#[120]⟩]) (.agg #[.int .i64 0, .int .i64 1, .int .i64 2, .string ⟨#[120]⟩])).run Tryz.prog W = .ok (.bool true) W := fun W => by kernel_rfl
  go_upto_region 9 with (first
    | (go_at_call 8; refine (num_ _ _).mono ?_; rintro e w10 ⟨rfl, rfl⟩))
  go_upto_region 10 with (first
    | (go_at_call 12; refine (embed_ (HK.out w9 HB9.out).1 (HK.out w9 HB9.out).2 hops).mono ?_
       rintro e w10 ⟨hB10, MA, k, mc, n, rfl, hm⟩
       obtain ⟨rfl, rfl⟩ : n = 0 ∧ k = 4 := by
         rcases hm with ⟨h1, _⟩ | ⟨_, l, h1, h2⟩
         · exact absurd hWk_fault h1
         · obtain rfl := hWk_moments h1
           rcases h2 with ⟨h2, h3, _⟩ | ⟨_, h2⟩
           · exact ⟨h2, h3⟩
           · exact absurd ⟨hWk_fits, hWk_run⟩ h2
       obtain ⟨r0', r1', r2', r3'⟩ := HEC.out w10 (HD9.out.trans (hB10.mono HD9.out.size))
       have hy10 : eb < w10.heap.size := by have := hB10.size; omega
       have HB10 := Lib.hid (HB4.out.trans ((HB9.out.trans (hB10.mono HB9.out.size)).mono HB4.out.size))
       clear hB10 hm))
  clear r0 r1 r2 r3
  go_wp2_with (go_at_call 8; refine (num_ _ _).mono ?_; rintro e w11 ⟨rfl, rfl⟩)
  go_ret
  exact ⟨rfl, HB10.out⟩
end Go.Proofs.YtooigfkjdemnlaaGreat

namespace Go.Proofs.YtooigfkjdemnlaaGreat
open Go.RowKit Go.Lib

theorem serializable_ {w : World} {B : Nat} {h : List HTx} {tv : Value} (hh : HistV w B tv h) (hB : B ≤ w.heap.size) (hops : ∀ x ∈ h, x.ops.length ≤ 1048576) :
    Calls Tryz.prog 3 #[.agg #[tv]] w fun e w' => e = .returned (.bool true) ∧ Below w.heap.size w w' := by
  by_cases hf : histFault h = none
  · exact lawB_ works_ hh hB hops hf
  · exact lawA_ works_ hh hB hops hf
end Go.Proofs.YtooigfkjdemnlaaGreat
