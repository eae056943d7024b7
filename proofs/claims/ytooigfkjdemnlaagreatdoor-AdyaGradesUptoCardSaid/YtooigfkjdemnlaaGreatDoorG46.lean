/- Own texts of this claim, joined in build order: Ga1, Ga2. -/
import Derived.Test.YtooigfkjdemnlaaGreatDoorG41
import Derived.Test.YtooigfkjdemnlaaGreatDoorG40
import Derived.Test.YtooigfkjdemnlaaGreatDoorG39
import Derived.Test.YtooigfkjdemnlaaGreatDoorG43
import Derived.Test.YtooigfkjdemnlaaGreatDoorG45
set_option linter.all false
namespace Go.Proofs.YtooigfkjdemnlaaGreatDoor
set_option maxRecDepth 100000
open Go.RowKit Go.Lib Go.Sort Go.Shelf Xw

def GradeP (h : List HTx) (q : Nat) : Prop := ∀ x ∈ banL q, ¬ PhenI h x
theorem grade_5_4 {h : List HTx} (H : GradeP h 5) : GradeP h 4 := by
  intro x hx
  simp only [banL, List.mem_cons, List.not_mem_nil, or_false] at hx
  have h8 := H 8 (by simp [banL])
  rcases hx with rfl | rfl | rfl | rfl
  · exact H 2 (by simp [banL])
  · exact H 3 (by simp [banL])
  · exact H 4 (by simp [banL])
  · exact fun h7 => h8 (phen_7_8 h7)
theorem grade_4_2 {h : List HTx} (H : GradeP h 4) : GradeP h 2 := by
  intro x hx
  simp only [banL, List.mem_cons, List.not_mem_nil, or_false] at hx
  rcases hx with rfl | rfl | rfl
  · exact H 2 (by simp [banL])
  · exact H 3 (by simp [banL])
  · exact H 4 (by simp [banL])
theorem grade_3_2 {h : List HTx} (H : GradeP h 3) : GradeP h 2 := by
  intro x hx
  simp only [banL, List.mem_cons, List.not_mem_nil, or_false] at hx
  rcases hx with rfl | rfl | rfl
  · exact H 2 (by simp [banL])
  · exact H 3 (by simp [banL])
  · exact H 4 (by simp [banL])
theorem grade_2_1 {h : List HTx} (H : GradeP h 2) : GradeP h 1 := by
  intro x hx
  simp only [banL, List.mem_cons, List.not_mem_nil, or_false] at hx
  subst hx
  have h4 := H 4 (by simp [banL])
  exact fun h1 => h4 (phen_1_4 h1)
theorem grade_snap {h : List HTx} {l : List Pt} (H : Fine h) (M : Moments h l) (R : RunOK h l) (C : SnapC h) : GradeP h 3 := by
  intro x hx
  simp only [banL, List.mem_cons, List.not_mem_nil, or_false] at hx
  unfold PhenI
  rcases hx with rfl | rfl | rfl | rfl | rfl <;> exact snap_none H M R C _ (by decide) (by decide)
theorem errOf_ne {h : List HTx} (hf : histFault h ≠ none) : errOf (histFault h) ≠ 0 := errOf_hist hf
set_option maxHeartbeats 4000000 in
theorem gradesA_ {w : World} {B : Nat} {h : List HTx} {tv : Value} (hh : HistV w B tv h) (hB : B ≤ w.heap.size) (hops : ∀ x ∈ h, x.ops.length ≤ 1048576) (hb : BansI w) (hf : histFault h ≠ none) :
    Calls Tryz.prog 4 #[.agg #[tv]] w fun e w' => e = .returned (.bool true) ∧ Below w.heap.size w w' := by
  obtain ⟨A, c, rfl, hn0, hm0⟩ := Rows.shape hh
  obtain ⟨W1, hW1⟩ : ∃ W1, W1 = w.alloc (.cells #[.slice A h.length c] 28) := ⟨_, rfl⟩
  have hz1 : W1.heap.size = w.heap.size + 1 := by rw [hW1]; simp
  have hB1 : Below w.heap.size w W1 := by rw [hW1]; exact bel1 _ _
  have hob : W1.heap[w.heap.size]? = some (.cells #[.slice A h.length c] 28) := by rw [hW1]; exact heap_alloc_new _ _
  have hpos := hb.pos
  have hbx : ∀ W, Below W1.heap.size W1 W → W.cell? ⟨w.heap.size, 0, none⟩ = some (.slice A h.length c) ∧ w.heap.size < W.heap.size := fun W hb =>
    ⟨(World.cell?_of_block (a := ⟨w.heap.size, 0, none⟩) (hb.block w.heap.size (by omega))).trans ((cells_of (cs := [.slice A h.length c]) hob).1 0), by have := hb.size; omega⟩
  have hk : ∀ W, Below W1.heap.size W1 W → HistV W B (.slice A h.length c) h ∧ B ≤ W.heap.size ∧ BansI W := fun W hbw => ⟨hh.keep (fun j hj => (hbw.block j (by omega)).trans (hB1.block j (by omega))), by have := hbw.size; omega, hb.below (hB1.trans (hbw.mono (by omega))) hpos⟩
  have HK := Lib.hid hk
  have HBX := Lib.hid hbx
  have HW1 := Lib.hid hW1
  have HZ := Lib.hid hz1
  have HBW := Lib.hid hB1
  clear hk hbx hW1 hob hB1 hh hz1 hb
  obtain ⟨E, hE⟩ : ∃ E, E = errOf (histFault h) := ⟨_, rfl⟩
  obtain ⟨T, hT⟩ : ∃ T, T = txnOf (histFault h) := ⟨_, rfl⟩
  obtain ⟨O, hO⟩ : ∃ O, O = opOf (histFault h) := ⟨_, rfl⟩
  have hE0 : (E != 0) = true := by rw [hE]; simpa using errOf_hist hf
  have hEE : (E == E) = true := by simp
  have HE := Lib.hid hE
  clear hE
  go_enter Tryz.func4, Tryz.ntmps4
  go_wp2_with (first
    | (go_at_call 5; rw [← HW1.out]; refine (works_ _).mono ?_
       rintro e w1 ⟨rfl, hB1⟩
       obtain ⟨o1, p1⟩ := HBX.out w1 hB1
       have HB1 := Lib.hid hB1
       clear hB1)
    | (go_at_call 7; refine (checkC_ (HK.out w1 HB1.out).1 (HK.out w1 HB1.out).2.1 hops).mono ?_
       rintro e w2 ⟨rfl, hB2⟩
       rw [← hT, ← hO, ← HE.out]
       have HB2 := Lib.hid (HB1.out.trans (hB2.mono HB1.out.size))
       obtain ⟨o2, p2⟩ := HBX.out w2 HB2.out
       clear hB2)
    | (go_at_call 13; refine (embed_ (HK.out w2 HB2.out).1 (HK.out w2 HB2.out).2.1 hops).mono ?_
       rintro e w3 ⟨hB3, EA, ek, ec, n, rfl, hs⟩
       obtain rfl : n = E := by
         rcases hs with ⟨_, h2⟩ | ⟨h1, _⟩
         · rw [h2, HE.out]
         · exact absurd h1 hf
       have HB3 := Lib.hid (HB2.out.trans (hB3.mono HB2.out.size))
       obtain ⟨o3, p3⟩ := HBX.out w3 HB3.out
       clear hB3 hs)
    | (go_at_call 11; refine (meets_ (HK.out w3 HB3.out).1 (HK.out w3 HB3.out).2.1 hops (HK.out w3 HB3.out).2.2 2 (by omega) (by omega)).mono ?_
       rintro e w4 ⟨hB4, b, n4, rfl, hs⟩
       obtain rfl : n4 = n := by
         rcases hs with ⟨_, h2⟩ | ⟨h1, _⟩
         · rw [h2, HE.out]
         · exact absurd h1 hf
       clear hs)
    | (go_at_call 8; refine (num_ _ _).mono ?_; rintro e w5 ⟨rfl, rfl⟩))
  go_ret
  exact ⟨rfl, HBW.out.trans ((HB3.out.trans (hB4.mono HB3.out.size)).mono HBW.out.size)⟩
end Go.Proofs.YtooigfkjdemnlaaGreatDoor

namespace Go.Proofs.YtooigfkjdemnlaaGreatDoor
set_option maxRecDepth 100000
open Go.RowKit Go.Lib Go.Sort Go.Shelf Xw

def gCells (g : Nat → Bool) : List Value := [.bool (g 0), .bool (g 1), .bool (g 2), .bool (g 3), .bool (g 4), .bool (g 5)]
theorem gCells_get {g : Nat → Bool} {q : Nat} (h : q ≤ 5) : (gCells g)[q]? = some (.bool (g q)) := by
  have : q = 0 ∨ q = 1 ∨ q = 2 ∨ q = 3 ∨ q = 4 ∨ q = 5 := by omega
  rcases this with rfl | rfl | rfl | rfl | rfl | rfl <;> rfl
theorem gCells_set {g : Nat → Bool} {q : Nat} (h : q ≤ 5) (b : Bool) : (gCells g).toArray.setIfInBounds q (.bool b) = (gCells fun i => if i = q then b else g i).toArray := by
  have : q = 0 ∨ q = 1 ∨ q = 2 ∨ q = 3 ∨ q = 4 ∨ q = 5 := by omega
  rcases this with rfl | rfl | rfl | rfl | rfl | rfl <;> simp [gCells]
set_option maxHeartbeats 16000000 in
theorem gradesB_ {w : World} {B : Nat} {h : List HTx} {tv : Value} (hh : HistV w B tv h) (hB : B ≤ w.heap.size) (hops : ∀ x ∈ h, x.ops.length ≤ 1048576) (hb : BansI w) (hf : histFault h = none) :
    Calls Tryz.prog 4 #[.agg #[tv]] w fun e w' => e = .returned (.bool true) ∧ Below w.heap.size w w' := by
  obtain ⟨A, c, rfl, hn0, hm0⟩ := Rows.shape hh
  obtain ⟨W1, hW1⟩ : ∃ W1, W1 = w.alloc (.cells #[.slice A h.length c] 28) := ⟨_, rfl⟩
  have hz1 : W1.heap.size = w.heap.size + 1 := by rw [hW1]; simp
  have hB1 : Below w.heap.size w W1 := by rw [hW1]; exact bel1 _ _
  have hob : W1.heap[w.heap.size]? = some (.cells #[.slice A h.length c] 28) := by rw [hW1]; exact heap_alloc_new _ _
  have hpos := hb.pos
  have hbx : ∀ W, Below W1.heap.size W1 W → W.cell? ⟨w.heap.size, 0, none⟩ = some (.slice A h.length c) ∧ w.heap.size < W.heap.size := fun W hb =>
    ⟨(World.cell?_of_block (a := ⟨w.heap.size, 0, none⟩) (hb.block w.heap.size (by omega))).trans ((cells_of (cs := [.slice A h.length c]) hob).1 0), by have := hb.size; omega⟩
  have hk : ∀ W, Below W1.heap.size W1 W → HistV W B (.slice A h.length c) h ∧ B ≤ W.heap.size ∧ BansI W := fun W hbw => ⟨hh.keep (fun j hj => (hbw.block j (by omega)).trans (hB1.block j (by omega))), by have := hbw.size; omega, hb.below (hB1.trans (hbw.mono (by omega))) hpos⟩
  have HK := Lib.hid hk
  have HBX := Lib.hid hbx
  have HW1 := Lib.hid hW1
  have HZ := Lib.hid hz1
  have HBW := Lib.hid hB1
  have HB := Lib.hid hB
  have HFN := Lib.hid (fine_of hf)
  have HF := Lib.hid hf
  have hn := HFN.out.n
  clear hk hbx hW1 hob hB1 hh hz1 hb hf
  have e0 : errOf none = 0 := rfl
  have e1 : txnOf none = 0 := rfl
  have e2 : opOf none = 0 := rfl
  go_enter Tryz.func4, Tryz.ntmps4
  go_upto_region 8 with (first
    | (go_at_call 5; rw [← HW1.out]; refine (works_ _).mono ?_
       rintro e w1 ⟨rfl, hB1⟩
       obtain ⟨o1, p1⟩ := HBX.out w1 hB1
       have HB1 := Lib.hid hB1
       clear hB1)
    | (go_at_call 7; refine (checkC_ (HK.out w1 HB1.out).1 (HK.out w1 HB1.out).2.1 hops).mono ?_
       rintro e w2 ⟨rfl, hB2⟩
       rw [HF.out, e0, e1, e2]
       have HB2 := Lib.hid (HB1.out.trans (hB2.mono HB1.out.size))
       clear hB2)
    | (go_at_call 8; refine (num_ _ _).mono ?_; rintro e w5 ⟨rfl, rfl⟩))
  clear o1 p1
  obtain ⟨W3, hW3⟩ : ∃ W3, W3 = w2.alloc (.cells #[.bool false, .bool false, .bool false, .bool false, .bool false, .bool false] 48) := ⟨_, rfl⟩
  have hz2 := HB2.out.size
  have hg3 : W3.heap[w2.heap.size]? = some (.cells (gCells fun _ => false).toArray 48) := by rw [hW3]; exact heap_alloc_new _ _
  have hz3 : W3.heap.size = w2.heap.size + 1 := by rw [hW3]; simp
  have HB3 : Hid (Below W1.heap.size W1 W3) := Lib.hid (HB2.out.trans (by rw [hW3]; exact (bel1 _ _).mono hz2))
  have HG3 := Lib.hid hg3
  have HZ3 := Lib.hid hz3
  have HW3 := Lib.hid hW3
  clear hg3 hz3 hW3
  go_upto_region 9 with (fail)
  rw [← HW3.out]
  go_wp2
  go_loopw [11] (fun q' wr => ∃ (q : Nat) (g : Nat → Bool), 1 ≤ q ∧ q ≤ 6 ∧ q' = .int .i64 q ∧ wr.heap[w2.heap.size]? = some (.cells (gCells g).toArray 48) ∧ Hid (∀ i, 1 ≤ i → i < q → (g i = true ↔ GradeP h i)) ∧ Below W1.heap.size W1 wr) (fun q' _ => 6 - (intOf q').toNat)
  case atStart => exact ⟨1, fun _ => false, by omega, by omega, rfl, HG3.out, Lib.hid (fun i h1 h2 => by omega), HB3.out⟩
  case round =>
    obtain ⟨q, g, hq1, hq6, rfl, hgb, HGR, hBq⟩ := hrel
    obtain ⟨oq, pq⟩ := HBX.out wr hBq
    have HBQ := Lib.hid hBq
    by_cases hq5 : q ≤ 5
    · have hqi : (q : Int) ≤ 5 := by omega
      have hm := Lib.hid (meets_ (HK.out wr hBq).1 (HK.out wr hBq).2.1 hops (HK.out wr hBq).2.2 q hq1 hq5)
      have HGB := Lib.hid hgb
      have hgl := lt_of_heap hgb
      clear hBq hgb
      go_upto_region 15 with (first
        | (go_at_call 11; refine hm.out.mono ?_
           rintro e w4 ⟨hB4, b, n4, rfl, hs⟩
           obtain ⟨rfl, hbs⟩ : n4 = 0 ∧ (b = true ↔ GradeP h q) := by
             rcases hs with ⟨h1, _⟩ | ⟨_, h1, h2⟩
             · exact absurd HF.out h1
             · exact ⟨h1, h2⟩
           have HB4 := Lib.hid hB4
           have HBS := Lib.hid hbs
           clear hs hB4 hbs)
        | (go_at_call 8; refine (num_ _ _).mono ?_; rintro e w5 ⟨rfl, rfl⟩))
      have hg4 := (HB4.out.block _ hgl).trans HGB.out
      have k1 := (cells_of hg4).1 q
      rw [gCells_get hq5] at k1
      have k2 := (cells_of hg4).2 q
      have kl : w2.heap.size < w4.heap.size := lt_of_heap hg4
      have hqn : (0 : Int) ≤ q := by omega
      have hq6' : (q : Int) < 6 := by omega
      have HG4 := Lib.hid hg4
      clear hg4
      go_wp2
      refine ⟨⟨q + 1, fun i => if i = q then b else g i, by omega, by omega, by simp, ?_, Lib.hid (fun i h1 h2 => ?_), ?_⟩, by simp [intOf]; omega⟩
      · have := heap_setCell_same (i := q) (v := .bool b) HG4.out
        rw [gCells_set hq5] at this
        exact this
      · by_cases hi : i = q
        · subst hi
          simpa using HBS.out
        · simp only [if_neg hi]
          exact HGR.out i h1 (by omega)
      · have hzz := HB4.out.size
        have hzq := HBQ.out.size
        exact (HBQ.out.trans (HB4.out.mono hzq)).trans (((Chg.refl (fun j => j = w2.heap.size) w4).setCell _ _ (fun _ => rfl)).below (fun j hj => by omega) (by omega))
    · obtain rfl : q = 6 := by omega
      obtain ⟨wg, rfl⟩ : ∃ wg : World, wg = wr := ⟨_, rfl⟩
      obtain ⟨b1, hb1⟩ : ∃ b, b = g 1 := ⟨_, rfl⟩
      obtain ⟨b2, hb2⟩ : ∃ b, b = g 2 := ⟨_, rfl⟩
      obtain ⟨b3, hb3⟩ : ∃ b, b = g 3 := ⟨_, rfl⟩
      obtain ⟨b4, hb4⟩ : ∃ b, b = g 4 := ⟨_, rfl⟩
      obtain ⟨b5, hb5⟩ : ∃ b, b = g 5 := ⟨_, rfl⟩
      have c1 : wg.cell? ⟨w2.heap.size, 1, none⟩ = some (.bool b1) := by rw [hb1]; exact (cells_of hgb).1 1
      have c2 : wg.cell? ⟨w2.heap.size, 2, none⟩ = some (.bool b2) := by rw [hb2]; exact (cells_of hgb).1 2
      have c3 : wg.cell? ⟨w2.heap.size, 3, none⟩ = some (.bool b3) := by rw [hb3]; exact (cells_of hgb).1 3
      have c4 : wg.cell? ⟨w2.heap.size, 4, none⟩ = some (.bool b4) := by rw [hb4]; exact (cells_of hgb).1 4
      have c5 : wg.cell? ⟨w2.heap.size, 5, none⟩ = some (.bool b5) := by rw [hb5]; exact (cells_of hgb).1 5
      have g1 : b1 = true ↔ GradeP h 1 := by rw [hb1]; exact HGR.out 1 (by omega) (by omega)
      have g2 : b2 = true ↔ GradeP h 2 := by rw [hb2]; exact HGR.out 2 (by omega) (by omega)
      have g3 : b3 = true ↔ GradeP h 3 := by rw [hb3]; exact HGR.out 3 (by omega) (by omega)
      have g4 : b4 = true ↔ GradeP h 4 := by rw [hb4]; exact HGR.out 4 (by omega) (by omega)
      have g5 : b5 = true ↔ GradeP h 5 := by rw [hb5]; exact HGR.out 5 (by omega) (by omega)
      have i54 := Lib.hid (fun e => g4.2 (grade_5_4 (g5.1 e)))
      have i42 := Lib.hid (fun e => g2.2 (grade_4_2 (g4.1 e)))
      have i32 := Lib.hid (fun e => g2.2 (grade_3_2 (g3.1 e)))
      have i21 := Lib.hid (fun e => g1.2 (grade_2_1 (g2.1 e)))
      have G3 := Lib.hid g3
      have gl : w2.heap.size < wg.heap.size := lt_of_heap hgb
      clear hb1 hb2 hb3 hb4 hb5 g1 g2 g3 g4 g5 hgb hBq hq5
      go_upto_region 16 with (fail)
      go_cut [104] from 71 (fun v wx => v = .bool false ∧ wx = wg)
      case first =>
        cases b1 <;> cases b2 <;> cases b3 <;> cases b4 <;> cases b5
        all_goals first
          | exact absurd (i54.out rfl) (by decide)
          | exact absurd (i42.out rfl) (by decide)
          | exact absurd (i32.out rfl) (by decide)
          | exact absurd (i21.out rfl) (by decide)
          | (go_wp2; go_meet; case rel => exact ⟨rfl, rfl⟩)
      case rest =>
      obtain ⟨rfl, rfl⟩ := hcut
      have HEM := Lib.hid (embed_ (HK.out wc HBQ.out).1 (HK.out wc HBQ.out).2.1 hops)
      clear c1 c2 c4 c5
      go_upto_region 19 with (first
        | (go_at_call 13; with_reducible refine HEM.out.mono ?_
           rintro e w5 ⟨hB5, EA, ek, ec, en, rfl, hs⟩
           have hes : en ≠ 0 ∨ (en = 0 ∧ ∃ l, Moments h l ∧ FitsN h l l.length ∧ RunOK h l) := by
             rcases hs with ⟨h1, _⟩ | ⟨_, l, hM, ⟨h1, _, h2, h3⟩ | ⟨h1, _⟩⟩
             · exact absurd HF.out h1
             · exact .inr ⟨h1, l, hM, h2, h3⟩
             · exact .inl h1
           have HES := Lib.hid hes
           have hb5 := HBQ.out.trans (hB5.mono HBQ.out.size)
           obtain ⟨o5, p5⟩ := HBX.out w5 hb5
           have d3 := (hB5.cell (p := ⟨w2.heap.size, 3, none⟩) gl).trans c3
           have gl5 : w2.heap.size < w5.heap.size := by have := hB5.size; omega
           have HB5 := Lib.hid hb5
           clear hB5 hs hes hb5 oq pq c3 gl))
      go_wp2
      go_loopw [16, 17] (fun n' i' wr => ∃ i : Nat, i ≤ h.length ∧ i' = .int .i64 i ∧ n' = .int .i64 (comsOf h i).length ∧ Hid (∀ (t : Nat) (x : HTx), t < i → h[t]? = some x → com h t = true → ∀ o ∈ x.ops, x.iso ≠ 1 ∧ (o.kind = 3 → o.at_ = x.bgn)) ∧ Below w5.heap.size w5 wr) (fun _ i' _ => h.length - (intOf i').toNat)
      case atStart => exact ⟨0, by omega, rfl, rfl, Lib.hid (fun t x ht => by omega), Below.refl _ _⟩
      case round =>
        obtain ⟨i, hi, rfl, rfl, HS, hBi⟩ := hrel
        have hbi := HB5.out.trans (hBi.mono HB5.out.size)
        obtain ⟨oi, pi⟩ := HBX.out wr hbi
        have hcl : (comsOf h i).length ≤ i := by unfold comsOf; exact Nat.le_trans (List.length_filter_le _ _) (by simp)
        have HBI := Lib.hid hBi
        by_cases hlt : i < h.length
        · obtain ⟨x, hx⟩ : ∃ x, h[i]? = some x := ⟨_, List.getElem?_eq_getElem hlt⟩
          obtain ⟨b, p, cc, ov, he, hbb, ⟨x0, x1, x2, x3, x4, x5, x6, x7, x8⟩, hro⟩ := HistV.get (HK.out wr hbi).1 hx (fun _ _ => rfl)
          cases he
          obtain ⟨Ao, co, rfl, hno, hmo⟩ := hro.shape
          simp only [maxLen] at hmo
          have hbr : b < wr.heap.size := Nat.lt_of_lt_of_le hbb (HK.out wr hbi).2.1
          have hti : (i : Int) < h.length := by omega
          have hcs := comsOf_succ h i
          have hopx := hops x (List.mem_of_getElem? hx)
          have HX := Lib.hid hx
          have HRO := Lib.hid hro
          have hiff : com h i = true ↔ x.fate = 1 := by
            rw [com_iff]
            constructor
            · rintro ⟨y, hy, hf⟩
              rw [hx] at hy; cases hy; exact hf
            · exact fun hf => ⟨x, hx, hf⟩
          clear hx hro hBi hbi
          obtain ⟨W8, hW8⟩ : ∃ W8, W8 = wr.alloc (.cells #[.int .i64 x.iso, .int .i64 x.fate, .int .u64 x.bgn, .int .u64 x.fin, .int .i64 x.bi, .int .i64 x.bo, .int .i64 x.ei, .int .i64 x.eo, .slice Ao x.ops.length co] 53) := ⟨_, rfl⟩
          have hB8 : Below wr.heap.size wr W8 := by rw [hW8]; exact bel1 _ _
          have hz8 : W8.heap.size = wr.heap.size + 1 := by rw [hW8]; simp
          have hbx : W8.heap[wr.heap.size]? = some (.cells #[.int .i64 x.iso, .int .i64 x.fate, .int .u64 x.bgn, .int .u64 x.fin, .int .i64 x.bi, .int .i64 x.bo, .int .i64 x.ei, .int .i64 x.eo, .slice Ao x.ops.length co] 53) := by rw [hW8]; exact heap_alloc_new _ _
          have y0 := (cells_of hbx).1 0
          have y1 := (cells_of hbx).1 1
          have y2 := (cells_of hbx).1 2
          have y8 := (cells_of hbx).1 8
          have hwl : wr.heap.size < W8.heap.size := by omega
          have HW8 := Lib.hid hW8
          have HB8 := Lib.hid (HBI.out.trans (hB8.mono HBI.out.size))
          have HB8r := Lib.hid hB8
          have HZ8 := Lib.hid hz8
          clear hW8 hB8 hz8 hbx
          go_upto_region 24 with (fail)
          rw [← HW8.out]
          by_cases hc : x.fate = 1
          · have hfb : (x.fate != 1) = false := by simp [hc]
            have hct : com h i = true := hiff.2 hc
            rw [if_pos hct] at hcs
            have hcs2 : (comsOf h (i + 1)).length = (comsOf h i).length + 1 := by rw [hcs, List.length_append]; rfl
            have HCS := Lib.hid hcs2
            have HC := Lib.hid hc
            clear hcs hcs2 hiff hct hc
            go_wp2
            obtain ⟨wt, rfl⟩ : ∃ wt : World, wt = wr := ⟨_, rfl⟩
            go_loopw [19] (fun j' wr => ∃ j : Nat, j ≤ x.ops.length ∧ j' = .int .i64 j ∧ Hid (∀ (k : Nat) (o : HOpr), k < j → x.ops[k]? = some o → x.iso ≠ 1 ∧ (o.kind = 3 → o.at_ = x.bgn)) ∧ Below W8.heap.size W8 wr) (fun j' _ => x.ops.length - (intOf j').toNat)
            case atStart => exact ⟨0, by omega, rfl, Lib.hid (fun k o hk => by omega), Below.refl _ _⟩
            case round =>
              obtain ⟨j, hj, rfl, HJ, hBj⟩ := hrel
              have hzj := hBj.size
              have z0 := (World.cell?_of_block (a := ⟨wt.heap.size, 0, none⟩) (hBj.block wt.heap.size hwl)).trans y0
              have z2 := (World.cell?_of_block (a := ⟨wt.heap.size, 2, none⟩) (hBj.block wt.heap.size hwl)).trans y2
              have z8 := (World.cell?_of_block (a := ⟨wt.heap.size, 8, none⟩) (hBj.block wt.heap.size hwl)).trans y8
              have hwj : wt.heap.size < wr.heap.size := by omega
              have HBJ := Lib.hid hBj
              by_cases hjl : j < x.ops.length
              · obtain ⟨o, ho⟩ : ∃ o, x.ops[j]? = some o := ⟨_, List.getElem?_eq_getElem hjl⟩
                have hBw : B ≤ wt.heap.size := (HK.out wt (HB5.out.trans (HBI.out.mono HB5.out.size))).2.1
                obtain ⟨q2, p2, c3, sv, he, hq2, ⟨a0, a1, a2, a3, a4, a5, a6, a7, a8⟩, -⟩ := ops_get HRO.out ho (wr := wr) (fun j hj => (hBj.block j (by omega)).trans (HB8r.out.block j (by omega)))
                cases he
                have hq2r : q2 < wr.heap.size := by omega
                have hji : (j : Int) < x.ops.length := by omega
                have hj0 : (0 : Int) ≤ j := by omega
                have HO := Lib.hid ho
                clear ho hBj hBw
                have fin : ∀ W, Below wr.heap.size wr W → Below w.heap.size w W := fun W hW => HBW.out.trans ((HB5.out.mono (by have := HZ.out; omega)).trans (((HB8.out.mono (by have := HB5.out.size; have := HZ.out; omega))).trans ((HBJ.out.mono (by have := HB8.out.size; omega)).trans (hW.mono (by omega)))))
                have FIN := Lib.hid fin
                clear fin
                have nxt : (x.iso ≠ 1 ∧ (o.kind = 3 → o.at_ = x.bgn)) → (∀ (k : Nat) (o' : HOpr), k < j + 1 → x.ops[k]? = some o' → x.iso ≠ 1 ∧ (o'.kind = 3 → o'.at_ = x.bgn)) := fun hn k o' hk ho' => by
                  by_cases hkj : k = j
                  · subst hkj
                    rw [HO.out] at ho'; cases ho'
                    exact hn
                  · exact HJ.out k o' (by omega) ho'
                have NXT := Lib.hid nxt
                clear nxt
                by_cases h1 : x.iso = 1
                · have hib : (x.iso == 1) = true := by simp [h1]
                  clear h1
                  go_wp2_with (with_reducible refine wp_region_free (by kernel_rfl) (fun _ _ => ?_))
                  go_ret
                  exact ⟨rfl, FIN.out _ ((Below.refl _ _).drew)⟩
                · have hib : (x.iso == 1) = false := by simp [h1]
                  have H1 := Lib.hid h1
                  clear h1
                  by_cases h3 : o.kind = 3
                  · have hk3 : (o.kind == 3) = true := by simp [h3]
                    clear h3
                    by_cases ha : o.at_ = x.bgn
                    · have hab : (o.at_ != x.bgn) = false := by simp [ha]
                      have HA := Lib.hid ha
                      clear ha
                      go_wp2_with (with_reducible refine wp_region_free (by kernel_rfl) (fun _ _ => ?_))
                      exact ⟨⟨j + 1, by omega, by simp, Lib.hid (NXT.out ⟨H1.out, fun _ => HA.out⟩), HBJ.out.drew⟩, by simp [intOf]; omega⟩
                    · have hab : (o.at_ != x.bgn) = true := by simp [ha]
                      clear ha
                      go_wp2_with (with_reducible refine wp_region_free (by kernel_rfl) (fun _ _ => ?_))
                      go_ret
                      exact ⟨rfl, FIN.out _ ((Below.refl _ _).drew)⟩
                  · have hk3 : (o.kind == 3) = false := by simp [h3]
                    have H3 := Lib.hid h3
                    clear h3
                    go_wp2_with (with_reducible refine wp_region_free (by kernel_rfl) (fun _ _ => ?_))
                    exact ⟨⟨j + 1, by omega, by simp, Lib.hid (NXT.out ⟨H1.out, fun h => absurd h H3.out⟩), HBJ.out.drew⟩, by simp [intOf]; omega⟩
              · obtain rfl : j = x.ops.length := by omega
                clear hBj
                go_wp2
                refine ⟨⟨i + 1, by omega, by simp, by rw [HCS.out]; simp, Lib.hid (fun t x' ht hx' hct' => ?_), HB8.out.trans (HBJ.out.mono HB8.out.size)⟩, by simp [intOf]; omega⟩
                by_cases hti : t = i
                · subst hti
                  rw [HX.out] at hx'; cases hx'
                  intro o ho
                  obtain ⟨k, hk⟩ := List.mem_iff_getElem?.1 ho
                  exact HJ.out k o (List.getElem?_eq_some_iff.1 hk).1 hk
                · exact HS.out t x' (by omega) hx' hct'
          · have hfb : (x.fate != 1) = true := by simp [hc]
            have hct : ¬ com h i = true := fun h => hc (hiff.1 h)
            rw [if_neg hct] at hcs
            have HCS := Lib.hid hcs
            have HC := Lib.hid hct
            clear hcs hiff hct hc
            go_wp2
            refine ⟨⟨i + 1, by omega, by simp, by rw [HCS.out], Lib.hid (fun t x' ht hx' hct' => ?_), HB8.out⟩, by simp [intOf]; omega⟩
            by_cases hti : t = i
            · subst hti; exact absurd hct' HC.out
            · exact HS.out t x' (by omega) hx' hct'
        · obtain rfl : i = h.length := by omega
          have hsnap : SnapC h := fun t x hx hc o ho => HS.out t x (List.getElem?_eq_some_iff.1 hx).1 hx hc o ho
          have HSN := Lib.hid hsnap
          have fin : ∀ W, Below wr.heap.size wr W → Below w.heap.size w W := fun W hW => HBW.out.trans ((hbi.mono (by have := HZ.out; omega)).trans (hW.mono (by omega)))
          have HFI := Lib.hid fin
          have di := (HBI.out.cell (p := ⟨w2.heap.size, 3, none⟩) gl5).trans d3
          have gli : w2.heap.size < wr.heap.size := by have := HBI.out.size; omega
          have HKI := Lib.hid (HK.out wr hbi)
          clear hbi hBi hsnap fin
          rcases HES.out with hen | ⟨rfl, l, hM, hft, hrn⟩
          · have heb : (en != 0) = true := by simp [hen]
            clear hen
            go_wp2_with (go_at_call 8; refine (num_ _ _).mono ?_; rintro e w5 ⟨rfl, rfl⟩)
            go_ret
            exact ⟨rfl, HFI.out _ (Below.refl _ _)⟩
          · obtain rfl : b3 = true := G3.out.2 (grade_snap HFN.out hM hrn HSN.out)
            by_cases h4 : (comsOf h h.length).length ≤ 4
            · have h4i : ((comsOf h h.length).length : Int) ≤ 4 := by omega
              have HSE := Lib.hid (search_ HKI.out.1 HKI.out.2.1 hops HF.out h4 hM hft hrn)
              clear hM hft hrn h4
              go_wp2_with (first
                | (go_at_call 14; with_reducible refine HSE.out.mono ?_
                   rintro e w6 ⟨hB6, SA, sk, sc, rfl⟩
                   have d6 := (hB6.cell (p := ⟨w2.heap.size, 3, none⟩) gli).trans di
                   have gl6 : w2.heap.size < w6.heap.size := by have := hB6.size; omega
                   have HB6 := Lib.hid hB6
                   clear hB6)
                | (go_at_call 8; refine (num_ _ _).mono ?_; rintro e w5 ⟨rfl, rfl⟩))
              go_ret
              exact ⟨rfl, HFI.out _ HB6.out⟩
            · have h4i : ¬ ((comsOf h h.length).length : Int) ≤ 4 := by omega
              clear hM hft hrn h4
              go_wp2_with (go_at_call 8; refine (num_ _ _).mono ?_; rintro e w5 ⟨rfl, rfl⟩)
              go_ret
              exact ⟨rfl, HFI.out _ (Below.refl _ _)⟩
end Go.Proofs.YtooigfkjdemnlaaGreatDoor
