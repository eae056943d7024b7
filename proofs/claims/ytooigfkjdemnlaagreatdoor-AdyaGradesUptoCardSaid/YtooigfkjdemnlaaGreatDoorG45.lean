/- Own texts of this claim, joined in build order: Mt3, Mt4. -/
import Derived.Test.YtooigfkjdemnlaaGreatDoorG35
import Derived.Test.YtooigfkjdemnlaaGreatDoorG44
set_option linter.all false
namespace Go.Proofs.YtooigfkjdemnlaaGreatDoor
set_option maxRecDepth 100000
open Go.RowKit Go.Lib Go.Sort Go.Shelf Xw

def PhenI (h : List HTx) (x : Int) : Prop := PhenP h x.toNat
set_option maxHeartbeats 4000000 in
theorem meets2_ {w : World} {B lp gb lo xb : Nat} {h : List HTx} (H : Fine h) (hG : GrD w B lp gb h (edgesOf h) lo) (hle : B ≤ w.heap.size) (hxb : w.heap[xb]? = some (.cells #[.pointer (some ⟨gb, 0, none⟩)] 91)) (q : Nat) (hq1 : 1 ≤ q) (hq8 : q ≤ 8) :
    Calls Tryz.prog 31 #[.int .i64 q, .pointer (some ⟨xb, 0, none⟩)] w fun r w' => Below w.heap.size w w' ∧ ∃ b, r = .returned (.bool b) ∧ Hid (b = true ↔ PhenI h q) := by
  have hsh := Lib.hid (shows_ H hG hle q hq1 hq8)
  have c0 := (cells_of (cs := [.pointer (some ⟨gb, 0, none⟩)]) hxb).1 0
  have hxl := lt_of_heap hxb
  have HQ : Hid (PhenI h q ↔ PhenP h q) := Lib.hid (by unfold PhenI; rw [show ((q : Int)).toNat = q by omega])
  clear hG hxb
  rcases Classical.em (PhenP h q) with hP | hP
  · have HP := Lib.hid hP
    clear hP
    go_enter Tryz.func31, Tryz.ntmps31
    go_wp2_with (
      go_at_call 32; with_reducible refine hsh.out.mono ?_
      rintro e w2 ⟨hB2, v2, rfl, HN⟩
      obtain ⟨a2, n2, c2, rfl⟩ : ∃ a n c, v2 = .slice (some a) n c := by
        rcases HN.out with ⟨_, h1⟩ | ⟨a, n, c, h1, _⟩
        · exact absurd HP.out h1
        · exact ⟨a, n, c, h1⟩)
    go_ret
    exact ⟨hB2, true, rfl, Lib.hid ⟨fun _ => HQ.out.2 HP.out, fun _ => rfl⟩⟩
  · have HP := Lib.hid hP
    clear hP
    go_enter Tryz.func31, Tryz.ntmps31
    go_wp2_with (
      go_at_call 32; with_reducible refine hsh.out.mono ?_
      rintro e w2 ⟨hB2, v2, rfl, HN⟩
      obtain rfl : v2 = .slice none 0 0 := by
        rcases HN.out with ⟨h1, _⟩ | ⟨a, n, c, _, h1⟩
        · exact h1
        · exact absurd h1 HP.out)
    go_ret
    exact ⟨hB2, false, rfl, Lib.hid ⟨fun h => (by cases h), fun h => absurd (HQ.out.1 h) HP.out⟩⟩
set_option maxHeartbeats 4000000 in
theorem meets1_ {w : World} {lp ob qb : Nat} {h : List HTx} (hl : Led w w.heap.size lp h) (H : Fine h) (hb : BansI w) (hob : w.heap[ob]? = some (.cells #[.bool false] 4)) (q : Nat) (hq1 : 1 ≤ q) (hq5 : q ≤ 5) (hqb : w.heap[qb]? = some (.cells #[.int .i64 q] 40)) :
    Calls Tryz.prog 28 #[.pointer (some ⟨lp, 0, none⟩), .pointer (some ⟨qb, 0, none⟩), .pointer (some ⟨ob, 0, none⟩)] w fun e w' => e = .returned (.tuple #[]) ∧ ∃ b, w'.heap[ob]? = some (.cells #[.bool b] 4) ∧ Chg (fun j => j = ob) w w' ∧ Hid (b = true ↔ ∀ x ∈ banL q, ¬ PhenI h x) := by
  have hol := lt_of_heap hob
  have hql := lt_of_heap hqb
  have hban := Lib.hid (ban_ hb q hq1 hq5)
  have q0 := (cells_of (cs := [.int .i64 q]) hqb).1 0
  have HL := Lib.hid hl
  have HOB := Lib.hid hob
  clear hl hob hqb
  go_enter Tryz.func28, Tryz.ntmps28
  have hmf : ∀ (fn : Fn) (first cap : Array Value) (w : World), (Instr.makeFunc fn first cap).run Tryz.prog w = .ok (.func fn first cap) w := fun _ _ _ _ => rfl
  go_upto_region 3 with (first
    | (go_at_call 29; with_reducible refine hban.out.mono ?_
       rintro e w1 ⟨hB1, v, rfl, hr⟩
       obtain ⟨A, c, rfl, hc1, hc2⟩ := hr.shape
       have HR := Lib.hid hr
       have HB1 := Lib.hid hB1
       have HBD := Lib.hid (build_ ((HL.out.below hB1 (Nat.le_refl _)).more hB1.size (Nat.le_refl _)) H.lim)
       clear hr hB1))
  go_upto_region 4 with (go_at_call 24; with_reducible refine HBD.out.mono ?_
                         rintro e w2 ⟨gb, rfl, hG, hB2⟩
                         obtain ⟨W3, hW3⟩ : ∃ W3, W3 = w2.alloc (.cells #[.pointer (some ⟨gb, 0, none⟩)] 91) := ⟨_, rfl⟩
                         have HG := Lib.hid hG
                         have HB2 := Lib.hid hB2
                         have HW3 := Lib.hid hW3
                         clear hG hB2 hW3)
  rw [← HW3.out]
  have hB13 := HB1.out.size
  have hB23 := HB2.out.size
  have hB3 : Below w2.heap.size w2 W3 := by rw [HW3.out]; exact bel1 _ _
  have hz3 : W3.heap.size = w2.heap.size + 1 := by rw [HW3.out]; simp
  have hxb : W3.heap[w2.heap.size]? = some (.cells #[.pointer (some ⟨gb, 0, none⟩)] 91) := by rw [HW3.out]; exact heap_alloc_new _ _
  have hob3 : W3.heap[ob]? = some (.cells #[.bool false] 4) := (hB3.block ob (by omega)).trans ((HB2.out.block ob (by omega)).trans ((HB1.out.block ob hol).trans HOB.out))
  have hrow3 : Rows W3 W3.heap.size 1 (Flat intC) (.slice A (banL q).length c) (banL q) := ((HR.out.flat (w' := W3) (fun j hj => (hB3.block j (by omega)).trans (HB2.out.block j hj))).flatMore (by omega))
  have hcont := Lib.hid (containsP_ hrow3 (Nat.le_refl _) 31 #[.pointer (some ⟨w2.heap.size, 0, none⟩)] (fun u => PhenI h u) (enters_of Tryz.func31 (by kernel_rfl) rfl) (fun u W hu hbW => by
    obtain ⟨n, rfl, hn1, hn8⟩ := banL_in hq1 hq5 hu
    have hG3 := (HG.out.below hB3 (Nat.le_refl _)).below hbW (by omega)
    exact meets2_ H hG3 (by have := hbW.size; omega) ((hbW.block w2.heap.size (by omega)).trans hxb) n hn1 hn8))
  have hobl3 := lt_of_heap hob3
  have HOB3 := Lib.hid hob3
  have HB3 := Lib.hid hB3
  have o3 := (cells_of (cs := [.bool false]) hob3).1 0
  have o3f := (cells_of (cs := [.bool false]) hob3).2
  clear hob3 hB3 hxb hrow3 hz3 hB13 hB23
  go_wp2_with (go_at_call 30; with_reducible refine hcont.out.mono ?_
               rintro e w4 ⟨hB4, b, rfl, HBB⟩
               have hob4 := (hB4.block ob hobl3).trans HOB3.out
               have hobl4 := lt_of_heap hob4
               have o4 := (cells_of (cs := [.bool false]) hob4).1 0
               have o4f := (cells_of (cs := [.bool false]) hob4).2
               have HOB4 := Lib.hid hob4
               have HB4 := Lib.hid hB4
               clear hob4 hB4)
  go_end0
  refine ⟨rfl, !b, by simpa using heap_setCell_same (i := 0) (v := .bool (!b)) HOB4.out, ?_, Lib.hid ?_⟩
  · have h13 := HB1.out.size
    have h23 := HB2.out.size
    have h33 := HB3.out.size
    have hw4 : Below w.heap.size w w4 := HB1.out.trans ((HB2.out.mono h13).trans ((HB3.out.mono (by omega)).trans (HB4.out.mono (by omega))))
    exact ((Chg.of_below hw4).mono (G := fun j => j = ob) (fun j hj h => by omega)).setCell _ _ (fun _ => rfl)
  · rw [Bool.not_eq_true', ← Bool.not_eq_true, HBB.out]
    constructor
    · intro h1 x hx hp; exact h1 ⟨x, hx, hp⟩
    · rintro h1 ⟨x, hx, hp⟩; exact h1 x hx hp
end Go.Proofs.YtooigfkjdemnlaaGreatDoor

namespace Go.Proofs.YtooigfkjdemnlaaGreatDoor
set_option maxRecDepth 100000
open Go.RowKit Go.Lib Go.Sort Go.Shelf Xw

def MeetsA (w : World) (h : List HTx) (q : Nat) (e : Ending) (w' : World) : Prop :=
  Below w.heap.size w w' ∧ ∃ b n, e = .returned (.tuple #[.bool b, .int .i64 n]) ∧ ((histFault h ≠ none ∧ n = errOf (histFault h)) ∨ (histFault h = none ∧ n = 0 ∧ (b = true ↔ ∀ x ∈ banL q, ¬ PhenI h x)))
set_option maxHeartbeats 4000000 in
theorem meets_ {w : World} {B : Nat} {h : List HTx} {tv : Value} (hh : HistV w B tv h) (hB : B ≤ w.heap.size) (hops : ∀ x ∈ h, x.ops.length ≤ 1048576) (hb : BansI w) (q : Nat) (hq1 : 1 ≤ q) (hq5 : q ≤ 5) :
    Calls Tryz.prog 11 #[.agg #[tv], .int .i64 q] w (MeetsA w h q) := by
  obtain ⟨A, c, rfl, hn0, hm0⟩ := Rows.shape hh
  obtain ⟨W2, hW2⟩ : ∃ W2, W2 = ((w.alloc (.cells #[.slice A h.length c] 28)).alloc (.cells #[.int .i64 q] 40)).alloc (.cells #[.bool false] 4) := ⟨_, rfl⟩
  have hz2 : W2.heap.size = w.heap.size + 3 := by rw [hW2]; simp
  have hB2 : Below w.heap.size w W2 := by rw [hW2]; exact (bel2 _ _ _).alloc (by simp; omega) _
  have hob : W2.heap[w.heap.size + 1 + 1]? = some (.cells #[.bool false] 4) := by rw [hW2]; exact top_al _ _ (by simp)
  have hqb : W2.heap[w.heap.size + 1]? = some (.cells #[.int .i64 q] 40) := by rw [hW2, heap_alloc_lt (by simp)]; exact top_al _ _ (by simp)
  have hpos := hb.pos
  have hb2 : BansI W2 := hb.below hB2 hpos
  have hg := guarded_ (hh.keep (fun j hj => hB2.block j (by omega))) (show B ≤ W2.heap.size by omega) hops 28 #[.pointer (some ⟨w.heap.size + 1, 0, none⟩), .pointer (some ⟨w.heap.size + 1 + 1, 0, none⟩)] (enters_of Tryz.func28 (by kernel_rfl) rfl)
    (fun f w' => Below w.heap.size w w' ∧ f = histFault h ∧ ∃ b, w'.heap[w.heap.size + 1 + 1]? = some (.cells #[.bool b] 4) ∧ (f = none → (b = true ↔ ∀ x ∈ banL q, ¬ PhenI h x)))
    (fun lp w1 hl hbw hsz hf => by
      refine (meets1_ hl (fine_of hf) (hb2.below hbw (by omega)) ((hbw.block (w.heap.size + 1 + 1) (by omega)).trans hob) q hq1 hq5 ((hbw.block (w.heap.size + 1) (by omega)).trans hqb)).mono ?_
      rintro e w2 ⟨rfl, b, h1, h2, h3⟩
      refine ⟨none, rfl, ⟨?_, hf.symm, b, h1, fun _ => h3.out⟩, h2.block _ hsz (by omega)⟩
      exact (hB2.trans (hbw.mono (by omega))).trans (h2.below (fun j hj => by omega) (by have := hbw.size; omega)))
    (fun f w2 w3 ⟨h1, h2, v, h3, h4⟩ hc => ⟨h1.trans (hc.below (fun j hj => by omega) h1.size), h2, v, (hc.block _ (lt_of_heap h3) (by omega)).trans h3, h4⟩)
    (fun f w3 hf hbw => ⟨hB2.trans (hbw.mono (by omega)), hf.symm, _, (hbw.block _ (by omega)).trans hob, fun h => by cases h⟩)
  have HG := Lib.hid hg
  have HW2 := Lib.hid hW2
  clear hg hW2 hh hob hqb hb2
  have hmf : ∀ (fn : Fn) (first cap : Array Value) (w : World), (Instr.makeFunc fn first cap).run Tryz.prog w = .ok (.func fn first cap) w := fun _ _ _ _ => rfl
  obtain ⟨E, hE⟩ : ∃ E, E = errOf (histFault h) := ⟨_, rfl⟩
  have HE := Lib.hid hE
  clear hE
  go_enter Tryz.func11, Tryz.ntmps11
  go_wp2_with (first
    | (with_reducible refine wp_region_free (by kernel_rfl) (fun _ _ => ?_))
    | (go_at_call 18; rw [← HW2.out]; refine HG.out.mono ?_
       rintro e w1 ⟨f, rfl, hb1, hf, v, hv, hrows⟩
       rw [faultRes_eq]
       have q0 := (heap_cell hv).1
       have hol := lt_of_heap hv
       have hErr : errOf f = E := by rw [hf, HE.out]
       have HV := Lib.hid (And.intro hv (And.intro hb1 (And.intro hf hrows)))
       clear hv hf hrows
       obtain ⟨T, hT⟩ : ∃ T, T = txnOf f := ⟨_, rfl⟩
       obtain ⟨O, hO⟩ : ∃ O, O = opOf f := ⟨_, rfl⟩
       rw [← hT, ← hO, hErr]
       clear hT hO hErr))
  refine bodyPost_ret (results_tmp2 rfl _ _ _) rfl ?_
  obtain ⟨h1, h2, h3, h4⟩ := HV.out
  refine ⟨(h2.alloc h2.size _).drew, v, E, rfl, ?_⟩
  by_cases hf : histFault h = none
  · exact .inr ⟨hf, by rw [HE.out, hf]; rfl, h4 (h3.trans hf)⟩
  · exact .inl ⟨hf, HE.out⟩
end Go.Proofs.YtooigfkjdemnlaaGreatDoor
