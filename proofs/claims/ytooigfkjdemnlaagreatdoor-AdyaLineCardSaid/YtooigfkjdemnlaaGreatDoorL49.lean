/- Own texts of this claim, joined in build order: Al1. -/
import Derived.Test.YtooigfkjdemnlaaGreatDoorL34
import Derived.Test.YtooigfkjdemnlaaGreatDoorL40
import Derived.Test.YtooigfkjdemnlaaGreatDoorL44
import Derived.Test.YtooigfkjdemnlaaGreatDoorL46
import Derived.Test.YtooigfkjdemnlaaGreatDoorL48
set_option linter.all false
namespace Go.Proofs.YtooigfkjdemnlaaGreatDoor
set_option maxRecDepth 100000
open Go.RowKit Go.Lib Go.Sort Go.Shelf Xw

def ordL (n : Nat) : List Int := (List.range n).map fun (t : Nat) => (t : Int)
theorem ordL_succ (n : Nat) : ordL (n + 1) = ordL n ++ [(n : Int)] := by unfold ordL; rw [List.range_succ, List.map_append]; rfl
theorem ordL_len (n : Nat) : (ordL n).length = n := by unfold ordL; simp
theorem int_info' : (Tryz.prog.info? 3).map (fun i => (i.zero.map (·.cells.size), i.size, i.bytes)) = some (some 1, 1, 8) := by kernel_rfl
theorem told_hops {p : List (List ActL)} : ∀ x ∈ toldH p, x.ops.length ≤ 1048576 := fun x hx => by
  obtain ⟨t, ht⟩ := List.mem_iff_getElem?.1 hx
  have := ((told_ok p).hdr t x ht).2
  omega
set_option maxHeartbeats 16000000 in
theorem line_ {w : World} {B : Nat} {pv : Value} {p : List (List ActL)} (hp : LineV w B pv p) (hB : B ≤ w.heap.size) (hb : BansI w) :
    Calls Tryz.prog 3 #[.agg #[pv]] w fun e w' => e = .returned (.bool true) ∧ Below w.heap.size w w' := by
  have T := told_ok p
  have hops := told_hops (p := p)
  obtain ⟨h, hh⟩ : ∃ h, h = toldH p := ⟨_, rfl⟩
  rw [← hh] at T hops
  have hf : histFault h = none := T.fine.noFault
  have hn := T.n
  have HT := Lib.hid T
  have HF := Lib.hid hf
  clear T
  obtain ⟨W1, hW1⟩ : ∃ W1, W1 = w.alloc (.cells #[pv] 24) := ⟨_, rfl⟩
  have hB1 : Below w.heap.size w W1 := by rw [hW1]; exact bel1 _ _
  have hz1 : W1.heap.size = w.heap.size + 1 := by rw [hW1]; simp
  have hob : W1.heap[w.heap.size]? = some (.cells #[pv] 24) := by rw [hW1]; exact heap_alloc_new _ _
  have HPOS := Lib.hid hb.pos
  have HB := Lib.hid hb
  have HLV := Lib.hid hp
  have HBW := Lib.hid hB1
  have HW1 := Lib.hid hW1
  have HOB := Lib.hid hob
  have HH := Lib.hid hh
  clear hb hp hW1 hh hob hB1
  have e0 : errOf none = 0 := rfl
  have e1 : txnOf none = 0 := rfl
  have e2 : opOf none = 0 := rfl
  obtain ⟨PA, pc, rfl, hp1, hp2⟩ := Rows.shape HLV.out
  go_enter Tryz.func3, Tryz.ntmps3
  go_upto_region 7 with (first
    | (go_at_call 5; rw [← HW1.out]; refine (works_ _).mono ?_
       rintro e w1 ⟨rfl, hB1⟩
       have o1 := (World.cell?_of_block (a := ⟨w.heap.size, 0, none⟩) (hB1.block w.heap.size (by omega))).trans ((cells_of (cs := [.slice PA p.length pc]) HOB.out).1 0)
       have p1 : w.heap.size < w1.heap.size := by have := hB1.size; omega
       have HB1 := Lib.hid (HBW.out.trans (hB1.mono (by omega)))
       clear hB1)
    | (go_at_call 6; refine (toldLine_ (HLV.out.keep (fun j hj => HB1.out.block j (by omega))) (Nat.le_trans hB HB1.out.size)).mono ?_
       rintro e w2 ⟨hB2, v, rfl, hv⟩
       rw [← HH.out] at hv
       obtain ⟨A, c, rfl, hn0, hm0⟩ := Rows.shape hv
       obtain ⟨W3, hW3⟩ : ∃ W3, W3 = w2.alloc (.cells #[.slice A h.length c] 28) := ⟨_, rfl⟩
       have hB3 : Below w2.heap.size w2 W3 := by rw [hW3]; exact bel1 _ _
       have hz3 : W3.heap.size = w2.heap.size + 1 := by rw [hW3]; simp
       have ho3 : W3.heap[w2.heap.size]? = some (.cells #[.slice A h.length c] 28) := by rw [hW3]; exact heap_alloc_new _ _
       have hk : ∀ W, Below W3.heap.size W3 W → HistV W W3.heap.size (.slice A h.length c) h ∧ W3.heap.size ≤ W.heap.size ∧ BansI W ∧ Below w.heap.size w W := fun W hb => by
         have h3 := hb.size
         have h2 := hB2.size
         have h1 := HB1.out.size
         have hbw : Below w.heap.size w W := HB1.out.trans ((hB2.mono h1).trans ((hB3.mono (by omega)).trans (hb.mono (by omega))))
         exact ⟨(hv.keep (fun j hj => (hb.block j (by omega)).trans (hB3.block j hj))).more (by omega), h3, HB.out.below hbw HPOS.out, hbw⟩
       have hbx : ∀ W, Below W3.heap.size W3 W → W.cell? ⟨w2.heap.size, 0, none⟩ = some (.slice A h.length c) ∧ w2.heap.size < W.heap.size := fun W hb =>
         ⟨(World.cell?_of_block (a := ⟨w2.heap.size, 0, none⟩) (hb.block w2.heap.size (by omega))).trans ((cells_of (cs := [.slice A h.length c]) ho3).1 0), by have := hb.size; omega⟩
       have HK := Lib.hid hk
       have HBX := Lib.hid hbx
       have HW3 := Lib.hid hW3
       obtain ⟨o3, p3⟩ := hbx W3 (Below.refl _ _)
       clear hB2 hv hB3 hz3 ho3 hk hbx hW3 o1 p1)
    | (go_at_call 7; rw [← HW3.out]; refine (checkC_ (HK.out W3 (Below.refl _ _)).1 (Nat.le_refl _) hops).mono ?_
       rintro e w4 ⟨rfl, hB4⟩
       rw [HF.out, e0, e1, e2]
       obtain ⟨o4, p4⟩ := HBX.out w4 hB4
       have HB4 := Lib.hid hB4
       clear hB4 o3 p3)
    | (go_at_call 8; refine (num_ _ _).mono ?_; rintro e w6 ⟨rfl, rfl⟩))
  have hz4 := HB4.out.size
  obtain ⟨i0, z0, j0, j1, j2, j3, j4⟩ := info_of int_info'
  go_wp2
  go_loopw [7, 8] (fun v' i' wr => ∃ (t : Nat) (F : Nat → Prop), t ≤ h.length ∧ i' = .int .i64 t ∧ Sl wr 3 1 v' (ordL t).length ((ordL t).flatMap intC) F ∧ (∀ j, F j → w4.heap.size ≤ j ∧ j < wr.heap.size) ∧ Chg (fun _ => False) w4 wr) (fun _ i' _ => h.length - (intOf i').toNat)
  case atStart => exact ⟨0, fun _ => False, Nat.zero_le _, rfl, Sl.nil _ _ _ _, fun _ f => f.elim, Chg.refl _ _⟩
  case round =>
    obtain ⟨t, F, ht, rfl, hs, hF, hC⟩ := hrel
    have hzr := hC.size
    have hbr : Below W3.heap.size W3 wr := HB4.out.trans (hC.below (fun j hj => hj.elim) (by omega))
    obtain ⟨o5, p5⟩ := HBX.out wr hbr
    obtain ⟨OA, oc, rfl, hoc1, hoc2⟩ := hs.shape
    have holn := ordL_len t
    by_cases hlt : t < h.length
    · have hti : (t : Int) < h.length := by omega
      have hmx : (ordL t).length + 1 ≤ maxLen := by simp only [maxLen]; omega
      have hby : ((ordL t).length + 1) * 8 ≤ 140737488355328 := by omega
      have HS := Lib.hid hs
      have HFF := Lib.hid hF
      have HC := Lib.hid hC
      clear hs hF hC hbr holn
      go_wp2_with (
        refine wpList_append_sl _ rfl (.tmp 34) (.tmp 36) 34 rfl 3 i0 z0 1 8 Tryz.underlying34 j0 j1 j2 j3 j4 (by omega) _ _ _ _ rfl (HS.out.chg ((Chg.refl (fun _ => False) _).alloc _) (fun _ _ f => f)) _ _ 1 1 [.int .i64 t] rfl (reads_new _ _ 1 rfl _) (by intro u hu; simp at hu; subst hu; rfl) hmx hby ?_
        intro v9 w9 F9 hs9 hc9 hf9 hnz9
        have HN9 := Lib.hid hnz9
        clear hnz9)
      have hal9 : Chg F wr w9 := (((Chg.refl (fun _ => False) wr).alloc _).mono (G := F) (fun _ _ f => f.elim)).trans hc9 (fun _ _ h => h)
      have hz9 := hal9.size
      refine ⟨⟨t + 1, F9, by omega, by simp, ?_, fun j hj => ?_, HC.out.trans hal9 (fun j hj h => by have := HFF.out j h; omega)⟩, by simp [intOf]; omega⟩
      · rw [ordL_succ, List.length_append, List.flatMap_append]
        simpa [intC] using hs9
      · rcases hf9 j hj with h | ⟨h, h'⟩
        · have := HFF.out j h; omega
        · rw [World.size_alloc] at h; omega
    · obtain rfl : t = h.length := by omega
      have hti : ¬ (h.length : Int) < h.length := by omega
      have hro : Rows wr wr.heap.size 1 (Flat intC) (.slice OA (ordL h.length).length oc) (ordL h.length) := Rows.of_sl (enc := intC) (fun _ => rfl) hs (Nat.le_refl _)
      obtain ⟨wx, rfl⟩ : ∃ wx : World, wx = wr := ⟨_, rfl⟩
      have hkx := HK.out wx hbr
      have hordl : OrderL h (ordL h.length) (List.range h.length) := ⟨rfl, HT.out.line.nd, HT.out.line.cm⟩
      have HREP := Lib.hid (replay_ (hkx.1.more hkx.2.1) (Nat.le_refl _) hro hops)
      have HBXR := Lib.hid hbr
      have HORD := Lib.hid hordl
      clear hs hF hC hro hkx hordl holn hbr
      go_upto_region 15 with (first
        | (go_at_call 9; with_reducible refine HREP.out.mono ?_
           rintro e w7 ⟨hB7, b, n, rfl, hr⟩
           obtain ⟨rfl, rfl⟩ : n = 0 ∧ b = true := by
             rcases hr with ⟨h1, _⟩ | ⟨_, _, h1⟩ | ⟨_, h1, l', h2, h3⟩
             · exact absurd HF.out h1
             · exact absurd ⟨_, HORD.out⟩ h1
             · rw [h2.uniq HORD.out] at h3
               exact ⟨h1, h3.2 (HT.out.replays HT.out.line)⟩
           have hb7 := HBXR.out.trans (hB7.mono HBXR.out.size)
           obtain ⟨o7, p7⟩ := HBX.out w7 hb7
           have HB7 := Lib.hid hb7
           have hk7 := HK.out w7 hb7
           have HSER := Lib.hid (serial_ (hk7.1.more hk7.2.1) (Nat.le_refl _) hops)
           clear hB7 hr hb7 hk7 o5 p5)
        | (go_at_call 8; refine (num_ _ _).mono ?_; rintro e w6 ⟨rfl, rfl⟩))
      go_upto_region 18 with (first
        | (go_at_call 10; with_reducible refine HSER.out.mono ?_
           rintro e w8 ⟨hB8, sv, n, rfl, hsr⟩
           obtain ⟨rfl, l, hl, hrn⟩ : n = 0 ∧ ∃ l : List Nat, Line h l ∧ RowsN w8 w7.heap.size 1 intC sv (l.map fun (t : Nat) => (t : Int)) := by
             rcases hsr with ⟨h1, _⟩ | ⟨_, _, e', h1, h2⟩ | ⟨_, h1, h2⟩
             · exact absurd HF.out h1
             · have := HT.out.rise h1; omega
             · exact ⟨h1, h2⟩
           obtain ⟨ord, hord⟩ : ∃ ord : List Int, ord = l.map fun (t : Nat) => (t : Int) := ⟨_, rfl⟩
           rw [← hord] at hrn
           have hol : OrderL h ord l := by rw [hord]; exact hl.ord
           have HOL := Lib.hid hol
           obtain ⟨SA, sc, rfl, hsc1, hsc2⟩ := hrn.1.shape
           have hb8 := HB7.out.trans (hB8.mono HB7.out.size)
           obtain ⟨o8, p8⟩ := HBX.out w8 hb8
           have HB8 := Lib.hid hb8
           have hk8 := HK.out w8 hb8
           have HREP2 := Lib.hid (replay_ (hk8.1.more hk8.2.1) (Nat.le_refl _) hrn.1 hops)
           have HLN := Lib.hid hl
           clear hB8 hsr hb8 hk8 hl hrn o7 p7 hord hol)
        | (go_at_call 8; refine (num_ _ _).mono ?_; rintro e w6 ⟨rfl, rfl⟩))
      go_upto_region 21 with (first
        | (go_at_call 9; with_reducible refine HREP2.out.mono ?_
           rintro e w9 ⟨hB9, b, n, rfl, hr⟩
           obtain ⟨rfl, rfl⟩ : n = 0 ∧ b = true := by
             rcases hr with ⟨h1, _⟩ | ⟨_, _, h1⟩ | ⟨_, h1, l', h2, h3⟩
             · exact absurd HF.out h1
             · exact absurd ⟨_, HOL.out⟩ h1
             · rw [h2.uniq HOL.out] at h3
               exact ⟨h1, h3.2 (HT.out.replays HLN.out)⟩
           have hb9 := HB8.out.trans (hB9.mono HB8.out.size)
           obtain ⟨o9, p9⟩ := HBX.out w9 hb9
           have HB9 := Lib.hid hb9
           clear hB9 hr hb9 o8 p8)
        | (go_at_call 8; refine (num_ _ _).mono ?_; rintro e w6 ⟨rfl, rfl⟩))
      clear o9 p9
      obtain ⟨wy, hwy⟩ : ∃ wy : World, wy = w9 := ⟨_, rfl⟩
      go_wp2
      go_loopw [4, 9, 11] (fun _ _ q' wr => ∃ q : Nat, 1 ≤ q ∧ q ≤ 6 ∧ q' = .int .i64 q ∧ Below w9.heap.size w9 wr) (fun _ _ q' _ => 6 - (intOf q').toNat)
      case atStart => exact ⟨1, by omega, by omega, rfl, Below.refl _ _⟩
      case round =>
        obtain ⟨q, hq1, hq6, rfl, hBq⟩ := hrel
        have hbq := HB9.out.trans (hBq.mono HB9.out.size)
        obtain ⟨oq, pq⟩ := HBX.out wr hbq
        have hkq := HK.out wr hbq
        by_cases hq5 : q ≤ 5
        · have hqi : (q : Int) ≤ 5 := by omega
          have HM := Lib.hid (meets_ (hkq.1.more hkq.2.1) (Nat.le_refl _) hops hkq.2.2.1 q hq1 hq5)
          have HBQ := Lib.hid hBq
          clear hbq hkq hBq
          go_wp2_with (first
            | (go_at_call 11; with_reducible refine HM.out.mono ?_
               rintro e w10 ⟨hB10, b, n, rfl, hr⟩
               obtain ⟨rfl, rfl⟩ : n = 0 ∧ b = true := by
                 rcases hr with ⟨h1, _⟩ | ⟨_, h1, h2⟩
                 · exact absurd HF.out h1
                 · exact ⟨h1, h2.2 (fun x _ hp => HT.out.none_shown _ hp)⟩
               have HB10 := Lib.hid hB10
               clear hB10 hr)
            | (go_at_call 8; refine (num_ _ _).mono ?_; rintro e w6 ⟨rfl, rfl⟩))
          exact ⟨⟨q + 1, by omega, by omega, by simp, HBQ.out.trans (HB10.out.mono HBQ.out.size)⟩, by simp [intOf]; omega⟩
        · obtain rfl : q = 6 := by omega
          obtain ⟨wz, rfl⟩ : ∃ wz : World, wz = wr := ⟨_, rfl⟩
          have HPH := Lib.hid (phenomena_ (hkq.1.more hkq.2.1) (Nat.le_refl _) hops)
          have HBZ := Lib.hid hbq
          clear hbq hkq hBq
          go_upto_region 30 with (first
            | (go_at_call 12; with_reducible refine HPH.out.mono ?_
               rintro e w11 ⟨hB11, pv', rfl, hp⟩
               rw [HF.out, e0]
               obtain ⟨ps, hp1, hp2⟩ := hp HF.out
               obtain rfl : ps = [] := List.eq_nil_iff_forall_not_mem.2 (fun x hx => by
                 obtain ⟨q, _, _, h3, _⟩ := (hp1.2 x).1 hx
                 exact HT.out.none_shown _ h3)
               obtain ⟨FA, fc, rfl, hfc1, hfc2⟩ := hp2.1.shape
               have hb11 := HBZ.out.trans (hB11.mono HBZ.out.size)
               obtain ⟨o11, p11⟩ := HBX.out w11 hb11
               have HB11 := Lib.hid hb11
               have hk11 := HK.out w11 hb11
               have HEM := Lib.hid (embed_ (hk11.1.more hk11.2.1) (Nat.le_refl _) hops)
               clear hB11 hp hp1 hp2 hb11 hk11 oq pq)
            | (go_at_call 8; refine (num_ _ _).mono ?_; rintro e w6 ⟨rfl, rfl⟩))
          go_wp2_with (first
            | (go_at_call 13; with_reducible refine HEM.out.mono ?_
               rintro e w12 ⟨hB12, EA, k, c12, n, rfl, hr⟩
               obtain ⟨rfl, rfl⟩ : n = 0 ∧ k = 2 * h.length := by
                 rcases hr with ⟨h1, _⟩ | ⟨_, l, hm, ⟨h1, h2, _⟩ | ⟨_, h2⟩⟩
                 · exact absurd HF.out h1
                 · refine ⟨h1, ?_⟩
                   rw [h2, HT.out.moments hm]
                   exact (HT.out.raw (Nat.le_refl _)).1
                 · exact absurd ⟨HT.out.fits hm, HT.out.runs hm⟩ h2
               have hb12 := HB11.out.trans (hB12.mono HB11.out.size)
               obtain ⟨o12, p12⟩ := HBX.out w12 hb12
               have HB12 := Lib.hid hb12
               clear hB12 hr hb12 o11 p11)
            | (go_at_call 8; refine (num_ _ _).mono ?_; rintro e w6 ⟨rfl, rfl⟩))
          go_ret
          exact ⟨rfl, (HK.out w12 HB12.out).2.2.2⟩
end Go.Proofs.YtooigfkjdemnlaaGreatDoor
