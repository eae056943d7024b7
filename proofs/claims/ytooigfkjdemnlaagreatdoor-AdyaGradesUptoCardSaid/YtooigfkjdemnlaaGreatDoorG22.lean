/- Own texts of this claim, joined in build order: B2. -/
import Derived.Test.YtooigfkjdemnlaaGreatDoorG21
import Derived.Test.YtooigfkjdemnlaaGreatDoorG20
set_option linter.all false
namespace Go.Proofs.YtooigfkjdemnlaaGreatDoor
set_option maxRecDepth 100000
open Go.RowKit Go.Lib Go.Sort Go.Shelf Xw

theorem zero_slice_edge (w : World) : (zeroValue 61).run Tryz.prog w = .ok (.slice none 0 0) w := by kernel_rfl
theorem GrTo.low {W0 wr : World} {B lp gb : Nat} {h : List HTx} {a2 : Value} {l : List Edge} (H : GrTo W0 wr B lp gb h a2 (fun _ => False) l) : (∀ j, j < W0.heap.size → j ≠ gb → wr.heap[j]? = W0.heap[j]?) ∧ W0.heap.size ≤ wr.heap.size := by
  obtain ⟨F, _, hc, _⟩ := H
  exact ⟨fun j hj hg => hc.block j hj (fun h => h.elim id (fun e => hg e)), hc.size⟩
theorem GrTo.low2 {W0 wr : World} {B lp gb : Nat} {h : List HTx} {a2 : Value} {l : List Edge} {F0 : Nat → Prop} (H : GrTo W0 wr B lp gb h a2 F0 l) : (∀ j, j < W0.heap.size → ¬ F0 j → j ≠ gb → wr.heap[j]? = W0.heap[j]?) ∧ W0.heap.size ≤ wr.heap.size := by
  obtain ⟨F, _, hc, _⟩ := H
  exact ⟨fun j hj hF hg => hc.block j hj (fun h => h.elim hF (fun e => hg e)), hc.size⟩
set_option maxHeartbeats 8000000 in
theorem build_ {w : World} {lp : Nat} {h : List HTx} (hl : Led w w.heap.size lp h) (L : Lim h) :
    Calls Tryz.prog 24 #[.pointer (some ⟨lp, 0, none⟩)] w fun e w' => ∃ gb, e = .returned (.pointer (some ⟨gb, 0, none⟩)) ∧ GrD w' w'.heap.size lp gb h (edgesOf h) w.heap.size ∧ Below w.heap.size w w' := by
  have hmk : ∀ (t : TypeId) (w : World), (Instr.makeMap t none).run Tryz.prog w = .ok (.map (some w.heap.size)) (w.alloc (.map #[] 0)) := fun _ _ => rfl
  obtain ⟨tv, wv, ob, kv, ty, l1, l2, l3, l4, l5⟩ := hl.ex
  have q0 := (cells_of l1).1 0
  have q3 := (cells_of l1).1 3
  obtain ⟨KA, kc, rfl, hk1, hk2⟩ := l5.shape
  simp only [maxLen] at hk2
  have hlp := hl.lt
  obtain ⟨W0, hW0⟩ : ∃ W0, W0 = (w.alloc (.map #[] 0)).alloc (.cells #[.pointer (some ⟨lp, 0, none⟩), .slice none 0 0, .map (some w.heap.size)] 95) := ⟨_, rfl⟩
  have hz0 : W0.heap.size = w.heap.size + 2 := by rw [hW0]; simp
  have hB0 : Below w.heap.size w W0 := by rw [hW0]; exact bel2 _ _ _
  have hm0 : KMap (intKey (P := Tryz.prog) Tryz.underlying3).enc W0 w.heap.size [] := by rw [hW0]; exact (KMap.made _ w).keep (heap_alloc_lt (by simp))
  have hG0 : Gr W0 w.heap.size lp (w.heap.size + 1) h (.map (some w.heap.size)) [] (fun _ => False) := by
    refine ⟨hl.below hB0 (Nat.le_refl _), ⟨.slice none 0 0, ?_, Sl.nil _ _ _ _⟩, fun j f => f.elim, by omega⟩
    rw [hW0]; exact top_al _ _ (by simp)
  have hgW : w.heap.size + 1 < W0.heap.size := by omega
  have HT0 := Lib.hid (GrTo.refl hG0)
  have HW0 := Lib.hid hW0
  clear hW0 hG0
  go_enter Tryz.func24, Tryz.ntmps24
  go_wp2
  rw [← HW0.out]
  go_loopw [5, 6, 7, 29] (fun _ _ _ i' wr => ∃ m : Nat, m ≤ (keysOf h).length ∧ i' = .int .i64 m ∧ GrTo W0 wr w.heap.size lp (w.heap.size + 1) h (.map (some w.heap.size)) (fun _ => False) (wwAll h m)) (fun _ _ _ i' _ => (keysOf h).length - (intOf i').toNat)
  case atStart => exact ⟨0, by omega, rfl, HT0.out⟩
  case round =>
    obtain ⟨m, hm, rfl, hT⟩ := hrel
    obtain ⟨hlow, hzr⟩ := hT.low
    have hlw : ∀ j, j < w.heap.size → wr.heap[j]? = w.heap[j]? := fun j hj => (hlow j (by omega) (by omega)).trans (hB0.block j hj)
    have hlpr : lp < wr.heap.size := by omega
    have c2 := (World.cell?_of_block (a := ⟨lp, 2, none⟩) (hlw lp hlp)).trans ((cells_of l1).1 2)
    by_cases hlt : m < (keysOf h).length
    · obtain ⟨k, hk⟩ : ∃ k, (keysOf h)[m]? = some k := ⟨_, List.getElem?_eq_getElem hlt⟩
      obtain ⟨b5, o5, c5, he, hb5, p0⟩ := l5.get1 hk (wr := wr) hlw rfl
      cases he
      have hb5r : b5 < wr.heap.size := by omega
      obtain ⟨LO, hLO, hlk⟩ := (l4.keep hlw).look
      have hlkk := hlk k
      obtain ⟨V, hV⟩ : ∃ V, V = (kget LO k).getD (.slice none 0 0) := ⟨_, rfl⟩
      rw [← hV] at hlkk
      obtain ⟨OA, oc, rfl, hoc1, hoc2⟩ := hlkk.shape
      simp only [maxLen] at hoc2
      have lk : ∀ W : World, W.heap[ob]? = wr.heap[ob]? → (Instr.lookup 81 (.map (some ob)) (.string k) false).run Tryz.prog W = .ok (.slice OA (order h k).length oc) W := fun W e => by
        have := run_lookup_kmap kString Tryz.underlying81 (zero_slice_inst W) (hLO.keep e) k false
        rw [hV]
        exact this
      have lk0 := lk wr rfl
      have hstep : wwAll h (m + 1) = wwE k (order h k) (wwAll h m) (order h k).length := by simp only [wwAll, hk]
      have hwl := wwAll_len L.n m
      have hKl := keysOf_le L
      have hol := order_le h k
      have hn := L.n
      have LK := Lib.hid lk
      have HS := Lib.hid hstep
      have HT := Lib.hid hT
      have HKK := Lib.hid hk
      have HLW := Lib.hid hlw
      have HV := Lib.hid hV
      clear hlow hk hstep lk hV hT hlk
      obtain ⟨wa, rfl⟩ : ∃ wa : World, wa = wr := ⟨_, rfl⟩
      go_wp2
      go_loopw [6, 7, 40] (fun _ _ j' wr2 => ∃ j : Nat, j ≤ (order h k).length ∧ j' = .int .i64 j ∧ GrTo W0 wr2 w.heap.size lp (w.heap.size + 1) h (.map (some w.heap.size)) (fun _ => False) (wwE k (order h k) (wwAll h m) j)) (fun _ _ j' _ => (order h k).length - (intOf j').toNat)
      case atStart => exact ⟨0, by omega, rfl, HT.out⟩
      case round =>
        obtain ⟨j, hj, rfl, hT2⟩ := hrel
        obtain ⟨hlow2, hzr2⟩ := hT2.low
        have hlw2 : ∀ j, j < w.heap.size → wr.heap[j]? = w.heap[j]? := fun j hj => (hlow2 j (by omega) (by omega)).trans (hB0.block j hj)
        by_cases hjl : j < (order h k).length
        · obtain ⟨v, hv⟩ : ∃ v, (order h k)[j]? = some v := ⟨_, List.getElem?_eq_getElem hjl⟩
          obtain ⟨b2, o2, c2', he, hb2, p0, p1, p2⟩ := hlkk.get3 hv (wr := wr) (fun j hj => (hlw2 j hj).trans (HLW.out j hj).symm) rfl
          cases he
          have hb2r : b2 < wr.heap.size := by omega
          have hwwl := wwE_len k (order h k) (wwAll h m) j
          have hobB := l4.1
          have HT2 := Lib.hid hT2
          by_cases hjz : j = 0
          · have hst2 : wwE k (order h k) (wwAll h m) (j + 1) = wwE k (order h k) (wwAll h m) j := by subst hjz; simp [wwE]
            have HS2 := Lib.hid hst2
            have hjn : ¬ (0 : Int) < j := by omega
            clear hst2 hT2 hv hlow2 hjz
            go_wp2
            exact ⟨⟨j + 1, by omega, by simp, by rw [HS2.out]; exact HT2.out.below_right (bel1 _ _)⟩, by simp [intOf]; omega⟩
          · obtain ⟨i, hjj⟩ : ∃ i, j = i + 1 := ⟨j - 1, by omega⟩
            obtain ⟨u, hu⟩ : ∃ u, (order h k)[i]? = some u := ⟨_, List.getElem?_eq_getElem (by omega)⟩
            obtain ⟨b3, o3, c3', he, hb3, u0, u1, u2⟩ := hlkk.get3 hu (wr := wr) (fun j hj => (hlw2 j hj).trans (HLW.out j hj).symm) rfl
            cases he
            have hst2 : wwE k (order h k) (wwAll h m) (j + 1) = addE (wwE k (order h k) (wwAll h m) j) u.txn v.txn 1 k := by
              subst hjj
              conv => lhs; unfold wwE
              rw [hv]
              simp only [hu]
            have hji : (j : Int) < (order h k).length := by omega
            have hj0 : (0 : Int) < j := by omega
            have hii : (i : Int) < (order h k).length := by omega
            have hjw : IntKind.i64.wrap ((j : Int) - 1) = i := by rw [show (j : Int) - 1 = i by omega, IntKind.wrap_i64]; omega
            obtain ⟨W8, hW8⟩ : ∃ W8, W8 = wr.alloc (.cells #[.int .i64 v.txn, .int .u64 v.fin, .bool v.dead] 125) := ⟨_, rfl⟩
            have hB8 : Below wr.heap.size wr W8 := by rw [hW8]; exact bel1 _ _
            have hz8 : W8.heap.size = wr.heap.size + 1 := by rw [hW8]; simp
            have hbx : W8.heap[wr.heap.size]? = some (.cells #[.int .i64 v.txn, .int .u64 v.fin, .bool v.dead] 125) := by rw [hW8]; exact heap_alloc_new _ _
            have d2 := (World.cell?_of_block (a := ⟨lp, 2, none⟩) ((hB8.block lp (by omega)).trans (hlw2 lp hlp))).trans ((cells_of l1).1 2)
            have d3 := (World.cell?_of_block (a := ⟨b2, o2 + i * 3, none⟩) (hB8.block b2 (by omega))).trans u0
            have d4 := (cells_of (cs := [.int .i64 v.txn, .int .u64 v.fin, .bool v.dead]) hbx).1 0
            have hbx0 := hbx
            have hob8 : W8.heap[ob]? = wa.heap[ob]? := (hB8.block ob (by omega)).trans ((hlw2 ob hobB).trans (HLW.out ob hobB).symm)
            obtain ⟨F2, H2, hc2, hf2⟩ := HT2.out
            have H8 := Lib.hid (H2.below hB8.drew)
            have HO2 := Lib.hid H2.own
            have HC2 := Lib.hid (And.intro hc2 hf2)
            have hz2 : wr.heap.size + 1 = W8.drew.heap.size := by show _ = W8.heap.size; omega
            clear hc2 hf2
            have HS2 := Lib.hid hst2
            have HJ := Lib.hid hjj
            have HB8 := Lib.hid hB8
            have HBX := Lib.hid hbx
            have HW8 := Lib.hid hW8
            clear hst2 hT2 hv hu hlow2 hjj hW8 hbx hbx0 u0 u1 u2
            go_upto_region 9 with (fail)
            rw [← HW8.out]
            go_region_held3 (fun w' => w'.cell? ⟨lp, 2, none⟩ = some (.map (some ob)) ∧ (Instr.lookup 81 (.map (some ob)) (.string k) false).run Tryz.prog w' = .ok (.slice (some ⟨b2, o2, none⟩) (order h k).length oc) w' ∧ w'.cell? ⟨b2, o2 + i * 3, none⟩ = some (.int .i64 u.txn) ∧ w'.cell? ⟨wr.heap.size, 0, none⟩ = some (.int .i64 v.txn)) (first | exact ⟨d2, LK.out _ hob8, d3, d4⟩ | exact ⟨r2, r1, r3, r4⟩)
              (first
                | (go_at_call 50; refine (addG_ H8.out u.txn v.txn 1 k (by omega)).mono ?_
                   rintro e w9 ⟨rfl, hto⟩
                   have hT9 := GrTo.after HC2.out.1 HC2.out.2 hgW (GrTo.below_left HB8.out.drew hto)
                   have HT9 := Lib.hid hT9
                   obtain ⟨hlow9, hz9⟩ := hT9.low
                   obtain ⟨F9, _, hc9, _⟩ := hto
                   have hlw9 : ∀ j, j < w.heap.size → w9.heap[j]? = w.heap[j]? := fun j hj => (hlow9 j (by omega) (by omega)).trans (hB0.block j hj)
                   have r1 := LK.out w9 ((hlw9 ob hobB).trans (HLW.out ob hobB).symm)
                   have r2 := (World.cell?_of_block (a := ⟨lp, 2, none⟩) (hlw9 lp hlp)).trans ((cells_of l1).1 2)
                   have r3 := (World.cell?_of_block (a := ⟨b2, o2 + i * 3, none⟩) ((hlw9 b2 hb2).trans ((HB8.out.block b2 (by omega)).trans (hlw2 b2 hb2)).symm)).trans d3
                   have r4 : w9.cell? ⟨wr.heap.size, 0, none⟩ = some (.int .i64 v.txn) := (World.cell?_of_block (a := ⟨wr.heap.size, 0, none⟩) (hc9.block wr.heap.size (by omega) (fun h => by
                     rcases h with h | h
                     · have := (HO2.out _ h).2.2; omega
                     · omega))).trans d4
                   clear hT9 hlow9 hc9))
            go_wp2
            exact ⟨⟨j + 1, by omega, by simp, by rw [HS2.out]; exact HT9.out⟩, by simp [intOf]; omega⟩
        · obtain rfl : j = (order h k).length := by omega
          go_wp2
          exact ⟨⟨m + 1, by omega, by simp, by rw [HS.out]; exact hT2⟩, by simp [intOf]; omega⟩
    · obtain rfl : m = (keysOf h).length := by omega
      have hTx0 : GrTo W0 wr w.heap.size lp (w.heap.size + 1) h (.map (some w.heap.size)) (fun _ => False) (txsE h 0) := hT
      have HT := Lib.hid hTx0
      have c0 := (World.cell?_of_block (a := ⟨lp, 0, none⟩) (hlw lp hlp)).trans q0
      obtain ⟨TA, tc, rfl, ht1, ht2⟩ := Rows.shape l2
      simp only [maxLen] at ht2
      have hn := L.n
      clear hT hTx0 hlow
      go_wp2
      go_loopw [8, 9, 10, 11, 13, 15, 16, 17, 71] (fun _ _ _ _ _ _ _ _ i' wr => ∃ t : Nat, t ≤ h.length ∧ i' = .int .i64 t ∧ GrTo W0 wr w.heap.size lp (w.heap.size + 1) h (.map (some w.heap.size)) (fun _ => False) (txsE h t)) (fun _ _ _ _ _ _ _ _ i' _ => h.length - (intOf i').toNat)
      case atStart => exact ⟨0, by omega, rfl, HT.out⟩
      case round =>
        obtain ⟨t, ht, rfl, hT1⟩ := hrel
        obtain ⟨hlow1, hzr1⟩ := hT1.low
        have hlw1 : ∀ j, j < w.heap.size → wr.heap[j]? = w.heap[j]? := fun j hj => (hlow1 j (by omega) (by omega)).trans (hB0.block j hj)
        obtain ⟨wt, rfl⟩ : ∃ wt : World, wt = wr := ⟨_, rfl⟩
        by_cases htl : t < h.length
        · obtain ⟨x, hx⟩ : ∃ x, h[t]? = some x := ⟨_, List.getElem?_eq_getElem htl⟩
          have hxm := List.mem_of_getElem? hx
          obtain ⟨b, p, c2', ov, he, hb, ⟨a0, a1, a2, a3, a4, a5, a6, a7, a8⟩, hro⟩ := HistV.get l2 hx (wr := wt) hlw1
          cases he
          obtain ⟨Ao, co, rfl, hno, hmo⟩ := hro.shape
          simp only [maxLen] at hmo
          have hbr : b < wt.heap.size := by omega
          have hlr : Led (wt.alloc (.cells #[.int .i64 x.iso, .int .i64 x.fate, .int .u64 x.bgn, .int .u64 x.fin, .int .i64 x.bi, .int .i64 x.bo, .int .i64 x.ei, .int .i64 x.eo, .slice Ao x.ops.length co] 53)) w.heap.size lp h := by
            obtain ⟨F1, H1, _, _⟩ := hT1
            exact H1.led.below (bel1 _ _) H1.led.le
          have HT1 := Lib.hid hT1
          have HX := Lib.hid hx
          cases hct : com h t
          · have hst : txsE h (t + 1) = txsE h t := by simp only [txsE, hx, hct]; simp
            have HS := Lib.hid hst
            have HC := Lib.hid hct
            clear hst hct hx hT1 hlow1
            go_wp2_with (go_at_call 20; refine (committed_ hlr t x HX.out).mono ?_; rw [HC.out]; rintro e w1 ⟨rfl, rfl⟩)
            exact ⟨⟨t + 1, by omega, by simp, by rw [HS.out]; exact HT1.out.below_right (bel1 _ _)⟩, by simp [intOf]; omega⟩
          · have hst : txsE h (t + 1) = opsE h t x (txsE h t) x.ops.length := by simp only [txsE, hx, hct]; simp
            have htx := txsE_len L t
            have hopl := L.ops x hxm
            obtain ⟨N0, hN0⟩ : ∃ N0, N0 = (txsE h t).length := ⟨_, rfl⟩
            have hN0b : N0 < 8640266240 := by rw [hN0]; omega
            have HS := Lib.hid hst
            have HC := Lib.hid hct
            have HN0 := Lib.hid hN0
            have HTX := Lib.hid htx
            clear hst hct hx hT1 hlow1 htx hN0
            go_wp2_with (go_at_call 20; refine (committed_ hlr t x HX.out).mono ?_; rw [HC.out]; rintro e w1 ⟨rfl, rfl⟩)
            go_loopw [10, 11, 13, 15, 16, 17, 83] (fun _ _ _ _ _ _ j' wr => ∃ j : Nat, j ≤ x.ops.length ∧ j' = .int .i64 j ∧ GrTo W0 wr w.heap.size lp (w.heap.size + 1) h (.map (some w.heap.size)) (fun _ => False) (opsE h t x (txsE h t) j)) (fun _ _ _ _ _ _ j' _ => x.ops.length - (intOf j').toNat)
            case atStart => exact ⟨0, by omega, rfl, HT1.out.below_right (bel1 _ _)⟩
            case round =>
              obtain ⟨j, hj, rfl, hT2⟩ := hrel
              obtain ⟨wj, rfl⟩ : ∃ wj : World, wj = wr := ⟨_, rfl⟩
              obtain ⟨hlow2, hzr2⟩ := hT2.low
              have hlw2 : ∀ j, j < w.heap.size → wj.heap[j]? = w.heap[j]? := fun j hj => (hlow2 j (by omega) (by omega)).trans (hB0.block j hj)
              by_cases hjl : j < x.ops.length
              · obtain ⟨o, ho⟩ : ∃ o, x.ops[j]? = some o := ⟨_, List.getElem?_eq_getElem hjl⟩
                have hom := List.mem_of_getElem? ho
                obtain ⟨b2, p2, c3, sv, he, hb2, ⟨o0, o1, o2, o3, o4, o5, o6, o7, o8⟩, hsr⟩ := ops_get hro ho (wr := wj) (fun j hj => (hlw2 j hj).trans (hlw1 j hj).symm)
                cases he
                obtain ⟨sA, sc, rfl, hsn, hsm⟩ := hsr.shape
                simp only [maxLen] at hsm
                have hb2q : b2 < wj.heap.size := by omega
                have hopl2 := opsE_len L hxm (txsE h t) (t := t) j
                obtain ⟨W8, hW8⟩ : ∃ W8, W8 = wj.alloc (.cells #[.int .i64 o.kind, .string o.ver.key, .int .i64 o.ver.frm, .int .i64 o.ver.nth, .bool o.dead, .string o.value, .string o.hi, .slice sA o.seen.length sc, .int .u64 o.at_] 59) := ⟨_, rfl⟩
                have hB8 : Below wj.heap.size wj W8 := by rw [hW8]; exact bel1 _ _
                have hz8 : W8.heap.size = wj.heap.size + 1 := by rw [hW8]; simp
                have hbx : W8.heap[wj.heap.size]? = some (.cells #[.int .i64 o.kind, .string o.ver.key, .int .i64 o.ver.frm, .int .i64 o.ver.nth, .bool o.dead, .string o.value, .string o.hi, .slice sA o.seen.length sc, .int .u64 o.at_] 59) := by rw [hW8]; exact heap_alloc_new _ _
                obtain ⟨F2, H2, hc2, hf2⟩ := hT2
                have H8 := H2.below hB8
                have hwj : wj.heap.size < W8.heap.size := by omega
                have hst : opsE h t x (txsE h t) (j + 1) = opE h t x j o (opsE h t x (txsE h t) j) := by simp only [opsE, ho]
                obtain ⟨l0, hl0⟩ : ∃ l0, l0 = opsE h t x (txsE h t) j := ⟨_, rfl⟩
                rw [← hl0] at hst H8 hopl2
                have hl0b : l0.length < 8700000000 := by rw [HN0.out] at hN0b; omega
                have HS := Lib.hid hst
                have HL0 := Lib.hid hl0
                have HO := Lib.hid ho
                have HC2 := Lib.hid (And.intro hc2 hf2)
                have HBX := Lib.hid hbx
                have HW8 := Lib.hid hW8
                have HO2 := Lib.hid H2.own
                obtain ⟨q, qf⟩ := cells_of (cs := [.int .i64 o.kind, .string o.ver.key, .int .i64 o.ver.frm, .int .i64 o.ver.nth, .bool o.dead, .string o.value, .string o.hi, .slice sA o.seen.length sc, .int .u64 o.at_]) hbx
                have e0 := q 0
                have e1 := q 1
                have e2 := q 2
                have e3 := q 3
                have e7 := q 7
                clear q qf hst hl0 ho hc2 hf2 hW8 hlow2 hopl2 hbx
                by_cases hk1 : o.kind = 1
                · have hkb : (o.kind == 1) = true := by simp [hk1]
                  have hop : opE h t x j o l0 = itemE h t o.ver l0 := by unfold opE; rw [if_pos hk1]
                  have HOP := Lib.hid hop
                  have hcall := Lib.hid (item_ H8 t o.ver (L.ver x hxm o hom hk1) (by omega) L.n)
                  clear hk1 hop
                  go_upto_region 19 with (fail)
                  rw [← HW8.out]
                  go_wp2_with (go_at_call 51; with_reducible refine hcall.out.mono ?_; rintro e w9 ⟨rfl, hto⟩)
                  exact ⟨⟨j + 1, by omega, by simp, by rw [HS.out, HOP.out]; exact GrTo.after HC2.out.1 HC2.out.2 hgW (GrTo.below_left hB8 hto)⟩, by simp [intOf]; omega⟩
                · have hkb : (o.kind == 1) = false := by simp [hk1]
                  by_cases hk3 : o.kind = 3
                  · have hkb3 : (o.kind == 3) = true := by simp [hk3]
                    have hop : opE h t x j o l0 = keysE h t x j o (seenE h t o l0 o.seen.length) (keysOf h).length := by unfold opE; rw [if_neg hk1, if_pos hk3]
                    have HOP := Lib.hid hop
                    have hvs := L.vers x hxm o hom hk3
                    have hsl := L.seen x hxm o hom hk3
                    have HVS := Lib.hid hvs
                    have HGR := Lib.hid (GrTo.refl H8)
                    clear hk1 hk3 hop hvs
                    go_upto_region 19 with (fail)
                    rw [← HW8.out]
                    go_wp2_with fail
                    go_loopw [13, 102] (fun _ s' wr => ∃ s : Nat, s ≤ o.seen.length ∧ s' = .int .i64 s ∧ GrTo W8 wr w.heap.size lp (w.heap.size + 1) h (.map (some w.heap.size)) F2 (seenE h t o l0 s)) (fun _ s' _ => o.seen.length - (intOf s').toNat)
                    case atStart => exact ⟨0, by omega, rfl, HGR.out⟩
                    case round =>
                      obtain ⟨s, hs, rfl, hT3⟩ := hrel
                      obtain ⟨ws, rfl⟩ : ∃ ws : World, ws = wr := ⟨_, rfl⟩
                      obtain ⟨hlow3, hzr3⟩ := hT3.low2
                      have hlw3 : ∀ j, j < w.heap.size → ws.heap[j]? = wj.heap[j]? := fun j hj => (hlow3 j (by omega) (fun h => by have := (HO2.out j h).1; omega) (by omega)).trans (hB8.block j (by omega))
                      have hseenl := seenE_len h t o l0 s
                      by_cases hsl2 : s < o.seen.length
                      · obtain ⟨v, hv⟩ : ∃ v, o.seen[s]? = some v := ⟨_, List.getElem?_eq_getElem hsl2⟩
                        obtain ⟨b3, o3', c4, he, hb3, v0, v1, v2⟩ := hsr.get3 hv (wr := ws) hlw3 rfl
                        cases he
                        have hb3r : b3 < ws.heap.size := by omega
                        have hst3 : seenE h t o l0 (s + 1) = itemE h t v (seenE h t o l0 s) := by simp only [seenE, hv]
                        have HS3 := Lib.hid hst3
                        have hvok := HVS.out v (List.mem_of_getElem? hv)
                        have hB9 := bel1 ws (.cells #[.string v.key, .int .i64 v.frm, .int .i64 v.nth] 56)
                        have hcall := Lib.hid (GrTo.call (hT3.below_right hB9) (show w.heap.size + 1 < W8.heap.size by omega) (fun F1 H1 => item_ H1 t v hvok (by omega) L.n))
                        have HT3 := Lib.hid hT3
                        clear hst3 hvok hT3 hv hlow3
                        go_wp2_with (go_at_call 51; with_reducible refine hcall.out.mono ?_; rintro e w9 ⟨rfl, hto⟩)
                        exact ⟨⟨s + 1, by omega, by simp, by rw [HS3.out]; exact hto⟩, by simp [intOf]; omega⟩
                      · obtain rfl : s = o.seen.length := by omega
                        obtain ⟨es1, hl1⟩ : ∃ es1, es1 = seenE h t o l0 o.seen.length := ⟨_, rfl⟩
                        rw [← hl1] at hT3 hseenl
                        have HL1 := Lib.hid hl1
                        have hKl := keysOf_le L
                        have d3 := (World.cell?_of_block (a := ⟨lp, 3, none⟩) ((hlw3 lp hlp).trans (hlw2 lp hlp))).trans q3
                        have hlps : lp < ws.heap.size := by omega
                        have HT3 := Lib.hid hT3
                        clear hT3 hlow3 hl1
                        go_wp2
                        go_loopw [15, 16, 17, 116] (fun _ _ _ s' wr => ∃ s : Nat, s ≤ (keysOf h).length ∧ s' = .int .i64 s ∧ GrTo W8 wr w.heap.size lp (w.heap.size + 1) h (.map (some w.heap.size)) F2 (keysE h t x j o es1 s)) (fun _ _ _ s' _ => (keysOf h).length - (intOf s').toNat)
                        case atStart => exact ⟨0, by omega, rfl, HT3.out⟩
                        case round =>
                          obtain ⟨s, hs2, rfl, hT4⟩ := hrel
                          obtain ⟨wk, rfl⟩ : ∃ wk : World, wk = wr := ⟨_, rfl⟩
                          obtain ⟨hlow4, hzr4⟩ := hT4.low2
                          have hlw4 : ∀ j, j < w.heap.size → wk.heap[j]? = wj.heap[j]? := fun j hj => (hlow4 j (by omega) (fun h => by have := (HO2.out j h).1; omega) (by omega)).trans (hB8.block j (by omega))
                          have hkyl := keysE_len h t x j o es1 s
                          by_cases hkl : s < (keysOf h).length
                          · obtain ⟨k, hk⟩ : ∃ k, (keysOf h)[s]? = some k := ⟨_, List.getElem?_eq_getElem hkl⟩
                            obtain ⟨b5, o5, c5, he, hb5, p0⟩ := l5.get1 hk (wr := wk) (fun j hj => (hlw4 j hj).trans (hlw2 j hj)) rfl
                            cases he
                            have hb5r : b5 < wk.heap.size := by omega
                            have hbk := (hlow4 wj.heap.size (by omega) (fun h => by have := (HO2.out _ h).2.2; omega) (by omega)).trans HBX.out
                            have hled : Led wk w.heap.size lp h := by obtain ⟨F9, H9, _, _⟩ := hT4; exact H9.led
                            have hahead := Lib.hid (ahead_ hled t x HX.out k j)
                            have hst4 : keysE h t x j o es1 (s + 1) = if (aheadL x k j).length = 0 ∧ covers o k = true then scanE h t o k (keysE h t x j o es1 s) else keysE h t x j o es1 s := by simp only [keysE, hk]
                            have HS4 := Lib.hid hst4
                            have HT4 := Lib.hid hT4
                            have HBK := Lib.hid hbk
                            obtain ⟨an, han⟩ : ∃ an, an = (aheadL x k j).length := ⟨_, rfl⟩
                            rw [← han] at hahead
                            obtain ⟨lw, hlwd⟩ : ∃ lw, lw = (aheadL x k j).getLastD wrote0 := ⟨_, rfl⟩
                            rw [← hlwd] at hahead
                            clear hlwd
                            have HAN := Lib.hid han
                            clear hst4 hT4 hk hlow4 hbk han
                            go_upto_region 32 with (go_at_call 52; with_reducible refine hahead.out.mono ?_; rintro e w5 ⟨rfl, hB5⟩; simp only [wroteC])
                            obtain ⟨W9, hW9⟩ : ∃ W9, W9 = w5.alloc (.cells #[.int .i64 lw.op, .bool lw.dead, .string lw.value] 129) := ⟨_, rfl⟩
                            rw [← hW9]
                            have hB9 : Below wk.heap.size wk W9 := by rw [hW9]; exact hB5.alloc hB5.size _
                            have HW9 := Lib.hid hW9
                            clear hW9
                            have hz9 := hB9.size
                            by_cases ha0 : an = 0
                            · have hab : ((an : Int) == 0) = true := by simp [ha0]
                              obtain ⟨d, df⟩ := cells_of (cs := [.int .i64 o.kind, .string o.ver.key, .int .i64 o.ver.frm, .int .i64 o.ver.nth, .bool o.dead, .string o.value, .string o.hi, .slice sA o.seen.length sc, .int .u64 o.at_]) ((hB9.block wj.heap.size (by omega)).trans HBK.out)
                              have d0 := d 0
                              have d1 := d 1
                              have d2 := d 2
                              have d3 := d 3
                              have d4 := d 4
                              have d5 := d 5
                              have d6 := d 6
                              have d7 := d 7
                              have d8 := d 8
                              have hwj9 : wj.heap.size < W9.heap.size := by omega
                              clear d df
                              cases hcv : covers o k
                              · have hst5 : keysE h t x j o es1 (s + 1) = keysE h t x j o es1 s := by rw [HS4.out, if_neg (by rw [hcv]; simp)]
                                have HS5 := Lib.hid hst5
                                have HCV := Lib.hid hcv
                                clear hst5 hcv ha0
                                go_wp2_with (go_at_call 48; refine (covers_ _ o k _).mono ?_; rw [HCV.out]; rintro e w' ⟨rfl, rfl⟩)
                                exact ⟨⟨s + 1, by omega, by simp, by rw [HS5.out]; exact HT4.out.below_right (hB9.alloc (by omega) _)⟩, by simp [intOf]; omega⟩
                              · have hst5 : keysE h t x j o es1 (s + 1) = scanE h t o k (keysE h t x j o es1 s) := by rw [HS4.out, if_pos ⟨by rw [← HAN.out]; exact ha0, hcv⟩]
                                have HS5 := Lib.hid hst5
                                have HCV := Lib.hid hcv
                                have hBc := hB9.alloc (by omega) (.cells (opC (.slice sA o.seen.length sc) o).toArray 59)
                                have hT10 := HT4.out.below_right hBc
                                have hrows : Rows (W9.alloc (.cells (opC (.slice sA o.seen.length sc) o).toArray 59)) w.heap.size 3 (Flat verC) (.slice sA o.seen.length sc) o.seen := hsr.flat (fun j hj => (hBc.block j (by omega)).trans (hlw4 j hj))
                                have hcall := Lib.hid (GrTo.call hT10 (show w.heap.size + 1 < W8.heap.size by omega) (fun F1 H1 => scan_ H1 t x HX.out _ o hrows k HVS.out (by omega) L.n))
                                simp only [opC] at hcall
                                clear hst5 hcv ha0 hT10 hrows
                                go_wp2_with (first
                                  | (go_at_call 48; refine (covers_ _ o k _).mono ?_; rw [HCV.out]; rintro e w' ⟨rfl, rfl⟩; simp only [opC])
                                  | (go_at_call 53; with_reducible refine hcall.out.mono ?_; rintro e w10 ⟨rfl, hto⟩))
                                exact ⟨⟨s + 1, by omega, by simp, by rw [HS5.out]; exact hto⟩, by simp [intOf]; omega⟩
                            · have hab : ((an : Int) == 0) = false := by simp [ha0]
                              have hst5 : keysE h t x j o es1 (s + 1) = keysE h t x j o es1 s := by rw [HS4.out, if_neg (fun h => ha0 (HAN.out.trans h.1))]
                              have HS5 := Lib.hid hst5
                              clear hst5 ha0
                              go_wp2
                              exact ⟨⟨s + 1, by omega, by simp, by rw [HS5.out]; exact HT4.out.below_right hB9⟩, by simp [intOf]; omega⟩
                          · obtain rfl : s = (keysOf h).length := by omega
                            go_wp2
                            exact ⟨⟨j + 1, by omega, by simp, by rw [HS.out, HOP.out, ← HL1.out]; exact GrTo.after HC2.out.1 HC2.out.2 hgW (GrTo.below_left hB8 hT4)⟩, by simp [intOf]; omega⟩
                  · have hkb3 : (o.kind == 3) = false := by simp [hk3]
                    have hop : opE h t x j o l0 = l0 := by unfold opE; rw [if_neg hk1, if_neg hk3]
                    have HOP := Lib.hid hop
                    have HGR := Lib.hid (GrTo.refl H8)
                    clear hk1 hk3 hop
                    go_upto_region 19 with (fail)
                    rw [← HW8.out]
                    go_wp2_with fail
                    exact ⟨⟨j + 1, by omega, by simp, by rw [HS.out, HOP.out]; exact GrTo.after HC2.out.1 HC2.out.2 hgW (GrTo.below_left hB8 HGR.out)⟩, by simp [intOf]; omega⟩
              · obtain rfl : j = x.ops.length := by omega
                go_wp2
                exact ⟨⟨t + 1, by omega, by simp, by rw [HS.out]; exact hT2⟩, by simp [intOf]; omega⟩
        · obtain rfl : t = h.length := by omega
          obtain ⟨F1, ⟨hled1, ⟨ev, hgb1, hSl1⟩, hown1, _⟩, hc1, hf1, hcl1⟩ := hT1.cells
          have hrl := txsE_len L h.length
          obtain ⟨raw, hraw⟩ : ∃ raw, raw = txsE h h.length := ⟨_, rfl⟩
          rw [← hraw] at hSl1 hrl
          have hes : edgesOf h = dedup (raw.mergeSort edgeLe) := by rw [hraw]; rfl
          have hm1 : KMap (intKey (P := Tryz.prog) Tryz.underlying3).enc wt w.heap.size [] := hm0.keep (hlow1 _ (by omega) (by omega))
          have hnm : ¬ F1 w.heap.size := fun h => by
            obtain ⟨cs, t9, z9, hd9⟩ := hcl1 _ h
            obtain ⟨es9, clk9, hb9, _⟩ := hm1
            rw [hb9] at hd9; cases hd9
          have hng : ¬ F1 (w.heap.size + 1) := fun h => (hown1 _ h).2.1 rfl
          have hFB : ∀ j, F1 j → w.heap.size ≤ j := fun j h => (hown1 _ h).1
          have hrl2 : raw.length < 68719476736 := by have := L.n; omega
          have hsort := Lib.hid (sortAny_ hSl1 (by omega))
          obtain ⟨A1, c1', rfl, _, _⟩ := hSl1.shape
          have hgl1 := lt_of_heap hgb1
          have g1 := (cells_of hgb1).1 1
          have HGB1 := Lib.hid hgb1
          have HCW := Lib.hid hc1
          have HES := Lib.hid hes
          clear hgb1 hes hraw hSl1 hT1 hc1 hf1 hcl1 hlow1
          go_upto_region 38 with (go_at_call 54; with_reducible refine hsort.out.mono ?_; rintro e w2 ⟨rfl, hs2, hc2⟩)
          have hgb2 := (hc2.block (w.heap.size + 1) hgl1 hng).trans HGB1.out
          have g2 := (cells_of hgb2).1 1
          have hgl2 := lt_of_heap hgb2
          have HGB2 := Lib.hid hgb2
          have hcomp := Lib.hid (compactAny_ hs2 (by rw [List.length_mergeSort]; omega))
          rw [← HES.out] at hcomp
          clear hgb2 g1
          go_upto_region 39 with (go_at_call 56; with_reducible refine hcomp.out.mono ?_
                                  rintro e w3 ⟨v3, rfl, hs3, hc3⟩
                                  obtain ⟨A3, c3', rfl, hc31, hc32⟩ := hs3.shape
                                  have hgb3 := (hc3.block (w.heap.size + 1) hgl2 hng).trans HGB2.out
                                  obtain ⟨g3, gf3⟩ := cells_of hgb3
                                  have g31 := g3 1
                                  have gf31 := gf3 1
                                  have HGB3 := Lib.hid hgb3
                                  clear hgb3 g3 gf3)
          obtain ⟨es, hese⟩ : ∃ es, es = edgesOf h := ⟨_, rfl⟩
          rw [← hese] at hs3 hc32 ⊢
          obtain ⟨W4, hW4⟩ : ∃ W4, W4 = w3.setCell ⟨w.heap.size + 1, 1, none⟩ (.slice A3 es.length c3') := ⟨_, rfl⟩
          rw [← hW4]
          have hset4 : Chg (fun j => j = w.heap.size + 1) w3 W4 := by rw [hW4]; exact (Chg.refl _ _).setCell _ _ (fun _ => rfl)
          have hgb4 : W4.heap[w.heap.size + 1]? = some (.cells #[.pointer (some ⟨lp, 0, none⟩), .slice A3 es.length c3', .map (some w.heap.size)] 95) := by rw [hW4]; simpa using heap_setCell_same (i := 1) (v := .slice A3 es.length c3') HGB3.out
          have hs4 := hs3.chg hset4 (fun j hj e => hng (by rw [← e]; exact hj))
          have hm4 := ((hm1.chg hc2 hnm).chg hc3 hnm).chg hset4 (by omega)
          have hc14 : Chg (fun j => F1 j ∨ j = w.heap.size + 1) wt W4 := ((hc2.mono (fun _ _ h => .inl h)).trans hc3 (fun _ _ h => .inl h)).trans hset4 (fun _ _ h => .inr h)
          have hz4 := hc14.size
          have g4 := (cells_of hgb4).1 1
          have HGB4 := Lib.hid hgb4
          have HM4 := Lib.hid hm4
          have HW4 := Lib.hid hW4
          have HC14 := Lib.hid hc14
          have HESE := Lib.hid hese
          simp only [maxLen] at hc31
          have hesl : es.length < 68719476736 := by
            have h1 := dedup_len (raw.mergeSort edgeLe)
            rw [List.length_mergeSort, ← HES.out, ← hese] at h1
            omega
          clear hgb4 hW4 g31 gf31 g2 hm4 hc14 hese hs2 hs3 hc2 hc3
          go_wp2
          obtain ⟨i0, z0, j0, j1, j2, j3, j4⟩ := info_edge
          go_loopw [19, 161] (fun _ s' wr => ∃ (s : Nat) (Lm : List (Int × Value)), s ≤ es.length ∧ s' = .int .i64 s ∧ OwnM kInt.enc 66 4 edgeC wr w.heap.size (fun t => (es.take s).filter fun e => decide (e.frm = t)) (fun b => b = w.heap.size ∨ (W4.heap.size ≤ b ∧ b < wr.heap.size)) Lm ∧ Chg (fun b => b = w.heap.size) W4 wr) (fun _ s' _ => es.length - (intOf s').toNat)
          case atStart =>
            refine ⟨0, [], by omega, rfl, ⟨.inl rfl, HM4.out, by simp, fun _ _ => False, fun k => by simpa [kget] using Sl.nil _ _ _ _, fun _ _ f => f.elim, fun _ _ _ f => f.elim⟩, Chg.refl _ _⟩
          case round =>
            obtain ⟨s, Lm, hs, rfl, hO, hC⟩ := hrel
            have hzr := hC.size
            have hmbr : w.heap.size < wr.heap.size := by omega
            by_cases hsl : s < es.length
            · obtain ⟨e, he⟩ : ∃ e, es[s]? = some e := ⟨_, List.getElem?_eq_getElem hsl⟩
              obtain ⟨g, off, hA3, hgb, hgn⟩ : ∃ g off, A3 = some ⟨g, off, none⟩ ∧ g < W4.heap.size ∧ g ≠ w.heap.size := by
                rcases hs4.2 with ⟨h1, h2⟩ | ⟨g', off', cap', cur', h1, _, h3, _⟩
                · omega
                · cases h1
                  refine ⟨g', off', rfl, lt_of_heap h3, fun e' => ?_⟩
                  obtain ⟨es9, clk9, hb9, _⟩ := HM4.out
                  rw [e', hb9] at h3; cases h3
              subst hA3
              obtain ⟨⟨x0, x1, x2, x3⟩, _⟩ := edge_cells hs4 (hC.block g hgb hgn) he
              have hgr : g < wr.heap.size := by omega
              obtain ⟨W8, hW8⟩ : ∃ W8, W8 = wr.alloc (.cells #[.int .i64 e.frm, .int .i64 e.to, .int .i64 e.kind, .string e.key] 66) := ⟨_, rfl⟩
              have hc8 : Chg (fun _ => False) wr W8 := by rw [hW8]; exact (Chg.refl _ _).alloc _
              have hz8 : W8.heap.size = wr.heap.size + 1 := by rw [hW8]; simp
              have hbx : W8.heap[wr.heap.size]? = some (.cells #[.int .i64 e.frm, .int .i64 e.to, .int .i64 e.kind, .string e.key] 66) := by rw [hW8]; exact heap_alloc_new _ _
              have hO8 := hO.chg hc8 (fun _ _ f => f)
              obtain ⟨F, hSl, hF, hstep⟩ := hO8.at_ e.frm
              have hkm := hO8.2.1
              obtain ⟨V, hV⟩ : ∃ V, V = (kget Lm e.frm).getD (.slice none 0 0) := ⟨_, rfl⟩
              rw [← hV] at hSl
              obtain ⟨fl, hfl⟩ : ∃ fl, fl = (es.take s).filter fun e' => decide (e'.frm = e.frm) := ⟨_, rfl⟩
              rw [← hfl] at hSl
              have hfll : fl.length ≤ es.length := by
                rw [hfl]
                refine Nat.le_trans (List.length_filter_le _ _) ?_
                rw [List.length_take]; omega
              obtain ⟨d, df⟩ := cells_of (cs := [.int .i64 e.frm, .int .i64 e.to, .int .i64 e.kind, .string e.key]) hbx
              have d0 := d 0
              have d1 := d 1
              have d2 := d 2
              have d3 := d 3
              have hg8 : W8.heap[w.heap.size + 1]? = W4.heap[w.heap.size + 1]? := (hc8.block _ (by omega) (fun f => f)).trans (hC.block _ (by omega) (by omega))
              have g8 := (cells_of (hg8.trans HGB4.out)).1 2
              have lk : ∀ W : World, W.heap[w.heap.size]? = W8.heap[w.heap.size]? → (Instr.lookup 93 (.map (some w.heap.size)) (.int .i64 e.frm) false).run Tryz.prog W = .ok V W := fun W e' => by
                have := run_lookup_kmap kInt Tryz.underlying93 (zero_slice_edge W) (hkm.keep e') e.frm false
                rw [hV]
                exact this
              have lk1 := lk W8.drew rfl
              have lk2 := lk (W8.alloc (.cells #[.int .i64 e.frm, .int .i64 e.to, .int .i64 e.kind, .string e.key] 66)).drew (heap_alloc_lt (by omega))
              have hSlA : Sl (W8.alloc (.cells #[.int .i64 e.frm, .int .i64 e.to, .int .i64 e.kind, .string e.key] 66)).drew _ _ _ _ _ _ := hSl.chg (((Chg.refl (fun _ => False) W8).alloc (.cells #[.int .i64 e.frm, .int .i64 e.to, .int .i64 e.kind, .string e.key] 66)).drew) (fun _ _ f => f)
              have hrdA : Reads (W8.alloc (.cells #[.int .i64 e.frm, .int .i64 e.to, .int .i64 e.kind, .string e.key] 66)).drew (W8.heap.size + 1) 4 (some ⟨wr.heap.size + 1, 0, none⟩) 1 [.int .i64 e.frm, .int .i64 e.to, .int .i64 e.kind, .string e.key] := by
                rw [← hz8]
                exact reads_new W8 [.int .i64 e.frm, .int .i64 e.to, .int .i64 e.kind, .string e.key] 4 rfl 66
              have hone : ∀ u ∈ [Value.int .i64 e.frm, .int .i64 e.to, .int .i64 e.kind, .string e.key], u.oneCell' = true := by intro u hu; simp at hu; rcases hu with rfl | rfl | rfl | rfl <;> rfl
              have hmx : fl.length + 1 ≤ maxLen := by simp only [maxLen]; omega
              have hby : (fl.length + 1) * 40 ≤ 140737488355328 := by omega
              have hAP := Lib.hid (And.intro hSlA (And.intro hrdA (And.intro hone (And.intro hmx hby))))
              have HF := Lib.hid hF
              have HSTEP := Lib.hid hstep
              have HV := Lib.hid hV
              have HW8 := Lib.hid hW8
              have HE := Lib.hid he
              have HFL := Lib.hid hfl
              have HG8 := Lib.hid hg8
              clear hSlA hrdA hone hmx hby hstep hF lk hV hW8 he hfl hg8 d df
              go_upto_region 42 with (fail)
              rw [← HW8.out]
              go_region_held3 (fun w' => w'.cell? ⟨w.heap.size + 1, 2, none⟩ = some (.map (some w.heap.size)) ∧ w'.cell? ⟨wr.heap.size, 0, none⟩ = some (.int .i64 e.frm) ∧ w'.cell? ⟨wr.heap.size, 1, none⟩ = some (.int .i64 e.to) ∧ w'.cell? ⟨wr.heap.size, 2, none⟩ = some (.int .i64 e.kind) ∧ w'.cell? ⟨wr.heap.size, 3, none⟩ = some (.string e.key)) (first | exact ⟨g8, d0, d1, d2, d3⟩ | exact ⟨r9, r0, r1, r2, r3⟩ | exact ⟨s9, s0, s1, s2, s3⟩ | go_keep)
                (first
                  | (rw [if_pos (by rfl)]; refine wp_append_sl _ (.tmp 177) (.tmp 179) 61 rfl 66 i0 z0 4 40 Tryz.underlying61 j0 j1 j2 j3 j4 (by omega) V _ _ F rfl hAP.out.1 _ _ 1 1 [.int .i64 e.frm, .int .i64 e.to, .int .i64 e.kind, .string e.key] rfl hAP.out.2.1 hAP.out.2.2.1 hAP.out.2.2.2.1 hAP.out.2.2.2.2 ?_
                     intro v2 w5 F5 hs5 hc5 hf5 hnz5
                     have hc58 : Chg F W8 w5 := ((((Chg.refl (fun _ => False) W8).alloc _).drew).mono (G := F) (fun _ _ h => h.elim)).trans hc5 (fun _ _ h => h)
                     have hk5 := hkm.chg hc58 (fun h => (HF.out _ h).2 rfl)
                     obtain ⟨w6, hrun6, hk6, hc6⟩ := run_store_kmap kInt Tryz.underlying93 hk5 e.frm v2
                     have hrun6' : (Instr.mapUpdate 93 (.map (some w.heap.size)) (.int .i64 e.frm) v2).run Tryz.prog w5 = .ok () w6 := hrun6
                     have hF8 : ∀ j, F j → j ≠ w.heap.size ∧ W4.heap.size ≤ j ∧ j < wr.heap.size := fun j hj => by
                       obtain ⟨h1, h2⟩ := HF.out j hj
                       rcases h1 with h1 | h1
                       · exact absurd h1 h2
                       · exact ⟨h2, h1⟩
                     have hz58 := hc58.size
                     have eb : w5.heap[wr.heap.size]? = W8.heap[wr.heap.size]? := hc58.block _ (by omega) (fun h => by have := hF8 _ h; omega)
                     have eg : w5.heap[w.heap.size + 1]? = W8.heap[w.heap.size + 1]? := hc58.block _ (by omega) (fun h => by have := hF8 _ h; omega)
                     have eb6 : w6.heap[wr.heap.size]? = W8.heap[wr.heap.size]? := (hc6.block _ (by omega) (by omega)).trans eb
                     have eg6 : w6.heap[w.heap.size + 1]? = W8.heap[w.heap.size + 1]? := (hc6.block _ (by omega) (by omega)).trans eg
                     have r9 := (World.cell?_of_block (a := ⟨w.heap.size + 1, 2, none⟩) eg).trans g8
                     have r0 := (World.cell?_of_block (a := ⟨wr.heap.size, 0, none⟩) eb).trans d0
                     have r1 := (World.cell?_of_block (a := ⟨wr.heap.size, 1, none⟩) eb).trans d1
                     have r2 := (World.cell?_of_block (a := ⟨wr.heap.size, 2, none⟩) eb).trans d2
                     have r3 := (World.cell?_of_block (a := ⟨wr.heap.size, 3, none⟩) eb).trans d3
                     have s9 := (World.cell?_of_block (a := ⟨w.heap.size + 1, 2, none⟩) eg6).trans g8
                     have s0 := (World.cell?_of_block (a := ⟨wr.heap.size, 0, none⟩) eb6).trans d0
                     have s1 := (World.cell?_of_block (a := ⟨wr.heap.size, 1, none⟩) eb6).trans d1
                     have s2 := (World.cell?_of_block (a := ⟨wr.heap.size, 2, none⟩) eb6).trans d2
                     have s3 := (World.cell?_of_block (a := ⟨wr.heap.size, 3, none⟩) eb6).trans d3
                     clear hrun6 eb eg eb6 eg6))
              all_goals (
                go_wp2
                have hown := HSTEP.out w5 w6 v2 (fl ++ [e]) F5 (by simp) (by simpa [edgeC] using hs5) (fun b hb => by
                  rcases hf5 b hb with h | ⟨h, h'⟩
                  · exact .inl h
                  · refine .inr ⟨?_, h'⟩
                    have : W8.heap.size ≤ (W8.alloc (.cells #[.int .i64 e.frm, .int .i64 e.to, .int .i64 e.kind, .string e.key] 66)).drew.heap.size := by (show _ ≤ (W8.alloc _).heap.size); rw [World.size_alloc]; omega
                    omega) hc58 hk6 hc6 (fun b hb => by rcases hb with h | h <;> omega)
                have hfun : (fun t => (es.take (s + 1)).filter fun e' => decide (e'.frm = t)) = fun k' => if k' = e.frm then fl ++ [e] else (es.take s).filter fun e' => decide (e'.frm = k') := by
                  funext k'
                  rw [List.take_add_one, HE.out, List.filter_append]
                  by_cases hk : k' = e.frm
                  · subst hk; rw [if_pos rfl, HFL.out]; simp
                  · rw [if_neg hk]; simp [Ne.symm hk]
                have hz6 := hc6.size
                refine ⟨⟨s + 1, kset Lm e.frm v2, by omega, by simp, ?_, ?_⟩, by simp [intOf]; omega⟩
                · rw [hfun]
                  exact hown.mono (fun b hb => by
                    rcases hb with (h | h) | h
                    · exact .inl h
                    · exact .inr (by omega)
                    · exact .inr (by omega))
                · refine ⟨hc6.tape.trans (hc58.tape.trans (hc8.tape.trans hC.tape)), hc6.os.trans (hc58.os.trans (hc8.os.trans hC.os)), hc6.out.trans (hc58.out.trans (hc8.out.trans hC.out)), by omega, fun b hb hbn => ?_⟩
                  exact (hc6.block b (by omega) hbn).trans ((hc58.block b (by omega) (fun h => by have := hF8 b h; omega)).trans ((hc8.block b (by omega) (fun f => f)).trans (hC.block b hb hbn))))
            · obtain rfl : s = es.length := by omega
              rw [List.take_length] at hO
              go_wp2
              go_ret
              have hlow4 : ∀ j, j < w.heap.size → wr.heap[j]? = w.heap[j]? := fun j hj => (hC.block j (by omega) (by omega)).trans ((HC14.out.block j (by omega) (fun h => by
                rcases h with h | h
                · have := hFB j h; omega
                · omega)).trans (hlw1 j hj))
              refine ⟨w.heap.size + 1, rfl, ?_, ?_⟩
              · rw [← HESE.out]
                refine ⟨?_, ⟨_, w.heap.size, (hC.block (w.heap.size + 1) (by omega) (by omega)).trans HGB4.out, ?_, OwnM.mapOfK (fun _ => rfl) hO (Nat.le_refl _), fun a9 n9 c9 he9 => ?_⟩, by omega⟩
                · exact (hl.keep hlow4 (by omega)).more (by omega) (Nat.le_refl _)
                · have hr4 := Rows.of_sl (enc := edgeC) (size := 4) (fun _ => rfl) hs4 (Nat.le_refl _)
                  rcases hs4.2 with ⟨h1, h2⟩ | ⟨g', off', cap', cur', h1, hF', h3, h4, h5, h6, h7⟩
                  · have : es = [] := List.eq_nil_of_length_eq_zero h2
                    rw [h1, this]
                    exact Rows.nil _ (by simp) _
                  · refine Rows.of_sl (enc := edgeC) (size := 4) (e := 66) (F := fun j => j = g') (fun _ => rfl) ⟨hs4.1, .inr ⟨g', off', cap', cur', h1, rfl, (hC.block g' (lt_of_heap h3) (fun e' => ?_)).trans h3, h4, h5, h6, h7⟩⟩ (Nat.le_refl _)
                    obtain ⟨es9, clk9, hb9, _⟩ := HM4.out
                    rw [e', hb9] at h3; cases h3
                · rcases hs4.2 with ⟨h1, _⟩ | ⟨g', off', cap', cur', h1, hF', _⟩
                  · rw [h1] at he9; cases he9
                  · rw [h1] at he9; cases he9; exact hFB _ hF'
              · exact ⟨hC.os.trans (HC14.out.os.trans (HCW.out.os.trans hB0.os)), hC.tape.trans (HC14.out.tape.trans (HCW.out.tape.trans hB0.tape)), hC.out.trans (HC14.out.out.trans (HCW.out.out.trans hB0.output)), by omega, hlow4⟩
end Go.Proofs.YtooigfkjdemnlaaGreatDoor
