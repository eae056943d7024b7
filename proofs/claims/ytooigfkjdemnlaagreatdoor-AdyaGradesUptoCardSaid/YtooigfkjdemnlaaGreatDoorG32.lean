/- Own texts of this claim, joined in build order: D8, D9, Gz. -/
import Derived.Test.YtooigfkjdemnlaaGreatDoorG31
import Derived.Deep.QuietTactic
set_option linter.all false
namespace Go.Proofs.YtooigfkjdemnlaaGreatDoor
set_option maxRecDepth 100000
open Go.RowKit Go.Lib Go.Sort Go.Shelf Xw

set_option maxHeartbeats 8000000 in
theorem starts_ {w : World} {B lp gb mb0 : Nat} {ev : Value} {h : List HTx} {es : List Edge} (hl : Led w B lp h) (hn : h.length ≤ 256) (hg : w.heap[gb]? = some (.cells #[.pointer (some ⟨lp, 0, none⟩), ev, .map (some mb0)] 95)) (hgB : gb < B)
    (hm : MapOfK kInt.enc w B mb0 4 edgeC (fun t => es.filter fun e => decide (e.frm = t))) (hes : es.length < 60000000000) :
    Calls Tryz.prog 66 #[.pointer (some ⟨gb, 0, none⟩)] w fun e w' => ∃ gs mb, e = .returned (.pointer (some ⟨gs, 0, none⟩)) ∧ Below w.heap.size w w' ∧ gs < w'.heap.size ∧ w'.heap[gs]? = some (.cells #[.pointer (some ⟨lp, 0, none⟩), .slice none 0 0, .map (some mb)] 95) ∧ MapOfK kInt.enc w' w'.heap.size mb 4 edgeC (fun t => (starts h es h.length).filter fun e => decide (e.frm = t)) := by
  have hmk : ∀ (t : TypeId) (w : World), (Instr.makeMap t none).run Tryz.prog w = .ok (.map (some w.heap.size)) (w.alloc (.map #[] 0)) := fun _ _ => rfl
  obtain ⟨tv, wv, ob, kv, ty, l1, l2, l3, l4, l5⟩ := hl.ex
  have q0 := (cells_of l1).1 0
  have u0 := (cells_of hg).1 0
  have u2 := (cells_of hg).1 2
  have hlp := hl.lt
  have hle := hl.le
  have hlpw : lp < w.heap.size := by omega
  have hgw : gb < w.heap.size := by omega
  obtain ⟨TA, tc, rfl, ht1, ht2⟩ := Rows.shape l2
  simp only [maxLen] at ht2
  obtain ⟨W0, hW0⟩ : ∃ W0, W0 = (w.alloc (.map #[] 0)).alloc (.cells #[.pointer (some ⟨lp, 0, none⟩), .slice none 0 0, .map (some w.heap.size)] 95) := ⟨_, rfl⟩
  have hz0 : W0.heap.size = w.heap.size + 2 := by rw [hW0]; simp
  have hB0 : Below w.heap.size w W0 := by rw [hW0]; exact bel2 _ _ _
  have hm0 : KMap kInt.enc W0 w.heap.size [] := by rw [hW0]; exact (KMap.made _ w).keep (heap_alloc_lt (by simp))
  have hg0 : W0.heap[w.heap.size + 1]? = some (.cells #[.pointer (some ⟨lp, 0, none⟩), .slice none 0 0, .map (some w.heap.size)] 95) := by rw [hW0]; exact top_al _ _ (by simp)
  have p0 := (World.cell?_of_block (a := ⟨gb, 0, none⟩) (hB0.block gb hgw)).trans u0
  have p1 := (World.cell?_of_block (a := ⟨lp, 0, none⟩) (hB0.block lp hlpw)).trans q0
  have i1 : gb < W0.heap.size := by omega
  have i2 : lp < W0.heap.size := by omega
  have HW0 := Lib.hid hW0
  have HG0 := Lib.hid hg0
  have HM0 := Lib.hid hm0
  clear hW0 hg0 hm0
  go_enter Tryz.func66, Tryz.ntmps66
  go_upto_region 2 with (fail)
  rw [← HW0.out]
  go_wp2
  go_loopw [4, 5, 22] (fun _ _ i' wr => ∃ (t : Nat) (L : List (Int × Value)), t ≤ h.length ∧ i' = .int .i64 t ∧ OwnN kInt.enc 66 4 edgeC wr w.heap.size (fS h es t []) (fun j => j = w.heap.size ∨ (w.heap.size + 2 ≤ j ∧ j < wr.heap.size)) L ∧ wr.heap[w.heap.size + 1]? = some (.cells #[.pointer (some ⟨lp, 0, none⟩), .slice none 0 0, .map (some w.heap.size)] 95) ∧ Below w.heap.size w wr) (fun _ _ i' _ => h.length - (intOf i').toNat)
  case atStart =>
    refine ⟨0, [], by omega, rfl, ⟨.inl rfl, HM0.out, fun k hk => absurd (fS_zero h es k) hk, fun _ _ => False, fun k => ?_, fun _ _ f => f.elim, fun _ _ _ f => f.elim⟩, HG0.out, hB0⟩
    rw [fS_zero h es k]
    simpa [kget] using Sl.nil _ _ _ _
  case round =>
    obtain ⟨t, L, ht, rfl, hO, hgs, hB⟩ := hrel
    have hz := hB.size
    have hgsl := lt_of_heap hgs
    have hlow : ∀ j, j < B → wr.heap[j]? = w.heap[j]? := fun j hj => hB.block j (by omega)
    by_cases hlt : t < h.length
    · have s2 := (cells_of hgs).1 2
      have g2 := (World.cell?_of_block (a := ⟨gb, 2, none⟩) (hlow gb hgB)).trans u2
      have g0 := (World.cell?_of_block (a := ⟨gb, 0, none⟩) (hlow gb hgB)).trans u0
      have l0 := (World.cell?_of_block (a := ⟨lp, 0, none⟩) (hlow lp hlp)).trans q0
      have j1 : gb < wr.heap.size := by omega
      have j2 : lp < wr.heap.size := by omega
      have hm0B : mb0 < B := hm.1
      obtain ⟨Lo, hLo, hlk⟩ := (hm.keep hlow).look
      have hlkt := hlk t
      obtain ⟨V, hV⟩ : ∃ V, V = (kget Lo t).getD (.slice none 0 0) := ⟨_, rfl⟩
      rw [← hV] at hlkt
      obtain ⟨fl, hfl⟩ : ∃ fl, fl = es.filter fun (e : Edge) => decide (e.frm = (t : Int)) := ⟨_, rfl⟩
      rw [← hfl] at hlkt
      have hfll : fl.length ≤ es.length := by rw [hfl]; exact List.length_filter_le _ _
      have lk : ∀ W : World, W.heap[mb0]? = wr.heap[mb0]? → (Instr.lookup 93 (.map (some mb0)) (.int .i64 t) false).run Tryz.prog W = .ok V W := fun W e' => by
        have := run_lookup_kmap kInt Tryz.underlying93 (zero_slice_edge W) (hLo.keep e') t false
        rw [hV]
        exact this
      have lk0 := lk wr.drew rfl
      have hkm := hO.2.1
      have hcl := Lib.hid (clone_ (w := wr.drew) (hlkt.flat (fun _ _ => rfl)) (show B ≤ wr.heap.size by omega) (by omega))
      have LK := Lib.hid lk
      have HV := Lib.hid hV
      have HFL := Lib.hid hfl
      have HO := Lib.hid hO
      have HGS := Lib.hid hgs
      obtain ⟨F, hSl0, hF0, hstep⟩ := hO.at_ (t : Int)
      have HST := Lib.hid (And.intro hF0 hstep)
      clear lk hV hfl hO hSl0 hF0 hstep hlk hLo hlkt
      go_upto_region 5 with (fail)
      go_region_held3 (fun w' => w'.cell? ⟨w.heap.size + 1, 2, none⟩ = some (.map (some w.heap.size)) ∧ w'.cell? ⟨gb, 2, none⟩ = some (.map (some mb0)) ∧ (Instr.lookup 93 (.map (some mb0)) (.int .i64 t) false).run Tryz.prog w' = .ok V w') (first | exact ⟨s2, g2, lk0⟩ | exact ⟨r1, r2, r3⟩ | exact ⟨t1, t2, t3⟩ | go_keep)
        (first
          | (go_at_call 106; refine hcl.out.mono ?_
             rintro e w2 ⟨v2, F2, rfl, hs2, hF2, hB2'⟩
             have hB2 : Below wr.heap.size wr w2 := (Below.refl _ _).drew.trans hB2'
             have hz2 := hB2.size
             obtain ⟨w6, hrun6, hk6, hc6⟩ := run_store_kmap kInt Tryz.underlying93 (hkm.below hB2 (by omega)) t v2
             have hrun6' : (Instr.mapUpdate 93 (.map (some w.heap.size)) (.int .i64 t) v2).run Tryz.prog w2 = .ok () w6 := hrun6
             have r1 := (World.cell?_of_block (a := ⟨w.heap.size + 1, 2, none⟩) (hB2.block _ hgsl)).trans s2
             have r2 := (World.cell?_of_block (a := ⟨gb, 2, none⟩) (hB2.block gb (by omega))).trans g2
             have r3 := LK.out w2 (hB2.block mb0 (by omega))
             have t1 := (World.cell?_of_block (a := ⟨w.heap.size + 1, 2, none⟩) (hc6.block (w.heap.size + 1) (by omega) (by omega))).trans r1
             have t2 := (World.cell?_of_block (a := ⟨gb, 2, none⟩) (hc6.block gb (by omega) (by omega))).trans r2
             have t3 := LK.out w6 ((hc6.block mb0 (by omega) (by omega)).trans (hB2.block mb0 (by omega)))
             have HS2 := Lib.hid (And.intro hs2 (And.intro hF2 (And.intro hc6 hk6)))
             clear hrun6 hs2 hF2 hc6 hk6))
      obtain ⟨hs2, hF2, hc6, hk6⟩ := HS2.out
      have hz6 := hc6.size
      have hcw2 : Chg F wr w2 := (Chg.of_below hB2).mono (fun j hj h => absurd h (by omega))
      have hF2' : ∀ j, F2 j → F j ∨ (wr.heap.size ≤ j ∧ j < w2.heap.size) := fun j hj => .inr (hF2 j hj)
      have hO6 := HST.out.2 w2 w6 v2 fl F2 hs2 hF2' hcw2 hk6 hc6 (fun j hj => by omega)
      rw [fS_set] at hO6
      have hB6 : Below w.heap.size w w6 := (hB.trans (hB2.mono (by omega))).trans (hc6.below (fun j hj => by omega) (by omega))
      have hgs6 := (hc6.block (w.heap.size + 1) (by omega) (by omega)).trans ((hB2.block (w.heap.size + 1) hgsl).trans HGS.out)
      have hO6' : OwnN kInt.enc 66 4 edgeC w6 w.heap.size (fS h es t (fl ++ startsN h t 0)) (fun j => j = w.heap.size ∨ (w.heap.size + 2 ≤ j ∧ j < w6.heap.size)) (kset L (t : Int) v2) := by
        rw [show fl ++ startsN h t 0 = fl by simp [startsN]]
        exact hO6.mono (fun j hj => by
          rcases hj with (h | h) | h
          · exact .inl h
          · exact .inr (by omega)
          · exact .inr (by omega))
      have HO6 := Lib.hid hO6'
      have HGS6 := Lib.hid hgs6
      have hl6 : ∀ j, j < B → w6.heap[j]? = w.heap[j]? := fun j hj => hB6.block j (by omega)
      have g06 := (World.cell?_of_block (a := ⟨gb, 0, none⟩) (hl6 gb hgB)).trans u0
      have l06 := (World.cell?_of_block (a := ⟨lp, 0, none⟩) (hl6 lp hlp)).trans q0
      have k1 : gb < w6.heap.size := by omega
      have k2 : lp < w6.heap.size := by omega
      obtain ⟨x, hx⟩ : ∃ x, h[t]? = some x := ⟨_, List.getElem?_eq_getElem hlt⟩
      have HX := Lib.hid hx
      have HLED := Lib.hid hl
      have HL2 := Lib.hid l2
      clear hs2 hF2 hc6 hk6 hcw2 hF2' hO6 hO6' hgs6 r1 r2 r3 t1 t2 t3 hx hl l2 lk0 hrun6'
      go_wp2
      go_loopw [5, 46] (fun _ i' wr => ∃ (u : Nat) (L : List (Int × Value)), u ≤ h.length ∧ i' = .int .i64 u ∧ OwnN kInt.enc 66 4 edgeC wr w.heap.size (fS h es t (fl ++ startsN h t u)) (fun j => j = w.heap.size ∨ (w.heap.size + 2 ≤ j ∧ j < wr.heap.size)) L ∧ wr.heap[w.heap.size + 1]? = some (.cells #[.pointer (some ⟨lp, 0, none⟩), .slice none 0 0, .map (some w.heap.size)] 95) ∧ Below w.heap.size w wr) (fun _ i' _ => h.length - (intOf i').toNat)
      case atStart => exact ⟨0, _, by omega, rfl, HO6.out, HGS6.out, hB6⟩
      case round =>
        obtain ⟨u, L, hu, rfl, hO, hgs, hB⟩ := hrel
        have hz := hB.size
        have hgsl := lt_of_heap hgs
        have hlow : ∀ j, j < B → wr.heap[j]? = w.heap[j]? := fun j hj => hB.block j (by omega)
        by_cases hul : u < h.length
        · obtain ⟨y, hy⟩ : ∃ y, h[u]? = some y := ⟨_, List.getElem?_eq_getElem hul⟩
          have g0 := (World.cell?_of_block (a := ⟨gb, 0, none⟩) (hlow gb hgB)).trans u0
          have l0 := (World.cell?_of_block (a := ⟨lp, 0, none⟩) (hlow lp hlp)).trans q0
          have j1 : gb < wr.heap.size := by omega
          have j2 : lp < wr.heap.size := by omega
          have hlr : Led wr.drew B lp h := (HLED.out.keep hlow (by omega)).drew
          obtain ⟨b3, p3, c3, ov3, he3, hb3, ⟨x0, x1, x2, x3, x4, x5, x6, x7, x8⟩, -⟩ := HistV.get HL2.out HX.out (wr := wr) hlow
          obtain ⟨b4, p4, c4, ov4, he4, hb4, ⟨y0, y1, y2, y3, y4, y5, y6, y7, y8⟩, -⟩ := HistV.get HL2.out hy (wr := wr) hlow
          cases he3
          cases he4
          have j3 : b3 < wr.heap.size := by omega
          have hti : (t : Int) < h.length := by omega
          have hui : (u : Int) < h.length := by omega
          have HY := Lib.hid hy
          have HO := Lib.hid hO
          have HGS := Lib.hid hgs
          clear hy hO hgs
          go_upto_region 9 with (fail)
          have hlq : ∀ n, Led (wr.drewN n) B lp h := fun n => HLED.out.keep hlow (by show w.heap.size ≤ wr.heap.size; omega)
          have HQ := Lib.hid hlq
          clear hlq hlr
          by_cases htu : t = u
          · have hb : ((t : Int) != (u : Int)) = false := by simp [htu]
            have HR : Hid (startB h t u = false) := Lib.hid (by unfold startB; simp [htu])
            clear htu
            refine wp_region_quiet_lit (by kernel_rfl) (by kernel_rfl) ?_
            repeat (with_reducible refine wpQuiet_step ?_; intro K hK; go_simp; first | (with_reducible refine hK _ ?_; clear hK K) | (apply Exists.intro; refine ⟨fun _ => ?_, hK _ ?_⟩; (fail); clear hK K))
            with_reducible refine wpQuiet_nil ?_
            intro _ hw'
            obtain ⟨nq, hw''⟩ := hw'
            subst hw''
            go_wp2
            refine ⟨⟨u + 1, L, by omega, by simp, ?_, HGS.out, below_drewN hB _⟩, by simp [intOf]; omega⟩
            rw [show startsN h t (u + 1) = startsN h t u by rw [startsN, HR.out]; simp]
            exact HO.out.chg ((Chg.refl (fun _ => False) _).drewN _) (fun _ _ f => f)
          · have hb : ((t : Int) != (u : Int)) = true := by simp; omega
            cases hct : com h t with
            | false =>
              have HC := Lib.hid hct
              have HR : Hid (startB h t u = false) := Lib.hid (by unfold startB; simp [hct])
              clear htu hct
              refine wp_region_quiet_lit (by kernel_rfl) (by kernel_rfl) ?_
              repeat (with_reducible refine wpQuiet_step ?_; intro K hK; go_simp; first | (with_reducible refine hK _ ?_; clear hK K) | (apply Exists.intro; refine ⟨fun _ => ?_, hK _ ?_⟩; (go_at_call 20; exact Calls.quiet_of_same ((committed_ (HQ.out _) t x HX.out).mono (by rw [HC.out]; rintro e w' ⟨rfl, rfl⟩; exact ⟨rfl, rfl⟩))); clear hK K))
              with_reducible refine wpQuiet_nil ?_
              intro _ hw'
              obtain ⟨nq, hw''⟩ := hw'
              subst hw''
              go_wp2
              refine ⟨⟨u + 1, L, by omega, by simp, ?_, HGS.out, below_drewN hB _⟩, by simp [intOf]; omega⟩
              rw [show startsN h t (u + 1) = startsN h t u by rw [startsN, HR.out]; simp]
              exact HO.out.chg ((Chg.refl (fun _ => False) _).drewN _) (fun _ _ f => f)
            | true =>
              have HC := Lib.hid hct
              cases hcu : com h u with
              | false =>
                have HC2 := Lib.hid hcu
                have HR : Hid (startB h t u = false) := Lib.hid (by unfold startB; simp [hcu])
                clear htu hct hcu
                refine wp_region_quiet_lit (by kernel_rfl) (by kernel_rfl) ?_
                repeat (with_reducible refine wpQuiet_step ?_; intro K hK; go_simp; first | (with_reducible refine hK _ ?_; clear hK K) | (apply Exists.intro; refine ⟨fun _ => ?_, hK _ ?_⟩; (go_at_call 20; first
                       | exact Calls.quiet_of_same ((committed_ (HQ.out _) u y HY.out).mono (by rw [HC2.out]; rintro e w' ⟨rfl, rfl⟩; exact ⟨rfl, rfl⟩))
                       | exact Calls.quiet_of_same ((committed_ (HQ.out _) t x HX.out).mono (by rw [HC.out]; rintro e w' ⟨rfl, rfl⟩; exact ⟨rfl, rfl⟩))); clear hK K))
                with_reducible refine wpQuiet_nil ?_
                intro _ hw'
                obtain ⟨nq, hw''⟩ := hw'
                subst hw''
                go_wp2
                refine ⟨⟨u + 1, L, by omega, by simp, ?_, HGS.out, below_drewN hB _⟩, by simp [intOf]; omega⟩
                rw [show startsN h t (u + 1) = startsN h t u by rw [startsN, HR.out]; simp]
                exact HO.out.chg ((Chg.refl (fun _ => False) _).drewN _) (fun _ _ f => f)
              | true =>
                have HC2 := Lib.hid hcu
                by_cases hle2 : x.fin ≤ y.bgn
                · have hst : startB h t u = true := by unfold startB; simp [hcu, hct, htu, HX.out, HY.out, hle2]
                  have HST2 := Lib.hid hst
                  clear htu hct hcu hst
                  refine wp_region_quiet_lit (by kernel_rfl) (by kernel_rfl) ?_
                  repeat (with_reducible refine wpQuiet_step ?_; intro K hK; go_simp; first | (with_reducible refine hK _ ?_; clear hK K) | (apply Exists.intro; refine ⟨fun _ => ?_, hK _ ?_⟩; (go_at_call 20; first
                       | exact Calls.quiet_of_same ((committed_ (HQ.out _) u y HY.out).mono (by rw [HC2.out]; rintro e w' ⟨rfl, rfl⟩; exact ⟨rfl, rfl⟩))
                       | exact Calls.quiet_of_same ((committed_ (HQ.out _) t x HX.out).mono (by rw [HC.out]; rintro e w' ⟨rfl, rfl⟩; exact ⟨rfl, rfl⟩))); clear hK K))
                  with_reducible refine wpQuiet_nil ?_
                  intro _ hw'
                  obtain ⟨nq, hw''⟩ := hw'
                  subst hw''
                  obtain ⟨wc, hwc⟩ : ∃ wc, wc = wr.drewN nq := ⟨_, rfl⟩
                  rw [← hwc]
                  have hc8 : Chg (fun _ => False) wr wc := by rw [hwc]; exact (Chg.refl _ _).drewN _
                  have hz8 : wc.heap.size = wr.heap.size := by rw [hwc]; rfl
                  have hB8 : Below w.heap.size w wc := by rw [hwc]; exact below_drewN hB _
                  have hO8 := HO.out.chg hc8 (fun _ _ f => f)
                  have hg8 := (hc8.block (w.heap.size + 1) hgsl (fun f => f)).trans HGS.out
                  have HG8 := Lib.hid hg8
                  clear hwc x0 x1 x2 x3 x4 x5 x6 x7 x8 y0 y1 y2 y3 y4 y5 y6 y7 y8 g0 l0
                  have hsn : startsN h t (u + 1) = startsN h t u ++ [⟨t, u, 0, ⟨#[]⟩⟩] := by rw [startsN, HST2.out]; simp
                  obtain ⟨i0, z0, k0, k1, k2, k3, k4⟩ := info_edge
                  obtain ⟨F, hSl, hF, hstep⟩ := hO8.at_ (t : Int)
                  have hkm := hO8.2.1
                  obtain ⟨V, hV⟩ : ∃ V, V = (kget L (t : Int)).getD (.slice none 0 0) := ⟨_, rfl⟩
                  have hfS : fS h es t (fl ++ startsN h t u) (t : Int) = fl ++ startsN h t u := by unfold fS; rw [if_pos rfl]
                  rw [← hV, hfS] at hSl
                  obtain ⟨xl, hxl⟩ : ∃ xl, xl = fl ++ startsN h t u := ⟨_, rfl⟩
                  rw [← hxl] at hSl
                  have hxll : xl.length < 68719476735 := by
                    have := startsN_len h t u
                    rw [hxl, List.length_append]; omega
                  have g8 := (cells_of hg8).1 2
                  have lk : ∀ W : World, W.heap[w.heap.size]? = wc.heap[w.heap.size]? → (Instr.lookup 93 (.map (some w.heap.size)) (.int .i64 t) false).run Tryz.prog W = .ok V W := fun W e' => by
                    have := run_lookup_kmap kInt Tryz.underlying93 (zero_slice_edge W) (hkm.keep e') (t : Int) false
                    rw [hV]
                    exact this
                  have lk1 := lk wc.drew rfl
                  have lk2 := lk (wc.alloc (.cells #[.int .i64 t, .int .i64 u, .int .i64 0, .string ⟨#[]⟩] 66)).drew (heap_alloc_lt (by omega))
                  have hSlA : Sl (wc.alloc (.cells #[.int .i64 t, .int .i64 u, .int .i64 0, .string ⟨#[]⟩] 66)).drew _ _ _ _ _ _ := hSl.chg (((Chg.refl (fun _ => False) wc).alloc (.cells #[.int .i64 t, .int .i64 u, .int .i64 0, .string ⟨#[]⟩] 66)).drew) (fun _ _ f => f)
                  have hrdA : Reads (wc.alloc (.cells #[.int .i64 t, .int .i64 u, .int .i64 0, .string ⟨#[]⟩] 66)).drew (wc.heap.size + 1) 4 (some ⟨wc.heap.size, 0, none⟩) 1 [.int .i64 t, .int .i64 u, .int .i64 0, .string ⟨#[]⟩] := reads_new wc [.int .i64 t, .int .i64 u, .int .i64 0, .string ⟨#[]⟩] 4 rfl 66
                  rw [hz8] at hrdA
                  have hone : ∀ v ∈ [Value.int .i64 t, .int .i64 u, .int .i64 0, .string ⟨#[]⟩], v.oneCell' = true := by intro v hv; simp at hv; rcases hv with rfl | rfl | rfl | rfl <;> rfl
                  have hmx : xl.length + 1 ≤ maxLen := by simp only [maxLen]; omega
                  have hby : (xl.length + 1) * 40 ≤ 140737488355328 := by omega
                  have hAP := Lib.hid (And.intro hSlA (And.intro hrdA (And.intro hone (And.intro hmx hby))))
                  have HF := Lib.hid hF
                  have HSTEP := Lib.hid hstep
                  have HSN := Lib.hid hsn
                  have HXL := Lib.hid hxl
                  clear hSlA hrdA hone hmx hby hstep hF lk hV hg8 hsn hfS hxl hO8 hSl
                  go_upto_region 10 with (fail)
                  go_region_held3 (fun w' => w'.cell? ⟨w.heap.size + 1, 2, none⟩ = some (.map (some w.heap.size))) (first | exact g8 | exact r9 | exact s9 | go_keep)
                    (first
                      | (rw [if_pos (by rfl)]; refine wp_append_sl _ (.tmp 105) (.tmp 109) 61 rfl 66 i0 z0 4 40 Tryz.underlying61 k0 k1 k2 k3 k4 (by omega) V _ _ F rfl hAP.out.1 _ _ 1 1 [.int .i64 t, .int .i64 u, .int .i64 0, .string ⟨#[]⟩] rfl hAP.out.2.1 hAP.out.2.2.1 hAP.out.2.2.2.1 hAP.out.2.2.2.2 ?_
                         intro v2 w5 F5 hs5 hc5 hf5 hnz5
                         have hc58 : Chg F wc w5 := ((((Chg.refl (fun _ => False) wc).alloc _).drew).mono (G := F) (fun _ _ h => h.elim)).trans hc5 (fun _ _ h => h)
                         have hk5 := hkm.chg hc58 (fun h => (HF.out _ h).2 rfl)
                         obtain ⟨w6, hrun6, hk6, hc6⟩ := run_store_kmap kInt Tryz.underlying93 hk5 (t : Int) v2
                         have hrun6' : (Instr.mapUpdate 93 (.map (some w.heap.size)) (.int .i64 t) v2).run Tryz.prog w5 = .ok () w6 := hrun6
                         have hF8 : ∀ j, F j → j ≠ w.heap.size ∧ w.heap.size + 2 ≤ j ∧ j < wr.heap.size := fun j hj => by
                           obtain ⟨h1, h2⟩ := HF.out j hj
                           rcases h1 with h1 | h1
                           · exact absurd h1 h2
                           · exact ⟨h2, h1⟩
                         have hz58 := hc58.size
                         have eg : w5.heap[w.heap.size + 1]? = wc.heap[w.heap.size + 1]? := hc58.block _ (by omega) (fun h => by have := hF8 _ h; omega)
                         have eg6 : w6.heap[w.heap.size + 1]? = wc.heap[w.heap.size + 1]? := (hc6.block _ (by omega) (by omega)).trans eg
                         have r9 := (World.cell?_of_block (a := ⟨w.heap.size + 1, 2, none⟩) eg).trans g8
                         have s9 := (World.cell?_of_block (a := ⟨w.heap.size + 1, 2, none⟩) eg6).trans g8
                         have HEG6 := Lib.hid eg6
                         clear hrun6 eg eg6))
                  all_goals (
                    go_wp2
                    have hown := HSTEP.out w5 w6 v2 (xl ++ [⟨t, u, 0, ⟨#[]⟩⟩]) F5 (by simpa [edgeC] using hs5) (fun b hb => by
                      rcases hf5 b hb with h | ⟨h, h'⟩
                      · exact .inl h
                      · refine .inr ⟨?_, h'⟩
                        have : wc.heap.size ≤ (wc.alloc (.cells #[.int .i64 t, .int .i64 u, .int .i64 0, .string ⟨#[]⟩] 66)).drew.heap.size := by (show _ ≤ (wc.alloc _).heap.size); rw [World.size_alloc]; omega
                        omega) hc58 hk6 hc6 (fun b hb => by rcases hb with h | h <;> omega)
                    rw [fS_set, HXL.out, List.append_assoc, ← HSN.out] at hown
                    have hz6 := hc6.size
                    refine ⟨⟨u + 1, kset L (t : Int) v2, by omega, by simp, ?_, HEG6.out.trans HG8.out, ?_⟩, by simp [intOf]; omega⟩
                    · exact hown.mono (fun b hb => by
                        rcases hb with (h | h) | h
                        · exact .inl h
                        · exact .inr (by omega)
                        · exact .inr (by omega))
                    · exact hB8.trans (((hc58.below (fun j hj => (Nat.le_trans (by omega) (hF8 j hj).2.1)) (by omega)).trans (hc6.below (fun j hj => by omega) (by omega)))))
                · have HR : Hid (startB h t u = false) := Lib.hid (by unfold startB; simp [hcu, hct, htu, HX.out, HY.out, hle2])
                  clear htu hct hcu
                  refine wp_region_quiet_lit (by kernel_rfl) (by kernel_rfl) ?_
                  repeat (with_reducible refine wpQuiet_step ?_; intro K hK; go_simp; first | (with_reducible refine hK _ ?_; clear hK K) | (apply Exists.intro; refine ⟨fun _ => ?_, hK _ ?_⟩; (go_at_call 20; first
                       | exact Calls.quiet_of_same ((committed_ (HQ.out _) u y HY.out).mono (by rw [HC2.out]; rintro e w' ⟨rfl, rfl⟩; exact ⟨rfl, rfl⟩))
                       | exact Calls.quiet_of_same ((committed_ (HQ.out _) t x HX.out).mono (by rw [HC.out]; rintro e w' ⟨rfl, rfl⟩; exact ⟨rfl, rfl⟩))); clear hK K))
                  with_reducible refine wpQuiet_nil ?_
                  intro _ hw'
                  obtain ⟨nq, hw''⟩ := hw'
                  subst hw''
                  go_wp2
                  refine ⟨⟨u + 1, L, by omega, by simp, ?_, HGS.out, below_drewN hB _⟩, by simp [intOf]; omega⟩
                  rw [show startsN h t (u + 1) = startsN h t u by rw [startsN, HR.out]; simp]
                  exact HO.out.chg ((Chg.refl (fun _ => False) _).drewN _) (fun _ _ f => f)
        · obtain rfl : u = h.length := by omega
          have hfin : fl ++ startsN h t h.length = outS h es t h.length := by unfold outS; rw [← HFL.out]
          rw [hfin, fS_next] at hO
          have HO := Lib.hid hO
          have HGS := Lib.hid hgs
          clear hO hgs
          go_wp2
          exact ⟨⟨t + 1, L, by omega, by simp, HO.out, HGS.out, hB⟩, by simp [intOf]; omega⟩
    · obtain rfl : t = h.length := by omega
      rw [← starts_filter h es h.length] at hO
      have HO := Lib.hid hO
      clear hO
      go_wp2
      go_ret
      exact ⟨_, _, rfl, hB, hgsl, hgs, HO.out.mapOfK (fun _ => rfl) (Nat.le_refl _)⟩
end Go.Proofs.YtooigfkjdemnlaaGreatDoor

namespace Go.Proofs.YtooigfkjdemnlaaGreatDoor
set_option maxRecDepth 100000
open Go.RowKit Go.Lib Go.Sort Go.Shelf Xw

def startK (k : Int) : Bool := decide (k = 0) || flowK k
def PhenP (h : List HTx) (p : Nat) : Prop := match p with
  | 1 => Cyc (edgesOf h) (edgesOf h) (fun e => writeK e.kind) (fun e => writeK e.kind)
  | 2 => ToldB h (badA h)
  | 3 => ToldB h (badB h)
  | 4 => Cyc (edgesOf h) (edgesOf h) (fun e => flowK e.kind) (fun e => flowK e.kind)
  | 5 => ∃ e ∈ edgesOf h, earlyB h e = true
  | 6 => Cyc (edgesOf h) (starts h (edgesOf h) h.length) (fun e => antiK e.kind) (fun e => startK e.kind)
  | 7 => Cyc (edgesOf h) (edgesOf h) (fun e => itemK e.kind) (fun _ => true)
  | 8 => Cyc (edgesOf h) (edgesOf h) (fun e => antiK e.kind) (fun _ => true)
  | _ => False
set_option maxHeartbeats 4000000 in
theorem shows2_ (e : Edge) (w : World) : Calls Tryz.prog 68 #[edgeV e] w fun r w' => r = .returned (.bool (startK e.kind)) ∧ Below w.heap.size w w' := by
  show Calls Tryz.prog 68 #[.agg #[.int .i64 e.frm, .int .i64 e.to, .int .i64 e.kind, .string e.key]] w _
  obtain ⟨W1, hW1⟩ : ∃ W1, W1 = w.alloc (.cells #[.int .i64 e.frm, .int .i64 e.to, .int .i64 e.kind, .string e.key] 66) := ⟨_, rfl⟩
  have hB1 : Below w.heap.size w W1 := by rw [hW1]; exact bel1 _ _
  have hz1 : W1.heap.size = w.heap.size + 1 := by rw [hW1]; simp
  have hbn : W1.heap[w.heap.size]? = some (.cells #[.int .i64 e.frm, .int .i64 e.to, .int .i64 e.kind, .string e.key] 66) := by rw [hW1]; exact heap_alloc_new _ _
  have v0 := (cells_of (cs := [.int .i64 e.frm, .int .i64 e.to, .int .i64 e.kind, .string e.key]) hbn).1 0
  have v1 := (cells_of (cs := [.int .i64 e.frm, .int .i64 e.to, .int .i64 e.kind, .string e.key]) hbn).1 1
  have v2 := (cells_of (cs := [.int .i64 e.frm, .int .i64 e.to, .int .i64 e.kind, .string e.key]) hbn).1 2
  have v3 := (cells_of (cs := [.int .i64 e.frm, .int .i64 e.to, .int .i64 e.kind, .string e.key]) hbn).1 3
  have hnn : w.heap.size < W1.heap.size := by omega
  have hc := Lib.hid (isFlow_ e W1)
  have HW1 := Lib.hid hW1
  clear hW1 hbn
  by_cases h0 : e.kind = 0
  · have hb : (e.kind == 0) = true := by simp [h0]
    have HR : Hid (startK e.kind = true) := Lib.hid (by unfold startK; simp [h0])
    clear h0
    go_enter Tryz.func68, Tryz.ntmps68
    go_upto_region 1 with (fail)
    rw [← HW1.out]
    go_wp2
    go_ret
    exact ⟨ret_bool (by rw [HR.out]), hB1⟩
  · have hb : (e.kind == 0) = false := by simp [h0]
    have HR : Hid (startK e.kind = flowK e.kind) := Lib.hid (by unfold startK; simp [h0])
    clear h0
    go_enter Tryz.func68, Tryz.ntmps68
    go_upto_region 1 with (fail)
    rw [← HW1.out]
    go_wp2_with (go_at_call 64; refine hc.out.mono ?_; rintro r w2 ⟨rfl, hB2⟩)
    go_ret
    exact ⟨ret_bool (by rw [HR.out]), hB1.trans (hB2.mono (by omega))⟩
def NilIff (P : Prop) (v : Value) : Prop := (v = .slice none 0 0 ∧ ¬ P) ∨ ∃ a n c, v = .slice (some a) n c ∧ P
theorem nilIff_of {P : Prop} {e : Ending} (h : (e = .returned (.slice none 0 0) ∧ ¬ P) ∨ (∃ a n c, e = .returned (.slice (some a) n c) ∧ P)) : ∃ v, e = .returned v ∧ Hid (NilIff P v) := by
  rcases h with ⟨h1, h2⟩ | ⟨a, n, c, h1, h2⟩
  · exact ⟨_, h1, Lib.hid (.inl ⟨rfl, h2⟩)⟩
  · exact ⟨_, h1, Lib.hid (.inr ⟨a, n, c, rfl, h2⟩)⟩
def ShowsR (w : World) (h : List HTx) (p : Nat) (e : Ending) (w' : World) : Prop := Below w.heap.size w w' ∧ ∃ v, e = .returned v ∧ Hid (NilIff (PhenP h p) v)
set_option maxHeartbeats 8000000 in
theorem shows_ {w : World} {B lp gb lo : Nat} {h : List HTx} (H : Fine h) (hG : GrD w B lp gb h (edgesOf h) lo) (hle : B ≤ w.heap.size) (p : Nat) (hp1 : 1 ≤ p) (hp8 : p ≤ 8) :
    Calls Tryz.prog 32 #[.pointer (some ⟨gb, 0, none⟩), .int .i64 p] w (ShowsR w h p) := by
  have L := H.lim
  have hec : ∀ e ∈ edgesOf h, EdgeC h e := fun e he => edge_com H he
  have hns : ∀ e ∈ edgesOf h, e.frm ≠ e.to := fun e he => (hec e he).in_.2
  have hin : ∀ e ∈ edgesOf h, EdgeIn h e := fun e he => (hec e he).in_.1
  have hlen := edgesOf_len L
  have hlen2 := starts_len L
  obtain ⟨hl0, ⟨ev, mb, hg0, hr0, hm0, _⟩, hgB⟩ := hG
  obtain ⟨W1, hW1⟩ : ∃ W1, W1 = w.alloc (.cells #[.pointer (some ⟨gb, 0, none⟩)] 91) := ⟨_, rfl⟩
  have hB1 : Below w.heap.size w W1 := by rw [hW1]; exact bel1 _ _
  have hz1 : W1.heap.size = w.heap.size + 1 := by rw [hW1]; simp
  have hbx : W1.heap[w.heap.size]? = some (.cells #[.pointer (some ⟨gb, 0, none⟩)] 91) := by rw [hW1]; exact heap_alloc_new _ _
  have hlow : ∀ j, j < B → W1.heap[j]? = w.heap[j]? := fun j hj => hB1.block j (by omega)
  have hl : Led W1 B lp h := hl0.keep hlow (by omega)
  have hg := (hlow gb hgB).trans hg0
  have hr := hr0.flat hlow
  have hm := hm0.keep hlow
  have hle1 : B ≤ W1.heap.size := by omega
  have b0 := (cells_of (cs := [.pointer (some ⟨gb, 0, none⟩)]) hbx).1 0
  have hwl : w.heap.size < W1.heap.size := by omega
  have HW1 := Lib.hid hW1
  have hmf : ∀ (fn : Fn) (first cap : Array Value) (w : World), (Instr.makeFunc fn first cap).run Tryz.prog w = .ok (.func fn first cap) w := fun _ _ _ _ => rfl
  clear hW1 hl0 hg0 hr0 hm0
  have cyc : ∀ (M1 M2 : FuncId) (m1 m2 : Edge → Bool) (eg1 : ∀ args w, (callFunc M1 args).run Tryz.prog w = .ok (.enter M1 args) w) (eg2 : ∀ args w, (callFunc M2 args).run Tryz.prog w = .ok (.enter M2 args) w)
      (hm1 : ∀ (e : Edge) (W : World), Calls Tryz.prog M1 #[edgeV e] W fun r W' => r = .returned (.bool (m1 e)) ∧ Below W.heap.size W W')
      (hm2 : ∀ (e : Edge) (W : World), Calls Tryz.prog M2 #[edgeV e] W fun r W' => r = .returned (.bool (m2 e)) ∧ Below W.heap.size W W') (hph : PhenP h p = Cyc (edgesOf h) (edgesOf h) m1 m2),
      Calls Tryz.prog 59 #[.pointer (some ⟨gb, 0, none⟩), .pointer (some ⟨gb, 0, none⟩), .func (.func M1) #[] #[], .func (.func M2) #[] #[]] W1 (ShowsR w h p) := fun M1 M2 m1 m2 eg1 eg2 hm1 hm2 hph =>
    (cycle_ (mb0 := mb) hg hr hgB hg hm hgB hle1 hns (by omega) M1 M2 m1 m2 eg1 eg2 hm1 hm2).mono fun e w' ⟨h1, h2⟩ => ⟨hB1.trans (h1.mono (by omega)), by rw [hph]; exact nilIff_of h2⟩
  have CYC := Lib.hid cyc
  clear cyc
  obtain rfl | rfl | rfl | rfl | rfl | rfl | rfl | rfl : p = 1 ∨ p = 2 ∨ p = 3 ∨ p = 4 ∨ p = 5 ∨ p = 6 ∨ p = 7 ∨ p = 8 := by omega
  · have HC := Lib.hid (CYC.out 60 60 _ _ (enters_of Tryz.func60 (by kernel_rfl) rfl) (enters_of Tryz.func60 (by kernel_rfl) rfl) isWrite_ isWrite_ rfl)
    clear hg hr hm hbx hl
    go_enter Tryz.func32, Tryz.ntmps32
    go_upto_region 1 with (fail)
    rw [← HW1.out]
    go_wp2_with (go_at_call 59; with_reducible refine HC.out.mono ?_)
    rintro e w2 ⟨hB2, v, rfl, HV⟩
    go_wp2
    go_ret
    exact ⟨hB2, v, rfl, HV⟩
  · have HC : Hid (Calls Tryz.prog 61 _ W1 _) := Lib.hid (told_ hl H hg hgB 62 #[.pointer (some ⟨w.heap.size, 0, none⟩)] (badA h) (enters_of Tryz.func62 (by kernel_rfl) rfl)
      (fun t v W hv _ hB => shows1_ (hl.below hB hl.le) ((hB.block gb (by omega)).trans hg) ((hB.block w.heap.size (by omega)).trans hbx) t v hv))
    clear hg hr hm hbx hl
    go_enter Tryz.func32, Tryz.ntmps32
    go_upto_region 1 with (fail)
    rw [← HW1.out]
    go_wp2_with (go_at_call 61; with_reducible refine HC.out.mono ?_)
    rintro e w2 ⟨hB2, he⟩
    obtain ⟨v, rfl, HV⟩ := nilIff_of he
    clear he
    go_wp2
    go_ret
    exact ⟨hB1.trans (hB2.mono (by omega)), v, rfl, HV⟩
  · have HC : Hid (Calls Tryz.prog 63 _ W1 _) := Lib.hid (between_ hl H hg hgB)
    clear hg hr hm hbx hl
    go_enter Tryz.func32, Tryz.ntmps32
    go_upto_region 1 with (fail)
    rw [← HW1.out]
    go_wp2_with (go_at_call 63; with_reducible refine HC.out.mono ?_)
    rintro e w2 ⟨hB2, he⟩
    obtain ⟨v, rfl, HV⟩ := nilIff_of he
    clear he
    go_wp2
    go_ret
    exact ⟨hB1.trans (hB2.mono (by omega)), v, rfl, HV⟩
  · have HC := Lib.hid (CYC.out 64 64 _ _ (enters_of Tryz.func64 (by kernel_rfl) rfl) (enters_of Tryz.func64 (by kernel_rfl) rfl) isFlow_ isFlow_ rfl)
    clear hg hr hm hbx hl
    go_enter Tryz.func32, Tryz.ntmps32
    go_upto_region 1 with (fail)
    rw [← HW1.out]
    go_wp2_with (go_at_call 59; with_reducible refine HC.out.mono ?_)
    rintro e w2 ⟨hB2, v, rfl, HV⟩
    go_wp2
    go_ret
    exact ⟨hB2, v, rfl, HV⟩
  · have HC : Hid (Calls Tryz.prog 65 _ W1 _) := Lib.hid ((early_ hl hg hgB hr hin).mono (R' := fun e w' => Below W1.heap.size W1 w' ∧ ((e = .returned (.slice none 0 0) ∧ ¬ PhenP h 5) ∨ (∃ a n c, e = .returned (.slice (some a) n c) ∧ PhenP h 5))) (by
      rintro e w' ⟨h1, ⟨h2, h3⟩ | h2⟩
      · exact ⟨h1, .inl ⟨h2, fun ⟨e, he, h4⟩ => by rw [h3 e he] at h4; cases h4⟩⟩
      · exact ⟨h1, .inr h2⟩))
    clear hg hr hm hbx hl
    go_enter Tryz.func32, Tryz.ntmps32
    go_upto_region 1 with (fail)
    rw [← HW1.out]
    go_wp2_with (go_at_call 65; with_reducible refine HC.out.mono ?_)
    rintro e w2 ⟨hB2, he⟩
    obtain ⟨v, rfl, HV⟩ := nilIff_of he
    clear he
    go_wp2
    go_ret
    exact ⟨hB1.trans (hB2.mono (by omega)), v, rfl, HV⟩
  · have hm1 : MapOfK kInt.enc W1.drew B mb 4 edgeC (fun t => (edgesOf h).filter fun e => decide (e.frm = t)) := hm.keep (fun _ _ => rfl)
    have HS := Lib.hid (starts_ (hl.drew) L.n (w := W1.drew) hg hgB hm1 (by omega))
    have HG := Lib.hid (And.intro hg hr)
    have HNS := Lib.hid hns
    clear hg hr hm hbx hl hm1 hns
    go_enter Tryz.func32, Tryz.ntmps32
    go_upto_region 1 with (fail)
    rw [← HW1.out]
    go_upto_region 13 with (fail)
    go_region_held3 (fun w' => w'.cell? ⟨w.heap.size, 0, none⟩ = some (.pointer (some ⟨gb, 0, none⟩))) (first | exact b0 | exact r0 | exact r5 | go_keep)
      (first
        | (go_at_call 66; with_reducible refine HS.out.mono ?_
           rintro e w2 ⟨gs, mb2, rfl, hB2, hgs, hg2, hm2⟩
           have hz2 : W1.heap.size ≤ w2.heap.size := hB2.size
           have r0 := (World.cell?_of_block (a := ⟨w.heap.size, 0, none⟩) (hB2.block w.heap.size hwl)).trans b0
           have hlow2 : ∀ j, j < B → w2.heap[j]? = W1.heap[j]? := fun j hj => hB2.block j (by show j < W1.heap.size; omega)
           have HC := Lib.hid (cycle_ (mb0 := mb) (B := w2.heap.size) ((hlow2 gb hgB).trans HG.out.1) ((HG.out.2.flat hlow2).flatMore (by omega)) (by omega) hg2 hm2 hgs (Nat.le_refl _) HNS.out (by omega) 67 68 _ _ (enters_of Tryz.func67 (by kernel_rfl) rfl) (enters_of Tryz.func68 (by kernel_rfl) rfl) isAnti_ shows2_)
           clear hg2 hm2 hlow2)
        | (go_at_call 59; with_reducible refine HC.out.mono ?_
           rintro e w3 ⟨hB3, he⟩
           obtain ⟨v, rfl, HV⟩ := nilIff_of he
           have HB3 := Lib.hid (hB1.trans (((Below.refl _ _).drew.trans hB2 : Below W1.heap.size W1 w2).trans (hB3.mono hz2) |>.mono (by omega)))
           have r5 := (World.cell?_of_block (a := ⟨w.heap.size, 0, none⟩) (hB3.block w.heap.size (by omega))).trans r0
           clear he))
    all_goals (
      go_wp2
      go_ret
      exact ⟨HB3.out, v, rfl, HV⟩)
  · have HC := Lib.hid (CYC.out 69 70 _ _ (enters_of Tryz.func69 (by kernel_rfl) rfl) (enters_of Tryz.func70 (by kernel_rfl) rfl) isItem_ isAny_ rfl)
    clear hg hr hm hbx hl
    go_enter Tryz.func32, Tryz.ntmps32
    go_upto_region 1 with (fail)
    rw [← HW1.out]
    go_wp2_with (go_at_call 59; with_reducible refine HC.out.mono ?_)
    rintro e w2 ⟨hB2, v, rfl, HV⟩
    go_wp2
    go_ret
    exact ⟨hB2, v, rfl, HV⟩
  · have HC := Lib.hid (CYC.out 67 70 _ _ (enters_of Tryz.func67 (by kernel_rfl) rfl) (enters_of Tryz.func70 (by kernel_rfl) rfl) isAnti_ isAny_ rfl)
    clear hg hr hm hbx hl
    go_enter Tryz.func32, Tryz.ntmps32
    go_upto_region 1 with (fail)
    rw [← HW1.out]
    go_wp2_with (go_at_call 59; with_reducible refine HC.out.mono ?_)
    rintro e w2 ⟨hB2, v, rfl, HV⟩
    go_wp2
    go_ret
    exact ⟨hB2, v, rfl, HV⟩
end Go.Proofs.YtooigfkjdemnlaaGreatDoor

namespace Go.Proofs.YtooigfkjdemnlaaGreatDoor
section
variable {h : List HTx}
theorem chosenUpto_all {t : Nat} {at_ : Int} {ord : List Inst} : ∀ {n : Nat} {i : Nat} {u : Inst}, chosenUpto t at_ ord n ≤ i → i < n → ord[i]? = some u → ¬ (u.txn ≠ t ∧ u.fin ≤ at_)
  | 0, i, u, _, hi, _ => by omega
  | n + 1, i, u, hc, hi, hu => by
    simp only [chosenUpto] at hc
    cases hv : ord[n]? with
    | none =>
      rw [hv] at hc
      by_cases e : i = n
      · subst e; rw [hv] at hu; cases hu
      · exact chosenUpto_all hc (by omega) hu
    | some v =>
      rw [hv] at hc
      simp only at hc
      by_cases h1 : v.txn ≠ t ∧ v.fin ≤ at_
      · rw [if_pos h1] at hc; omega
      · rw [if_neg h1] at hc
        by_cases e : i = n
        · subst e; rw [hv] at hu; cases hu; exact h1
        · exact chosenUpto_all hc (by omega) hu
theorem wr_val {ops : List HOpr} {k : ByteArray} : ∀ {i : Nat} {w : Wrote}, w ∈ wrFrom ops k i → ∃ o ∈ ops, o.kind = 2 ∧ o.ver.key = k ∧ w.value = o.value := by
  induction ops with
  | nil => intro i w hw; cases hw
  | cons o r ih =>
    intro i w hw
    unfold wrFrom at hw
    split at hw
    · rename_i h1
      rcases List.mem_cons.1 hw with rfl | h2
      · exact ⟨o, by simp, h1.1, h1.2, rfl⟩
      · obtain ⟨o', a, b⟩ := ih h2
        exact ⟨o', List.mem_cons_of_mem _ a, b⟩
    · obtain ⟨o', a, b⟩ := ih hw
      exact ⟨o', List.mem_cons_of_mem _ a, b⟩
theorem mem_starts {es : List Edge} {e : Edge} : ∀ {n : Nat}, e ∈ starts h es n → e ∈ es ∨ ∃ t u : Nat, e.frm = t ∧ e.to = u ∧ startB h t u = true
  | 0, he => by cases he
  | n + 1, he => by
    unfold starts outS at he
    rcases List.mem_append.1 he with h1 | h1
    · exact mem_starts h1
    · rcases List.mem_append.1 h1 with h2 | h2
      · exact .inl (List.mem_filter.1 h2).1
      · right
        have go : ∀ m, e ∈ startsN h n m → ∃ t u : Nat, e.frm = t ∧ e.to = u ∧ startB h t u = true := by
          intro m
          induction m with
          | zero => intro h; cases h
          | succ m ih =>
            intro h
            unfold startsN at h
            split at h
            · rename_i hb
              rcases List.mem_append.1 h with h3 | h3
              · exact ih h3
              · simp at h3; subst h3; exact ⟨n, m, rfl, rfl, hb⟩
            · exact ih h
        exact go _ h2
end
end Go.Proofs.YtooigfkjdemnlaaGreatDoor
