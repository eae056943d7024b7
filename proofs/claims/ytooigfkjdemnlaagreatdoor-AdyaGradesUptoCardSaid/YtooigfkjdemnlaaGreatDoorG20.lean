/- Own texts of this claim, joined in build order: O4. -/
import Derived.Test.YtooigfkjdemnlaaGreatDoorG13
import Derived.Test.YtooigfkjdemnlaaGreatDoorG19
import Derived.Deep.RegionHeld3
import Derived.Deep.CutRange
import Derived.Deep.Cut
import Derived.Maps.RangeWalk
set_option linter.all false
namespace Go.Proofs.YtooigfkjdemnlaaGreatDoor
set_option maxRecDepth 100000
open Go.RowKit Go.Lib Go.Sort Go.Shelf Xw

theorem wrote_info : (Tryz.prog.info? 129).map (fun i => (i.zero.map (·.cells.size), i.size, i.bytes)) = some (some 3, 3, 32) := by kernel_rfl
theorem inst_info : (Tryz.prog.info? 125).map (fun i => (i.zero.map (·.cells.size), i.size, i.bytes)) = some (some 3, 3, 24) := by kernel_rfl
theorem mapw_info : (Tryz.prog.info? 159).map (fun i => (i.zero.map (·.cells.size), i.size, i.bytes)) = some (some 1, 1, 8) := by kernel_rfl
theorem info_of {P : Program} {t : TypeId} {a b c : Nat} (h : (P.info? t).map (fun i => (i.zero.map (·.cells.size), i.size, i.bytes)) = some (some a, b, c)) : ∃ i z, P.info? t = some i ∧ i.zero = some z ∧ i.size = b ∧ i.bytes = c ∧ z.cells.size = a := by
  cases hi : P.info? t with
  | none => rw [hi] at h; cases h
  | some i =>
    rw [hi] at h
    simp only [Option.map_some, Option.some.injEq, Prod.mk.injEq] at h
    obtain ⟨h1, h2, h3⟩ := h
    cases hz : i.zero with
    | none => rw [hz] at h1; cases h1
    | some z => rw [hz] at h1; exact ⟨i, z, rfl, hz, h2, h3, by simpa using h1⟩
theorem reads_new (w : World) (cs : List Value) (n : Nat) (hn : cs.length = n) (e : TypeId) : Reads (w.alloc (.cells cs.toArray e)) (w.heap.size + 1) n (some ⟨w.heap.size, 0, none⟩) 1 cs := by
  refine ⟨by omega, fun _ => ⟨_, rfl, Nat.lt_succ_self _, fun j x hj => ?_⟩⟩
  have e1 : (⟨w.heap.size, 0, none⟩ : Addr).add j = ⟨w.heap.size, j, none⟩ := by unfold Addr.add; split <;> simp_all
  rw [e1, cell_of_row _ _ _ _ _ _ (heap_alloc_new w _)]
  simpa using hj

set_option maxHeartbeats 8000000 in
theorem open_ {w : World} {B : Nat} {h : List HTx} {tv : Value} (hh : HistV w B tv h) (hB : B ≤ w.heap.size) (hn : h.length ≤ 256) (hops : ∀ x ∈ h, x.ops.length ≤ 1048576) :
    Calls Tryz.prog 44 #[.agg #[tv]] w fun e w' => ∃ lp, e = .returned (.pointer (some ⟨lp, 0, none⟩)) ∧ Led w' w'.heap.size lp h ∧ Below w.heap.size w w' := by
  obtain ⟨A, c0, rfl, hn0, hm0⟩ := Rows.shape hh
  simp only [maxLen] at hm0
  have hmk : ∀ (t : TypeId) (w : World), (Instr.makeMap t none).run Tryz.prog w = .ok (.map (some w.heap.size)) (w.alloc (.map #[] 0)) := fun _ _ => rfl
  have hn1 : (h.length : Int) ≤ 256 := by omega
  obtain ⟨W3, hW3⟩ : ∃ W3, W3 = ((w.alloc (.cells #[.slice A h.length c0] 28)).alloc (.map #[] 0)).alloc (.cells #[.slice A h.length c0, .slice none 0 0, .map (some (w.heap.size + 1)), .slice none 0 0] 84) := ⟨_, rfl⟩
  have hz3 : W3.heap.size = w.heap.size + 3 := by rw [hW3]; simp
  have hB3 : Below w.heap.size w W3 := by rw [hW3]; exact bel3 _ _ _ _
  have hI0 : OpenI w W3 (w.heap.size + 1 + 1) (w.heap.size + 1) (.slice A h.length c0) h 0 (insUpto h 0) (fun j => if j = w.heap.size + 1 + 1 then 1 else if j = w.heap.size + 1 then 4 else 0) := by
    refine ⟨⟨.slice none 0 0, [], ?_, rfl, Sl.nil _ _ _ _, fun i x mb _ hm => by simp at hm⟩, ⟨[], ?_⟩, fun j hj => ?_, by simp, hB3⟩
    · rw [hW3]; exact top_al _ _ (by simp)
    · rw [insUpto_zero]
      have := OwnM.made Value.string 125 3 instC (w.alloc (.cells #[.slice A h.length c0] 28))
      have h2 := this.chg (F := fun _ => False) ((Chg.refl (fun _ => False) _).alloc (.cells #[.slice A h.length c0, .slice none 0 0, .map (some (w.heap.size + 1)), .slice none 0 0] 84)) (fun _ _ f => f)
      rw [← hW3] at h2
      simp only [World.size_alloc] at h2
      exact h2.mono (fun j hj => by subst hj; simp)
    · by_cases h1 : j = w.heap.size + 1 + 1
      · omega
      · by_cases h2 : j = w.heap.size + 1
        · omega
        · simp [h1, h2] at hj
  have HW3 := Lib.hid hW3; clear hW3
  go_enter Tryz.func44, Tryz.ntmps44
  go_wp2
  rw [← HW3.out]
  obtain ⟨i0, z0, j0, j1, j2, j3, j4⟩ := info_of wrote_info
  go_loopw [4, 5, 6, 7, 8, 9, 10, 20] (fun _ _ _ _ _ _ _ i' wr => ∃ t : Nat, t ≤ h.length ∧ i' = .int .i64 t ∧ ∃ c, OpenI w wr (w.heap.size + 1 + 1) (w.heap.size + 1) (.slice A h.length c0) h t (insUpto h t) c) (fun _ _ _ _ _ _ _ i' _ => h.length - (intOf i').toNat)
  case atStart => exact ⟨0, by omega, rfl, _, hI0⟩
  case round =>
    obtain ⟨t, ht, rfl, c, hI⟩ := hrel
    obtain ⟨wo, rfl⟩ : ∃ wo : World, wo = wr := ⟨_, rfl⟩
    have hBo := hI.bel
    have hsz := hBo.size
    by_cases hlt2 : t < h.length
    · obtain ⟨x, hx⟩ : ∃ x, h[t]? = some x := ⟨_, List.getElem?_eq_getElem hlt2⟩
      have hopx := hops x (List.mem_of_getElem? hx)
      obtain ⟨b, p, c2, ov, he, hb, ⟨a0, a1, a2, a3, a4, a5, a6, a7, a8⟩, hro⟩ := hh.get hx (wr := wo) (keep_of hBo hB)
      cases he
      obtain ⟨Ao, co, rfl, hno, hmo⟩ := hro.shape
      have hbr : b < wo.heap.size := by omega
      simp only [maxLen] at hmo
      obtain ⟨W1, hW1⟩ : ∃ W1, W1 = (wo.alloc (.cells #[.int .i64 x.iso, .int .i64 x.fate, .int .u64 x.bgn, .int .u64 x.fin, .int .i64 x.bi, .int .i64 x.bo, .int .i64 x.ei, .int .i64 x.eo, .slice Ao x.ops.length co] 53)).alloc (.map #[] 0) := ⟨_, rfl⟩
      have hz1 : W1.heap.size = wo.heap.size + 2 := by rw [hW1]; simp
      have hB1 : Below wo.heap.size wo W1 := by rw [hW1]; exact bel2 _ _ _
      have hbx : W1.heap[wo.heap.size]? = some (.cells #[.int .i64 x.iso, .int .i64 x.fate, .int .u64 x.bgn, .int .u64 x.fin, .int .i64 x.bi, .int .i64 x.bo, .int .i64 x.ei, .int .i64 x.eo, .slice Ao x.ops.length co] 53) := by
        rw [hW1, heap_alloc_lt (by simp), heap_alloc_new]
      have hm1 : OwnM Value.string 129 3 wroteC W1 (wo.heap.size + 1) (wrUpto x 0) (fun j => wo.heap.size + 1 ≤ j ∧ j < W1.heap.size) [] := by
        have := OwnM.made Value.string 129 3 wroteC (wo.alloc (.cells #[.int .i64 x.iso, .int .i64 x.fate, .int .u64 x.bgn, .int .u64 x.fin, .int .i64 x.bi, .int .i64 x.bo, .int .i64 x.ei, .int .i64 x.eo, .slice Ao x.ops.length co] 53))
        rw [← hW1, World.size_alloc] at this
        rw [wrUpto_zero]
        exact this.mono (fun j hj => by omega)
      have hI1 : OpenI w W1 (w.heap.size + 1 + 1) (w.heap.size + 1) _ h t (insUpto h t) c := hI.below hB1
      have HX := Lib.hid hx; clear hx
      have HW1 := Lib.hid hW1; clear hW1
      go_wp2
      rw [← HW1.out]
      go_loopw [7, 8, 29] (fun _ _ i2 wr => ∃ j : Nat, j ≤ x.ops.length ∧ i2 = .int .i64 j ∧ Below (wo.heap.size + 1) W1 wr ∧ ∃ Lm, OwnM Value.string 129 3 wroteC wr (wo.heap.size + 1) (wrUpto x j) (fun j => wo.heap.size + 1 ≤ j ∧ j < wr.heap.size) Lm) (fun _ _ i2 _ => x.ops.length - (intOf i2).toNat)
      case atStart => exact ⟨0, by omega, rfl, Below.refl _ _, _, hm1⟩
      case round =>
        obtain ⟨j, hj, rfl, hB2, Lm, hm⟩ := hrel
        have hz2 := hB2.size
        have hBow : Below wo.heap.size wo wr := hB1.trans (hB2.mono (by omega))
        by_cases hlt3 : j < x.ops.length
        · obtain ⟨o, ho⟩ : ∃ o, x.ops[j]? = some o := ⟨_, List.getElem?_eq_getElem hlt3⟩
          obtain ⟨b2, p2, c3, sv, he, hb2, ⟨o0, o1, o2, o3, o4, o5, o6, o7, o8⟩, hsr⟩ := ops_get hro ho (wr := wr) (keep_of hBow (by omega))
          cases he
          obtain ⟨sA, sc, rfl, hsn, hsm⟩ := hsr.shape
          have hb2q : b2 < wr.heap.size := by omega
          have hopb := bel1 wr (.cells #[.int .i64 o.kind, .string o.ver.key, .int .i64 o.ver.frm, .int .i64 o.ver.nth, .bool o.dead, .string o.value, .string o.hi, .slice sA o.seen.length sc, .int .u64 o.at_] 59)
          have hst := wrUpto_succ ho
          have HO := Lib.hid ho; clear ho
          by_cases hk2 : o.kind = 2
          · have hkb : (o.kind == 2) = true := by simp [hk2]
            have HK2 := Lib.hid hk2; clear hk2
            obtain ⟨W8, hW8⟩ : ∃ W8, W8 = wr.alloc (.cells #[.int .i64 o.kind, .string o.ver.key, .int .i64 o.ver.frm, .int .i64 o.ver.nth, .bool o.dead, .string o.value, .string o.hi, .slice sA o.seen.length sc, .int .u64 o.at_] 59) := ⟨_, rfl⟩
            rw [← hW8] at hopb
            have hz8 : W8.heap.size = wr.heap.size + 1 := by rw [hW8]; simp
            have hc8 : Chg (fun _ => False) wr W8 := by rw [hW8]; exact (Chg.refl _ _).alloc _
            have hb8 : W8.heap[wr.heap.size]? = some (.cells #[.int .i64 o.kind, .string o.ver.key, .int .i64 o.ver.frm, .int .i64 o.ver.nth, .bool o.dead, .string o.value, .string o.hi, .slice sA o.seen.length sc, .int .u64 o.at_] 59) := by rw [hW8]; exact heap_alloc_new _ _
            have hm8 := hm.chg hc8 (fun _ _ f => f)
            obtain ⟨F, hSl, hF, hstep⟩ := hm8.at_ o.ver.key
            have hkm := hm8.2.1
            obtain ⟨V, hV⟩ : ∃ V, V = (kget Lm o.ver.key).getD (.slice none 0 0) := ⟨_, rfl⟩
            rw [← hV] at hSl
            obtain ⟨q, qf⟩ := cells_of (cs := [.int .i64 o.kind, .string o.ver.key, .int .i64 o.ver.frm, .int .i64 o.ver.nth, .bool o.dead, .string o.value, .string o.hi, .slice sA o.seen.length sc, .int .u64 o.at_]) hb8
            have q1 := q 1
            have q4 := q 4
            have q5 := q 5
            clear q qf
            have lk : ∀ W : World, W.heap[wo.heap.size + 1]? = W8.heap[wo.heap.size + 1]? → (Instr.lookup 159 (.map (some (wo.heap.size + 1))) (.string o.ver.key) false).run Tryz.prog W = .ok V W := fun W e => by
              have := run_lookup_kmap kString Tryz.underlying159 (zero_slice_wrote W) (hkm.keep e) o.ver.key false
              rw [hV]
              exact this
            have lk1 := lk W8.drew rfl
            have lk2 := lk (W8.alloc (.cells #[.int .i64 j, .bool o.dead, .string o.value] 129)).drew (heap_alloc_lt (by omega))
            have hlen := wrUpto_len x j o.ver.key
            have HF := Lib.hid hF
            have HST := Lib.hid hst; clear hst
            have HSTEP := Lib.hid hstep; clear hstep hF lk
            have HV := Lib.hid hV; clear hV
            have HW8 := Lib.hid hW8; clear hW8
            go_wp2
            rw [← HW8.out]
            have hSlA : Sl (W8.alloc (.cells #[.int .i64 j, .bool o.dead, .string o.value] 129)).drew _ _ _ _ _ _ := hSl.chg (((Chg.refl (fun _ => False) W8).alloc (.cells #[.int .i64 j, .bool o.dead, .string o.value] 129)).drew) (fun _ _ f => f)
            have hrdA : Reads (W8.alloc (.cells #[.int .i64 j, .bool o.dead, .string o.value] 129)).drew (W8.heap.size + 1) 3 (some ⟨wr.heap.size + 1, 0, none⟩) 1 [.int .i64 j, .bool o.dead, .string o.value] := by
              rw [← hz8]
              exact reads_new W8 [.int .i64 j, .bool o.dead, .string o.value] 3 rfl 129
            have hone : ∀ u ∈ [Value.int .i64 j, .bool o.dead, .string o.value], u.oneCell' = true := by intro u hu; simp at hu; rcases hu with rfl | rfl | rfl <;> rfl
            have hmx : (wrUpto x j o.ver.key).length + 1 ≤ maxLen := by simp only [maxLen]; omega
            have hby : ((wrUpto x j o.ver.key).length + 1) * 32 ≤ 140737488355328 := by omega
            have hAP := Lib.hid (And.intro hSlA (And.intro hrdA (And.intro hone (And.intro hmx hby))))
            clear hSlA hrdA hone hmx hby
            go_region_held3 (fun w' => w'.cell? ⟨wr.heap.size, 1, none⟩ = some (.string o.ver.key) ∧ w'.cell? ⟨wr.heap.size, 4, none⟩ = some (.bool o.dead) ∧ w'.cell? ⟨wr.heap.size, 5, none⟩ = some (.string o.value)) (first | exact ⟨q1, q4, q5⟩ | exact ⟨r1, r4, r5⟩ | exact ⟨s1, s4, s5⟩ | go_keep)
              (first
                | (rw [if_pos (by rfl)]; refine wp_append_sl _ (.tmp 45) (.tmp 52) 160 rfl 129 i0 z0 3 32 Tryz.underlying160 j0 j1 j2 j3 j4 (by omega) V _ _ F rfl hAP.out.1 _ _ 1 1 [.int .i64 j, .bool o.dead, .string o.value] rfl hAP.out.2.1 hAP.out.2.2.1 hAP.out.2.2.2.1 hAP.out.2.2.2.2 ?_
                   intro v2 w4 F4 hs4 hc4 hf4 hnz4
                   have hc48 : Chg F W8 w4 := ((((Chg.refl (fun _ => False) W8).alloc _).drew).mono (G := F) (fun _ _ h => h.elim)).trans hc4 (fun _ _ h => h)
                   have hk4 := hkm.chg hc48 (fun h => (HF.out _ h).2 rfl)
                   obtain ⟨w5, hrun5, hk5, hc5⟩ := run_store_kmap kString Tryz.underlying159 hk4 o.ver.key v2
                   have hrun5' : (Instr.mapUpdate 159 (.map (some (wo.heap.size + 1))) (.string o.ver.key) v2).run Tryz.prog w4 = .ok () w5 := hrun5
                   have hb4 := (hc48.block wr.heap.size (by omega) (fun h => by have := (HF.out _ h).1; omega)).trans hb8
                   have hb5 := (hc5.block wr.heap.size (lt_of_heap hb4) (by omega)).trans hb4
                   obtain ⟨r, rf⟩ := cells_of (cs := [.int .i64 o.kind, .string o.ver.key, .int .i64 o.ver.frm, .int .i64 o.ver.nth, .bool o.dead, .string o.value, .string o.hi, .slice sA o.seen.length sc, .int .u64 o.at_]) hb4
                   obtain ⟨s, sf⟩ := cells_of (cs := [.int .i64 o.kind, .string o.ver.key, .int .i64 o.ver.frm, .int .i64 o.ver.nth, .bool o.dead, .string o.value, .string o.hi, .slice sA o.seen.length sc, .int .u64 o.at_]) hb5
                   have r1 := r 1
                   have r4 := r 4
                   have r5 := r 5
                   have s1 := s 1
                   have s4 := s 4
                   have s5 := s 5
                   clear r rf s sf hrun5))
            all_goals (
              go_wp2
              have hFl : ∀ j, F j → wo.heap.size + 1 ≤ j := fun j hj => (HF.out j hj).1.1
              have hz5 := hc5.size
              have hz4 := hc48.size
              have hc5b : Below (wo.heap.size + 1) w4 w5 := hc5.below (fun j hj => by omega) (by omega)
              have hB5 : Below (wo.heap.size + 1) W1 w5 := hB2.trans (((hc8.below (fun _ f => f.elim) (by omega)).trans (hc48.below hFl (by omega))).trans hc5b)
              refine ⟨⟨j + 1, by omega, by simp, hB5, kset Lm o.ver.key v2, ?_⟩, by simp [intOf]; omega⟩
              have hown5 := HSTEP.out w4 w5 v2 (wrUpto x j o.ver.key ++ [⟨j, o.dead, o.value⟩]) F4 (by simp) (by simpa [wroteC] using hs4) (fun b hb => by
                rcases hf4 b hb with h | ⟨h, h'⟩
                · exact .inl h
                · refine .inr ⟨?_, h'⟩
                  have : W8.heap.size ≤ (W8.alloc (.cells #[.int .i64 j, .bool o.dead, .string o.value] 129)).drew.heap.size := by (show _ ≤ (W8.alloc _).heap.size); rw [World.size_alloc]; omega
                  omega) hc48 hk5 hc5 (fun b hb => by omega)
              have hfun : wrUpto x (j + 1) = fun k' => if k' = o.ver.key then wrUpto x j o.ver.key ++ [⟨j, o.dead, o.value⟩] else wrUpto x j k' := by
                funext k
                rw [HST.out]
                by_cases e : k = o.ver.key
                · subst e; rw [if_pos ⟨rfl, HK2.out⟩, if_pos rfl]
                · rw [if_neg (fun h => e h.1), if_neg e]
              rw [hfun]
              exact hown5.mono (fun b hb => by omega))
          · have hkb : (o.kind == 2) = false := by simp [hk2]
            have hfun : wrUpto x (j + 1) = wrUpto x j := by
              funext k
              rw [hst, if_neg (fun h => hk2 h.2)]
            have HK2 := Lib.hid hk2; clear hk2
            have HFUN := Lib.hid hfun; clear hfun hst
            go_wp2
            refine ⟨⟨j + 1, by omega, by simp, hB2.alloc (by omega) _, Lm, ?_⟩, by simp [intOf]; omega⟩
            rw [HFUN.out]
            exact (hm.chg ((Chg.refl (fun _ => False) _).alloc _) (fun _ _ f => f)).mono (fun b hb => by simp; omega)
        · obtain rfl : j = x.ops.length := by omega
          rw [wrUpto_all] at hm
          obtain ⟨wi, rfl⟩ : ∃ wi : World, wi = wr := ⟨_, rfl⟩
          have hI2 : OpenI w wi (w.heap.size + 1 + 1) (w.heap.size + 1) _ h t (insUpto h t) c := hI1.chg (Chg.of_below hB2) (fun j hj hF => by have := (hI.col j hj).2; omega) (fun j hj => by omega)
          obtain ⟨wv, mbs, hled, hlen, hSw, hwr⟩ := hI2.led
          obtain ⟨Aw, cw, rfl, hcw1, hcw2⟩ := hSw.shape
          have hlp1 := (hI2.col _ (by rw [hI2.lp1]; omega))
          have hlp2 := (hI.col _ (by rw [hI.lp1]; omega)).2
          have hb0 : ∀ j, c j ≠ 0 → j < wo.heap.size + 1 := fun j hj => by have := (hI.col j hj).2; omega
          have hbxr := (hB2.block wo.heap.size (by omega)).trans hbx
          obtain ⟨q, qf⟩ := cells_of hled
          have q1 := q 1
          have qf1 := qf 1
          obtain ⟨iw, zw, k0, k1, k2, k3, k4⟩ := info_of mapw_info
          have hobl := (hI2.col _ (by rw [hI2.ob4]; omega))
          have hol := (hI.col _ (by rw [hI.ob4]; omega)).2
          have hlne : w.heap.size + 1 + 1 < wi.heap.size := hlp1.2
          have HBX := Lib.hid hbxr; clear hbxr
          have HLED := Lib.hid hled; clear hled q qf
          go_upto_region 13 with (at_builtin; go_loud (first
            | (refine wpList_append_sl _ rfl (.tmp 59) (.tmp 61) 80 rfl 159 iw zw 1 8 Tryz.underlying80 k0 k1 k2 k3 k4 (by omega) _ _ _ _ rfl (hSw.chg ((Chg.refl (fun _ => False) _).alloc _) (fun _ _ f => f)) _ _ 1 1 [.map (some (wo.heap.size + 1))] rfl (reads_new _ [.map (some (wo.heap.size + 1))] 1 rfl _) (by intro u hu; simp at hu; subst hu; rfl) (by simp only [maxLen]; omega) (by omega) ?_; intro v2 w4 F4 hs4 hc4 hf4 hnz4
               have hc4r : Chg (fun j => c j = 2) wi w4 := (((Chg.refl (fun _ => False) wi).alloc _).mono (G := fun j => c j = 2) (fun _ _ h => h.elim)).trans hc4 (fun _ _ h => h)
               have hl4 : w4.heap[w.heap.size + 1 + 1]? = _ := (hc4r.block _ hlne (by rw [hI2.lp1]; omega)).trans HLED.out
               obtain ⟨p0, pf⟩ := cells_of hl4
               have p1 := p0 1
               have pf1 := pf 1
               have HL4 := Lib.hid hl4; clear hl4 p0 pf
               obtain ⟨A4, c4, rfl, hc4m, hc4n⟩ := hs4.shape)))
          obtain ⟨W5, hW5⟩ : ∃ W5, W5 = w4.setCell ⟨w.heap.size + 1 + 1, 1, none⟩ (.slice A4 (t + 1) c4) := ⟨_, rfl⟩
          rw [← hW5]
          have hsz4 := hc4r.size
          have hz5 : W5.heap.size = w4.heap.size := by rw [hW5]; simp [World.setCell]
          have hset5 : Chg (fun j => j = w.heap.size + 1 + 1) w4 W5 := by rw [hW5]; exact (Chg.refl _ _).setCell _ _ (fun _ => rfl)
          have hI5 := hI2.push HX.out hm hb0 (by omega) (by omega) _ mbs HLED.out hlen hwr (by simpa using hs4) hc4r (fun j hj => by
            rcases hf4 j hj with h | ⟨h, h'⟩
            · exact .inl h
            · rw [World.size_alloc] at h; exact .inr ⟨by omega, h'⟩)
          rw [← hW5] at hI5
          obtain ⟨c5, hc5e⟩ : ∃ c5, c5 = recol (recol c (wo.heap.size + 1) wi.heap.size 3) wi.heap.size w4.heap.size 2 := ⟨_, rfl⟩
          rw [← hc5e] at hI5
          have hcm : ∀ j, wo.heap.size + 1 ≤ j ∧ j < wi.heap.size → c5 j = 3 := fun j hj => by rw [hc5e, recol_out (by omega), recol_in hj.1 hj.2]
          have hcx : c5 wo.heap.size = 0 := by
            rw [hc5e, recol_out (by omega), recol_out (by omega)]
            rcases Nat.eq_zero_or_pos (c wo.heap.size) with h0 | h0
            · exact h0
            · have := (hI.col wo.heap.size (by omega)).2; omega
          have hcg5 : Chg (fun j => c j = 2 ∨ j = w.heap.size + 1 + 1) wi W5 := (hc4r.mono (fun _ _ h => .inl h)).trans hset5 (fun _ _ h => .inr h)
          have hm5 : OwnM Value.string 129 3 wroteC W5 (wo.heap.size + 1) (writes x) (fun j => wo.heap.size + 1 ≤ j ∧ j < wi.heap.size) Lm := hm.chg hcg5 (fun j hj h => by
            rcases h with h | h
            · have := hb0 j (by omega); omega
            · omega)
          have hbx5 := (hcg5.block wo.heap.size (by omega) (fun h => by
            rcases h with h | h
            · have := (hI.col _ (show c wo.heap.size ≠ 0 by omega)).2; omega
            · omega)).trans HBX.out
          have hkm5 := hm5.2.1
          have HW5 := Lib.hid hW5; clear hW5
          have HZ5 := Lib.hid hz5; clear hz5
          have HCE := Lib.hid hc5e; clear hc5e
          have hm5k := hm5.2.2.1
          have hr5 : wi.heap.size ≤ W5.heap.size := hcg5.size
          have hcr : c5 W5.heap.size = 0 := by
            rcases Nat.eq_zero_or_pos (c5 W5.heap.size) with h0 | h0
            · exact h0
            · have := (hI5.col W5.heap.size (by omega)).2; omega
          clear hs4 hc4 hf4 hnz4 p1 pf1 q1 qf1 hSw
          obtain ⟨y, yf⟩ := cells_of (cs := [.int .i64 x.iso, .int .i64 x.fate, .int .u64 x.bgn, .int .u64 x.fin, .int .i64 x.bi, .int .i64 x.bo, .int .i64 x.ei, .int .i64 x.eo, .slice Ao x.ops.length co]) hbx5
          have y1 := y 1
          by_cases hft : x.fate = 1
          · have hfb : (x.fate != 1) = false := by simp [hft]
            have HFT := Lib.hid hft; clear hft
            clear y yf
            go_wp2_with (at_range; refine wpList_range_k _ _ _ _ rfl rfl Tryz.underlying159 _ rfl hkm5 ?_; intro o' hit0)
            obtain ⟨ii, zi, l0, l1, l2, l3, l4⟩ := info_of inst_info
            go_frame
            go_loopw [9, 10] (fun _ _ wr' => ∃ rem c', MIter Value.string wr' W5.heap.size (wo.heap.size + 1) Lm rem ∧ OpenI w wr' (w.heap.size + 1 + 1) (w.heap.size + 1) _ h (t + 1) (ordPart h t x rem) c' ∧ c' W5.heap.size = 0 ∧ c' wo.heap.size = 0 ∧ (∀ j, wo.heap.size + 1 ≤ j ∧ j < wi.heap.size → c' j = 3) ∧
              OwnM Value.string 129 3 wroteC wr' (wo.heap.size + 1) (writes x) (fun j => wo.heap.size + 1 ≤ j ∧ j < wi.heap.size) Lm ∧ wr'.heap[wo.heap.size]? = some (.cells #[.int .i64 x.iso, .int .i64 x.fate, .int .u64 x.bgn, .int .u64 x.fin, .int .i64 x.bi, .int .i64 x.bo, .int .i64 x.ei, .int .i64 x.eo, .slice Ao x.ops.length co] 53))
              (fun _ _ wr' => wr'.rangeLeft (wo.heap.size + 1) W5.heap.size)
            case atStart =>
              refine ⟨Lm, c5, hit0, ?_, hcr, hcx, hcm, hm5.chg ((Chg.refl (fun _ => False) _).alloc _) (fun _ _ f => f), (heap_alloc_lt (by omega)).trans hbx5⟩
              rw [ordPart_start hm5k]
              exact hI5.below (bel1 _ _)
            case round =>
              obtain ⟨rem, c', hit, hI6, hcr6, hcx6, hcm6, hm6, hbx6⟩ := hrel
              have hst := hit.left
              have HLEFT := Lib.hid hst; clear hst
              go_wp2_with (at_next; refine wpList_next_k _ rfl rfl rfl hit ?_ ?_)
              · intro h0r
                subst h0r
                rw [ordPart_done HX.out] at hI6
                go_wp2
                exact ⟨⟨t + 1, by omega, by simp, c', hI6⟩, by simp [intOf]; omega⟩
              · intro pk pv hp w2 hit2 hc2 hz2 hen
                have hI7 := hI6.chg hc2 (fun j hj e => by subst e; exact hj hcr6) (fun j hj => by subst hj; have := hI5.bel.size; omega)
                have hm7 := hm6.chg hc2 (fun j hj e => by omega)
                have hbx7 := (hc2.block wo.heap.size (lt_of_heap hbx6) (by omega)).trans hbx6
                have hpk : pk ∈ rem.map (·.1) := List.mem_map_of_mem (f := (·.1)) hp
                have hpkL : (pk, pv) ∈ Lm := hit.sub.subset hp
                obtain ⟨_, hkmm, hml, colm, hm71, hm72, _⟩ := hm7
                have hne : writes x pk ≠ [] := (hml pk).1 (List.mem_map_of_mem (f := (·.1)) hpkL)
                have hSp := hm71 pk
                rw [kget_mem hkmm.nodup hpkL, Option.getD_some] at hSp
                obtain ⟨m, hmlen⟩ : ∃ m, (writes x pk).length = m + 1 := ⟨(writes x pk).length - 1, by have := List.length_pos_iff.2 hne; omega⟩
                obtain ⟨u, hu⟩ : ∃ u, (writes x pk)[m]? = some u := ⟨_, List.getElem?_eq_getElem (by omega)⟩
                have hone := insOne_last (t := t) HFT.out (by rw [List.getLast?_eq_getElem?, hmlen]; exact hu)
                obtain ⟨g, off, cap, hv, hg, z0, z1, z2⟩ := (Rows.of_sl (enc := wroteC) (size := 3) (fun _ => rfl) hSp (Nat.le_refl _)).get3 hu (wr := w2) (fun _ _ => rfl) rfl
                have hgC : wo.heap.size + 1 ≤ g ∧ g < wi.heap.size := by
                  rcases hSp.2 with ⟨h1, _⟩ | ⟨g', off', cap', cur', h1, h2, _⟩
                  · rw [hv] at h1; cases h1
                  · rw [hv] at h1; cases h1; exact (hm72 _ _ h2).1
                have hwl := wrUpto_len x x.ops.length pk
                rw [wrUpto_all] at hwl
                obtain ⟨nw, hnw⟩ : ∃ nw, nw = (writes x pk).length := ⟨_, rfl⟩
                rw [← hnw] at hv hmlen hwl
                subst hv
                have hmw : IntKind.i64.wrap ((nw : Int) - 1) = m := by
                  rw [show (nw : Int) - 1 = m by omega]
                  rw [IntKind.wrap_i64]; omega
                have hml2 : (m : Int) < nw := by omega
                have HNW := Lib.hid hnw; clear hnw
                have hml0 : (0 : Int) ≤ m := by omega
                obtain ⟨Lo, hord⟩ := hI7.ord
                obtain ⟨F, hSl, hF, hstep⟩ := hord.at_ pk
                rw [ordPart_in hpk] at hSl
                have hko := hord.2.1
                obtain ⟨V, hV⟩ : ∃ V, V = (kget Lo pk).getD (.slice none 0 0) := ⟨_, rfl⟩
                rw [← hV] at hSl
                obtain ⟨wv7, mbs7, hled7, _⟩ := hI7.led
                have hlp7 := (hI7.col _ (by rw [hI7.lp1]; omega)).2
                have q2 := (cells_of hled7).1 2
                obtain ⟨y, yf⟩ := cells_of (cs := [.int .i64 x.iso, .int .i64 x.fate, .int .u64 x.bgn, .int .u64 x.fin, .int .i64 x.bi, .int .i64 x.bo, .int .i64 x.ei, .int .i64 x.eo, .slice Ao x.ops.length co]) hbx7
                have y3 := y 3
                clear y yf y1
                have lk : ∀ W : World, W.heap[w.heap.size + 1]? = w2.heap[w.heap.size + 1]? → (Instr.lookup 81 (.map (some (w.heap.size + 1))) (.string pk) false).run Tryz.prog W = .ok V W := fun W e => by
                  have := run_lookup_kmap kString Tryz.underlying81 (zero_slice_inst W) (hko.keep e) pk false
                  rw [hV]
                  exact this
                have lk1 := lk w2.drew rfl
                have lk2 := lk (w2.alloc (.cells #[.int .i64 t, .int .u64 x.fin, .bool u.dead] 125)).drew (heap_alloc_lt (by have := hko.lt; omega))
                have hlen := insUpto_len h t pk
                have hSlA : Sl (w2.alloc (.cells #[.int .i64 t, .int .u64 x.fin, .bool u.dead] 125)).drew _ _ _ _ _ _ := hSl.chg (((Chg.refl (fun _ => False) w2).alloc (.cells #[.int .i64 t, .int .u64 x.fin, .bool u.dead] 125)).drew) (fun _ _ f => f)
                have hrdA : Reads (w2.alloc (.cells #[.int .i64 t, .int .u64 x.fin, .bool u.dead] 125)).drew (w2.heap.size + 1) 3 (some ⟨w2.heap.size, 0, none⟩) 1 [.int .i64 t, .int .u64 x.fin, .bool u.dead] := reads_new w2 [.int .i64 t, .int .u64 x.fin, .bool u.dead] 3 rfl 125
                have hone' : ∀ u' ∈ [Value.int .i64 t, .int .u64 x.fin, .bool u.dead], u'.oneCell' = true := by intro u' hu; simp at hu; rcases hu with rfl | rfl | rfl <;> rfl
                have hmx : (insUpto h t pk).length + 1 ≤ maxLen := by simp only [maxLen]; omega
                have hby : ((insUpto h t pk).length + 1) * 24 ≤ 140737488355328 := by omega
                have hAP := Lib.hid (And.intro hSlA (And.intro hrdA (And.intro hone' (And.intro hmx hby))))
                clear hSlA hrdA hone' hmx hby
                have HF := Lib.hid hF
                have HSTEP := Lib.hid hstep; clear hstep hF lk hm71 hm72 hml
                have HV := Lib.hid hV; clear hV
                have HM := Lib.hid hmlen; clear hmlen
                have HU := Lib.hid hu; clear hu
                have HONE := Lib.hid hone; clear hone
                have HZ2 := Lib.hid hz2; clear hz2
                go_upto_region 17 with fail
                go_region_held3 (fun w' => w'.cell? ⟨w.heap.size + 1 + 1, 2, none⟩ = some (.map (some (w.heap.size + 1))) ∧ w'.cell? ⟨wo.heap.size, 3, none⟩ = some (.int .u64 x.fin) ∧ w'.cell? ⟨g, off + m * 3 + 1, none⟩ = some (.bool u.dead)) (first | exact ⟨q2, y3, z1⟩ | exact ⟨r2, r3, rz⟩ | exact ⟨s2, s3, sz⟩ | go_keep)
                  (first
                    | (rw [if_pos (by rfl)]; refine wp_append_sl _ (.tmp 85) (.tmp 97) 123 rfl 125 ii zi 3 24 Tryz.underlying123 l0 l1 l2 l3 l4 (by omega) V _ _ F rfl hAP.out.1 _ _ 1 1 [.int .i64 t, .int .u64 x.fin, .bool u.dead] rfl hAP.out.2.1 hAP.out.2.2.1 hAP.out.2.2.2.1 hAP.out.2.2.2.2 ?_
                       intro v2 w4 F4 hs4 hc4 hf4 hnz4
                       have hc47 : Chg F w2 w4 := ((((Chg.refl (fun _ => False) w2).alloc _).drew).mono (G := F) (fun _ _ h => h.elim)).trans hc4 (fun _ _ h => h)
                       have hk4 := hko.chg hc47 (fun h => (HF.out _ h).2 rfl)
                       obtain ⟨w6, hrun6, hk6, hc6⟩ := run_store_kmap kString Tryz.underlying81 hk4 pk v2
                       have hrun6' : (Instr.mapUpdate 81 (.map (some (w.heap.size + 1))) (.string pk) v2).run Tryz.prog w4 = .ok () w6 := hrun6
                       have hF4 : ∀ j, F j → c' j = 4 := fun j hj => (HF.out j hj).1
                       have el : w4.heap[w.heap.size + 1 + 1]? = w2.heap[w.heap.size + 1 + 1]? := hc47.block _ hlp7 (fun h => by have := hF4 _ h; have := hI7.lp1; omega)
                       have ex : w4.heap[wo.heap.size]? = w2.heap[wo.heap.size]? := hc47.block _ (lt_of_heap hbx7) (fun h => by have := hF4 _ h; omega)
                       have eg : w4.heap[g]? = w2.heap[g]? := hc47.block _ hg (fun h => by have := hF4 _ h; have := hcm6 g hgC; omega)
                       have hz47 := hc47.size
                       have el6 : w6.heap[w.heap.size + 1 + 1]? = w2.heap[w.heap.size + 1 + 1]? := (hc6.block _ (by omega) (by omega)).trans el
                       have ex6 : w6.heap[wo.heap.size]? = w2.heap[wo.heap.size]? := (hc6.block _ (by have := lt_of_heap hbx7; omega) (by omega)).trans ex
                       have eg6 : w6.heap[g]? = w2.heap[g]? := (hc6.block _ (by omega) (by omega)).trans eg
                       have r2 := (World.cell?_of_block (a := ⟨w.heap.size + 1 + 1, 2, none⟩) el).trans q2
                       have r3 := (World.cell?_of_block (a := ⟨wo.heap.size, 3, none⟩) ex).trans y3
                       have rz := (World.cell?_of_block (a := ⟨g, off + m * 3 + 1, none⟩) eg).trans z1
                       have s2 := (World.cell?_of_block (a := ⟨w.heap.size + 1 + 1, 2, none⟩) el6).trans q2
                       have s3 := (World.cell?_of_block (a := ⟨wo.heap.size, 3, none⟩) ex6).trans y3
                       have sz := (World.cell?_of_block (a := ⟨g, off + m * 3 + 1, none⟩) eg6).trans z1
                       clear hrun6 el ex eg))
                all_goals (
                  go_wp2
                  have hcg : Chg (fun j => c' j = 4) w2 w6 := (hc47.mono (fun j _ hj => hF4 j hj)).trans hc6 (fun j _ hj => by subst hj; exact hI7.ob4)
                  have hit6 := hit2.chg hcg (fun h => by have := hcm6 (wo.heap.size + 1) (by have := hm6.1; omega); omega) (by omega)
                  have hown6 := HSTEP.out w4 w6 v2 (insUpto h t pk ++ insOne t x pk) F4 (by rw [HONE.out]; simp) (by rw [HONE.out]; simpa [instC] using hs4) (fun b hb => by
                    rcases hf4 b hb with h | ⟨h, h'⟩
                    · exact .inl h
                    · refine .inr ⟨?_, h'⟩
                      have : w2.heap.size ≤ (w2.alloc (.cells #[.int .i64 t, .int .u64 x.fin, .bool u.dead] 125)).drew.heap.size := by (show _ ≤ (w2.alloc _).heap.size); rw [World.size_alloc]; omega
                      omega) hc47 hk6 hc6 (fun b hb => (hI7.col b (by omega)).2)
                  have hI8 := hI7.order pk hown6 hc47 hF4 hc6
                  rw [← ordPart_del] at hI8
                  refine ⟨⟨kdel rem pk, recol c' w2.heap.size w4.heap.size 4, hit6, hI8, ?_, ?_, fun j hj => ?_, ?_, ex6.trans hbx7⟩, ?_⟩
                  · rw [recol_out (by have := hit2.ltr; omega)]; exact hcr6
                  · rw [recol_out (by have := lt_of_heap hbx7; omega)]; exact hcx6
                  · have := hI7.col j (by rw [hcm6 j hj]; omega)
                    rw [recol_out (by omega)]; exact hcm6 j hj
                  · exact (hm6.chg hc2 (fun j hj e => by have := hcm6 j hj; subst e; omega)).chg hcg (fun j hj h => by have := hcm6 j hj; omega)
                  · have hkl := kdel_len hit.nodup hp
                    dsimp only at hkl
                    rw [hit6.left, HLEFT.out]
                    omega)
          · have hfb : (x.fate != 1) = true := by simp [hft]
            have hfun : insUpto h (t + 1) = insUpto h t := by funext k; rw [insUpto_succ HX.out, insOne_com hft, List.append_nil]
            have HFT := Lib.hid hft; clear hft
            have HFUN := Lib.hid hfun; clear hfun
            clear y yf
            go_wp2
            exact ⟨⟨t + 1, by omega, by simp, c5, by rw [HFUN.out]; exact hI5⟩, by simp [intOf]; omega⟩
    · obtain rfl : t = h.length := by omega
      obtain ⟨Lo, hord⟩ := hI.ord
      have hkm := hord.2.1
      have hml := hord.2.2.1
      obtain ⟨wv, mbs, hled, _⟩ := hI.led
      have hlp1 := (hI.col _ (by rw [hI.lp1]; omega)).2
      have q2 := (cells_of hled).1 2
      have hcr : c wo.heap.size = 0 := by
        rcases Nat.eq_zero_or_pos (c wo.heap.size) with h0 | h0
        · exact h0
        · have := (hI.col wo.heap.size (by omega)).2; omega
      clear hled
      go_wp2_with (at_range; refine wpList_range_k _ _ _ _ rfl rfl Tryz.underlying81 _ rfl hkm ?_; intro o' hit0)
      go_frame
      go_loopw [12] (fun _ wr => ∃ rem, MIter Value.string wr wo.heap.size (w.heap.size + 1) Lo rem ∧ OpenI w wr (w.heap.size + 1 + 1) (w.heap.size + 1) _ h h.length (sortPart h rem) c ∧ OwnM Value.string 125 3 instC wr (w.heap.size + 1) (sortPart h rem) (fun j => c j = 4) Lo)
        (fun _ wr => wr.rangeLeft (w.heap.size + 1) wo.heap.size)
      case atStart =>
        refine ⟨Lo, hit0, ?_, ?_⟩
        · rw [sortPart_start hml]; exact hI.below (bel1 _ _)
        · rw [sortPart_start hml]; exact hord.chg ((Chg.refl (fun _ => False) _).alloc _) (fun _ _ f => f)
      case round =>
        obtain ⟨rem, hit, hI6, hord6⟩ := hrel
        have HLEFT := Lib.hid hit.left
        go_wp2_with (at_next; refine wpList_next_k _ rfl rfl rfl hit ?_ ?_)
        · intro h0r
          subst h0r
          rw [sortPart_done] at hI6 hord6
          have hkm6 := hord6.2.1
          obtain ⟨wv7, mbs7, hled7, _⟩ := hI6.led
          have hlp7 := (hI6.col _ (by rw [hI6.lp1]; omega)).2
          have r2 := (cells_of hled7).1 2
          have hnd : (Lo.map (·.1)).Nodup := hkm.nodup
          have hkl := keys_bound hn hops hnd hml
          have HLED := Lib.hid hled7; clear hled7
          obtain ⟨wk, rfl⟩ : ∃ wk : World, wk = wr := ⟨_, rfl⟩
          have hk8 : KMap Value.string (wk.alloc (.cells #[.map (some (w.heap.size + 1))] 81)) (w.heap.size + 1) Lo := hkm6.keep (heap_alloc_lt hkm6.lt)
          have hS := Lib.hid (sortedI_ hk8 (heap_alloc_new wk (.cells #[.map (some (w.heap.size + 1))] 81)) hkl)
          clear hk8 hkm6
          go_wp2_with (go_at_call 88; refine (keysI_ (some (w.heap.size + 1)) _).mono ?_; rintro e w1 ⟨rfl, rfl⟩)
          refine hS.out.mono ?_
          rintro e w8 ⟨kv, ss, rfl, hperm, hrow, hnil, hb8⟩
          have hl7 := hperm.length_eq
          have hperm2 : ss.Perm ((Lo.map (·.1)).map kb') := by
            rw [List.map_map]
            exact hperm
          have hkeys := sorted_keys hnd hml hperm2
          have hl8 := congrArg List.length hkeys
          rw [List.length_mergeSort, List.length_map] at hl8
          rw [hkeys, keys_flat, hl8] at hrow
          have hled8 := (hb8.block (w.heap.size + 1 + 1) (by rw [World.size_alloc]; omega)).trans ((heap_alloc_lt hlp7).trans HLED.out)
          obtain ⟨p0, pf⟩ := cells_of hled8
          have p3 := p0 3
          have pf3 := pf 3
          have HL8 := Lib.hid hled8; clear hled8 p0 pf
          have hsl := sl_of_owns hrow
          obtain ⟨A8, c8, rfl, hc81, hc82⟩ := hsl.shape
          have hI8 := hI6.below ((bel1 wk (.cells #[.map (some (w.heap.size + 1))] 81)).trans (hb8.mono (by simp)))
          have hbase : ∀ j, (wk.alloc (.cells #[.map (some (w.heap.size + 1))] 81)).heap.size ≤ j → j ≠ w.heap.size + 1 + 1 := fun j hj e => by rw [World.size_alloc] at hj; omega
          clear hnil hperm hperm2 hkeys hS hl7
          go_wp2
          go_ret
          obtain ⟨hL, hBl⟩ := openI_led (w9 := w8.setCell ⟨w.heap.size + 1 + 1, 3, none⟩ (.slice A8 (keysOf h).length c8)) (kv := .slice A8 (keysOf h).length c8) (F := fun j => (wk.alloc (.cells #[.map (some (w.heap.size + 1))] 81)).heap.size ≤ j) hI8 hh hB ((Chg.refl _ _).setCell _ _ (fun _ => rfl)) (fun wv hwv => by simpa using heap_setCell_same (i := 3) (v := .slice A8 (keysOf h).length c8) hwv) (hsl.chg (G := fun j => j = w.heap.size + 1 + 1) ((Chg.refl _ _).setCell _ _ (fun _ => rfl)) hbase)
          exact ⟨_, rfl, hL, hBl⟩
        · intro pk pv hp w2 hit2 hc2 hz2 hen
          have hI7 := hI6.chg hc2 (fun j hj e => by subst e; exact hj hcr) (fun j hj => by subst hj; exact hsz)
          have hord7 := hord6.chg hc2 (fun j hj e => by subst e; omega)
          have hpk : pk ∈ rem.map (·.1) := List.mem_map_of_mem (f := (·.1)) hp
          have hpkL : (pk, pv) ∈ Lo := hit.sub.subset hp
          have hpkK : pk ∈ Lo.map (·.1) := List.mem_map_of_mem (f := (·.1)) hpkL
          obtain ⟨F, hSl, hF, hstep⟩ := hord7.inPlace pk hpkK
          rw [kget_mem hkm.nodup hpkL, Option.getD_some] at hSl hstep
          rw [sortPart_in hpk] at hSl
          have hne := (hml pk).1 hpkK
          have hlen := insUpto_len h h.length pk
          have hpos : 0 < (insUpto h h.length pk).length := List.length_pos_iff.2 hne
          obtain ⟨g, off, cap, hv, hg⟩ : ∃ g off cap, pv = .slice (some ⟨g, off, none⟩) (insUpto h h.length pk).length cap ∧ g < w2.heap.size ∧ F g := by
            rcases hSl.2 with ⟨h1, h2⟩ | ⟨g', off', cap', cur', h1, h2, h3, _⟩
            · omega
            · exact ⟨g', off', cap', h1, lt_of_heap h3, h2⟩
          subst hv
          have hcall := Lib.hid (sortVers_ g off cap _ F w2 hSl hg.1 (by rw [insUpto_all]; exact insFrom_nodup h pk) (by omega))
          have HST := Lib.hid hstep; clear hstep
          have HLN := Lib.hid hlen; clear hlen
          go_wp2_with (go_at_call 86; with_reducible refine hcall.out.mono ?_; rintro e w6 ⟨rfl, hs6, hc6⟩)
          have hord8 := HST.out w6 (order h pk) (order_ne hne) (by rw [order_all, List.length_mergeSort]; exact hs6) (hc6.mono (fun j _ hj => by subst hj; exact hg.2))
          rw [← sortPart_del] at hord8
          have hcg : Chg (fun j => c j = 4) w2 w6 := hc6.mono (fun j _ hj => by subst hj; exact (hF _ hg.2).1)
          have hit6 : MIter Value.string w6 wo.heap.size (w.heap.size + 1) Lo (kdel rem pk) := by
            refine hit2.chg (hc6.mono (G := fun j => j = g) (fun _ _ h => h)) (fun e => (hF _ hg.2).2 e.symm) (fun e => ?_)
            have := (hF _ hg.2).1
            rw [← e] at this
            omega
          refine ⟨⟨kdel rem pk, hit6, openI_turn hI7 hord8 hcg, hord8⟩, ?_⟩
          · have hkl := kdel_len hit.nodup hp
            dsimp only at hkl
            rw [hit6.left, HLEFT.out]
            omega
end Go.Proofs.YtooigfkjdemnlaaGreatDoor
