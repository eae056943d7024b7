/- Own texts of this claim, joined in build order: Tw5. -/
import Derived.Test.YtooigfkjdemnlaaGreatDoorL31
import Derived.Test.YtooigfkjdemnlaaGreatDoorL33
set_option linter.all false
namespace Go.Proofs.YtooigfkjdemnlaaGreatDoor
set_option maxRecDepth 100000
open Go.RowKit Go.Lib Go.Sort Go.Shelf Xw

set_option maxHeartbeats 16000000 in
theorem toldLine_ {w : World} {B : Nat} {pv : Value} {p : List (List ActL)} (hp : LineV w B pv p) (hB : B ≤ w.heap.size) :
    Calls Tryz.prog 6 #[.agg #[pv]] w fun e w' => Below w.heap.size w w' ∧ ∃ v, e = .returned (.agg #[v]) ∧ HistV w' w'.heap.size v (toldH p) := by
  obtain ⟨PA, pc, rfl, hp1, hp2⟩ := Rows.shape hp
  simp only [maxLen] at hp2
  obtain ⟨c1, c2⟩ := cut40_le p.length
  have HP := Lib.hid hp
  clear hp
  go_enter Tryz.func6, Tryz.ntmps6
  go_wp2
  go_loopw [6, 7, 8, 9, 10, 11, 12, 13] (fun t' _ _ _ _ _ _ _ wr => ∃ t : Nat, t ≤ cut40 p.length ∧ t' = .int .i64 t ∧ ToldI w w.heap.size (.slice PA p.length pc) p t wr) (fun t' _ _ _ _ _ _ _ _ => 40 - (intOf t').toNat)
  case atStart => exact ⟨0, Nat.zero_le _, rfl, toldI_start w _ p _ rfl⟩
  case round =>
    obtain ⟨t, ht, rfl, hI⟩ := hrel
    have hsz := hI.sz
    have q0 := (cells_of (cs := [.slice PA p.length pc]) hI.b1).1 0
    have hN0 : w.heap.size < wr.heap.size := by omega
    by_cases hlt : t < cut40 p.length
    · have htp : t < p.length := by omega
      have ht40 : t < 40 := by omega
      obtain ⟨acs, has⟩ : ∃ acs, p[t]? = some acs := ⟨_, List.getElem?_eq_getElem htp⟩
      obtain ⟨b, o, c', sv, he, hb, p0, hr⟩ := HP.out.get has (wr := wr) (fun j hj => hI.bel.block j (by omega))
      cases he
      obtain ⟨SA, sc, rfl, hs1, hs2⟩ := hr.shape
      simp only [maxLen] at hs2
      have hbr : b < wr.heap.size := by omega
      have hti : (t : Int) < p.length := by omega
      have ht4 : (t : Int) < 40 := by omega
      have htm : Int.tmod (t : Int) 3 = (t : Int) % 3 := Int.tmod_eq_emod_of_nonneg (by omega)
      have HR := Lib.hid hr
      have HI := Lib.hid hI
      have HAS := Lib.hid has
      clear hr hI has
      obtain ⟨wo, rfl⟩ : ∃ wo : World, wo = wr := ⟨_, rfl⟩
      go_wp2
      obtain ⟨d1, d2⟩ := cut40_le acs.length
      go_loopw [9, 10, 11, 12, 13] (fun i' _ _ _ _ wr => ∃ i : Nat, i ≤ cut40 acs.length ∧ i' = .int .i64 i ∧ ToldJ wo w.heap.size wo.heap.size p t acs i wr) (fun i' _ _ _ _ _ => 40 - (intOf i').toNat)
      case atStart => exact ⟨0, Nat.zero_le _, rfl, toldJ_start wo _ p t acs _ HI.out.st hsz rfl⟩
      case round =>
        obtain ⟨i, hi, rfl, hJ⟩ := hrel
        have hcs := hJ.chg.size
        have hMs := hJ.sz
        have kb : ∀ j, j < wo.heap.size → j ≠ w.heap.size + 3 → j ≠ w.heap.size + 4 → wr.heap[j]? = wo.heap[j]? := fun j hj h3 h4 => hJ.chg.block j hj (by omega)
        have q0' := (World.cell?_of_block (a := ⟨w.heap.size, 0, none⟩) (kb w.heap.size hN0 (by omega) (by omega))).trans q0
        have hN1 : w.heap.size < wr.heap.size := by omega
        have hbB : b < w.heap.size := by omega
        have p0' := (World.cell?_of_block (a := ⟨b, o + t, none⟩) (kb b hbr (by omega) (by omega))).trans p0
        have hb1 : b < wr.heap.size := by omega
        by_cases hil : i < cut40 acs.length
        · have hia : i < acs.length := by omega
          have hi40 : i < 40 := by omega
          obtain ⟨a, ha⟩ : ∃ a, acs[i]? = some a := ⟨_, List.getElem?_eq_getElem hia⟩
          obtain ⟨b2, o2, c3, he2, hb2, a0, a1⟩ := acts_get HR.out ha (wr := wr) (fun j hj => kb j (by omega) (by omega) (by omega))
          cases he2
          have hb2r : b2 < wr.heap.size := by omega
          have hii : (i : Int) < acs.length := by omega
          have hi4 : (i : Int) < 40 := by omega
          obtain ⟨k, hk⟩ : ∃ k, k = keyOf a := ⟨_, rfl⟩
          obtain ⟨kd, hkd⟩ : ∃ kd, kd = kindOf a := ⟨_, rfl⟩
          have hk5 : k < 5 := by rw [hk]; exact keyOf_lt a
          have hkd4 : kd < 4 := by rw [hkd]; exact kindOf_lt a
          have hm5 : ∀ W : World, Calls Tryz.prog 16 #[.int .i64 a.key, .int .i64 5] W fun e w' => e = .returned (.int .i64 k) ∧ W = w' := fun W => by
            have := mod_ a.key 5 W (by omega) (by omega)
            rw [show a.key.emod 5 = (k : Int) by rw [hk, keyOf_cast]] at this
            exact this.mono fun e w' h => ⟨h.1, h.2.symm⟩
          have hm4 : ∀ W : World, Calls Tryz.prog 16 #[.int .i64 a.kind, .int .i64 4] W fun e w' => e = .returned (.int .i64 kd) ∧ W = w' := fun W => by
            have := mod_ a.kind 4 W (by omega) (by omega)
            rw [show a.kind.emod 4 = (kd : Int) by rw [hkd, kindOf_cast]] at this
            exact this.mono fun e w' h => ⟨h.1, h.2.symm⟩
          obtain ⟨s, hs⟩ : ∃ s, s = (txTo t (linTo p t).2 acs i).2 := ⟨_, rfl⟩
          obtain ⟨ops, hop⟩ : ∃ ops, ops = (txTo t (linTo p t).2 acs i).1 := ⟨_, rfl⟩
          have hst : StI wr (w.heap.size + 3) (w.heap.size + 4) 67 68 s := by rw [hs]; exact hJ.st
          have hct : CtI wr (wo.heap.size + 1) 69 (fun k' => (wrFrom ops (keyB k') 0).length) := by rw [hop]; exact hJ.ct
          have HS := Lib.hid (And.intro hs hop)
          have HST := Lib.hid hst
          have HCT := Lib.hid hct
          clear hs hop hst hct
          obtain ⟨W8, hW8⟩ : ∃ W8, W8 = wr.alloc (.cells #[.int .i64 a.kind, .int .i64 a.key] 72) := ⟨_, rfl⟩
          have hB8 : Below wr.heap.size wr W8 := by rw [hW8]; exact bel1 _ _
          have hz8 : W8.heap.size = wr.heap.size + 1 := by rw [hW8]; simp
          obtain ⟨ov, F, C, x0, x1, x2, x3, x4⟩ := hJ.xs
          have m2 : W8.cell? ⟨wo.heap.size, 2, none⟩ = some (.int .u64 (2 * t + 1)) := (World.cell?_of_block (a := ⟨wo.heap.size, 2, none⟩) (hB8.block wo.heap.size (by omega))).trans ((cells_of (cs := [.int .i64 (2 + t % 3), .int .i64 1, .int .u64 (2 * t + 1), .int .u64 (2 * t + 2), .int .i64 (4 * t + 1), .int .i64 (4 * t + 2), .int .i64 (4 * t + 3), .int .i64 (4 * t + 4), ov]) x0).1 2)
          have ab0 := (cells_of (cs := [.int .i64 a.kind, .int .i64 a.key]) (show W8.heap[wr.heap.size]? = some (.cells #[.int .i64 a.kind, .int .i64 a.key] 72) by rw [hW8]; exact heap_alloc_new _ _)).1 0
          have HX := Lib.hid (And.intro x0 (And.intro x1 (And.intro x2 (And.intro x3 x4))))
          have HM5 := Lib.hid hm5
          have HM4 := Lib.hid hm4
          have HJ := Lib.hid hJ
          have HA := Lib.hid ha
          have HKK := Lib.hid (And.intro hk hkd)
          have hMW : wo.heap.size < W8.heap.size := by omega
          have HZ8 := Lib.hid hz8
          have HW8 := Lib.hid hW8
          have HB8 := Lib.hid hB8
          have HKB := Lib.hid kb
          clear x0 x1 x2 x3 x4 hm5 hm4 hJ ha hk hkd hW8 hB8 kb hz8
          go_upto_region 14 with (go_at_call 16; refine (HM5.out _).mono ?_; rintro e w9 ⟨rfl, rfl⟩)
          rw [← HW8.out]
          go_cut [12] from 49 to 150 (fun v wx => ∃ ob, v = .pointer (some ⟨ob, 0, none⟩) ∧ wr.heap.size < ob ∧ ob < wx.heap.size ∧ wx.heap[ob]? = some (.cells #[.int .i64 3, .string (keyB k), .int .i64 0, .int .i64 0, .bool false, .string ⟨#[]⟩, .string ⟨#[]⟩, .slice none 0 0, .int .u64 (2 * t + 1)] 59) ∧ Below W8.heap.size W8 wx)
          case first =>
            have hMne : wo.heap.size ≠ W8.heap.size := by omega
            have hMWd : wo.heap.size < W8.drew.heap.size := hMW
            have m2d : W8.drew.cell? ⟨wo.heap.size, 2, none⟩ = some (.int .u64 (2 * t + 1)) := m2
            have hMW3 : ∀ o : Obj, wo.heap.size < (W8.alloc o).drew.heap.size := fun o => by show wo.heap.size < (W8.alloc o).heap.size; rw [World.size_alloc]; omega
            have hW83 : ∀ o : Obj, W8.heap.size < (W8.alloc o).drew.heap.size := fun o => by show W8.heap.size < (W8.alloc o).heap.size; rw [World.size_alloc]; omega
            have n3 : ∀ o : Obj, (W8.alloc o).drew.cell? ⟨wo.heap.size, 2, none⟩ = some (.int .u64 (2 * t + 1)) := fun o => (World.cell?_alloc_lt W8 o ⟨wo.heap.size, 2, none⟩ hMW).trans m2
            go_region_held3 (fun w' => w'.cell? ⟨wo.heap.size, 2, none⟩ = some (.int .u64 (2 * t + 1))) (first | with_reducible exact m2d | with_reducible exact n3 _ | with_reducible exact n2 | with_reducible exact n4 _ | with_reducible exact (keep9 hMne _ _ _ _ _ _ _ _ _).trans n2)
              (first
                | (go_at_call 17; refine (nameK_ k hk5 _).mono ?_
                   rintro e w9 ⟨rfl, hB9⟩
                   have hM9 : wo.heap.size < w9.heap.size := by with_reducible exact Nat.lt_of_lt_of_le hMWd hB9.size
                   have n2 : w9.cell? ⟨wo.heap.size, 2, none⟩ = some (.int .u64 (2 * t + 1)) := by with_reducible exact (hB9.cell (p := ⟨wo.heap.size, 2, none⟩) hMWd).trans m2d
                   have n4 : ∀ o : Obj, (w9.alloc o).cell? ⟨wo.heap.size, 2, none⟩ = some (.int .u64 (2 * t + 1)) := fun o => (World.cell?_alloc_lt w9 o ⟨wo.heap.size, 2, none⟩ hM9).trans n2)
                | (go_at_call 17; refine (nameK_ k hk5 _).mono ?_
                   rintro e w9 ⟨rfl, hB9⟩
                   have n2 : w9.cell? ⟨wo.heap.size, 2, none⟩ = some (.int .u64 (2 * t + 1)) := by with_reducible exact (hB9.cell (p := ⟨wo.heap.size, 2, none⟩) (hMW3 _)).trans (n3 _)
                   have g9 : w9.heap[W8.heap.size]? = some (.cells #[.int .i64 0, .string ⟨#[]⟩, .int .i64 0, .int .i64 0, .bool false, .string ⟨#[]⟩, .string ⟨#[]⟩, .slice none 0 0, .int .u64 0] 59) := (hB9.block W8.heap.size (hW83 _)).trans (heap_alloc_new W8 _)
                   have g9' := lt_of_heap g9
                   obtain ⟨b9, f9⟩ := cells_of (cs := [.int .i64 0, .string ⟨#[]⟩, .int .i64 0, .int .i64 0, .bool false, .string ⟨#[]⟩, .string ⟨#[]⟩, .slice none 0 0, .int .u64 0]) g9
                   have b90 : w9.cell? ⟨W8.heap.size, 0, none⟩ = some (.int .i64 0) := b9 0
                   have b91 : w9.cell? ⟨W8.heap.size, 1, none⟩ = some (.string ⟨#[]⟩) := b9 1
                   have b92 : w9.cell? ⟨W8.heap.size, 2, none⟩ = some (.int .i64 0) := b9 2
                   have b93 : w9.cell? ⟨W8.heap.size, 3, none⟩ = some (.int .i64 0) := b9 3
                   have b94 : w9.cell? ⟨W8.heap.size, 4, none⟩ = some (.bool false) := b9 4
                   have b95 : w9.cell? ⟨W8.heap.size, 5, none⟩ = some (.string ⟨#[]⟩) := b9 5
                   have b96 : w9.cell? ⟨W8.heap.size, 6, none⟩ = some (.string ⟨#[]⟩) := b9 6
                   have b97 : w9.cell? ⟨W8.heap.size, 7, none⟩ = some (.slice none 0 0) := b9 7
                   have b98 : w9.cell? ⟨W8.heap.size, 8, none⟩ = some (.int .u64 0) := b9 8
                   have HG9 := Lib.hid g9
                   clear g9 b9))
            · go_wp2_with (fail)
              go_meet
              case rel =>
                have h1 : Below W8.heap.size W8 w9 := (Below.refl _ _).drew.trans hB9
                have h2 := h1.size
                exact ⟨_, rfl, by have := HZ8.out; omega, by rw [World.size_alloc]; omega, heap_alloc_new _ _, h1.alloc h2 _⟩
            · go_wp2_with (fail)
              go_meet
              case rel =>
                obtain ⟨s1, s2⟩ := set9 HG9.out (.int .i64 3) (.string (keyB k)) (.int .i64 0) (.int .i64 0) (.bool false) (.string ⟨#[]⟩) (.string ⟨#[]⟩) (.slice none 0 0) (.int .u64 (2 * t + 1))
                have h1 : Below W8.heap.size W8 w9 := (bel1 W8 _).drew.trans (hB9.mono (Nat.le_of_lt (hW83 _)))
                exact ⟨W8.heap.size, rfl, by have := HZ8.out; omega, lt_of_heap s1, s1, h1.trans (s2.below (fun j hj => by omega) (Nat.le_of_lt g9'))⟩
          case rest =>
            obtain ⟨ob, rfl, ho1, ho2, ho3, hBo⟩ := hcut
            have ab1 := (hBo.cell (p := ⟨wr.heap.size, 0, none⟩) (by have := HZ8.out; show wr.heap.size < W8.heap.size; omega)).trans ab0
            have hwc : wr.heap.size < wc.heap.size := by omega
            have hCo : Chg (fun _ => False) wr wc := ((Chg.of_below HB8.out).mono (G := fun _ => False) (fun j hj h => by omega)).trans ((Chg.of_below hBo).mono (G := fun _ => False) (fun j hj h => by omega)) (fun _ _ f => f)
            have HCO := Lib.hid hCo
            have HO3 := Lib.hid ho3
            clear hBo hCo ho3
            go_upto_block 4 with (go_at_call 16; refine (HM4.out _).mono ?_; rintro e w9 ⟨rfl, rfl⟩)
            obtain ⟨wd, rfl⟩ : ∃ wd : World, wd = wc := ⟨_, rfl⟩
            go_cut [] from 49 to 150 (fun wx => BrR wr w.heap.size wo.heap.size ob (actSt t ops s (actOp t s a)) (fun k' => (wrFrom (ops ++ [actOp t s a]) (keyB k') 0).length) (actOp t s a) wx)
            case first =>
              have hN3 : w.heap.size + 3 < wr.heap.size := by omega
              have hN4 : w.heap.size + 4 < wr.heap.size := by omega
              have hM1 : wo.heap.size + 1 < wr.heap.size := by omega
              have hstc : StI wd (w.heap.size + 3) (w.heap.size + 4) 67 68 s := HST.out.keep (HCO.out.block _ hN3 (fun f => f)) (HCO.out.block _ hN4 (fun f => f))
              have hctc : CtI wd (wo.heap.size + 1) 69 (fun k' => (wrFrom ops (keyB k') 0).length) := HCT.out.keep (HCO.out.block _ hM1 (fun f => f))
              have HSTC := Lib.hid hstc
              have HCTC := Lib.hid hctc
              have hk5i : (k : Int) < 5 := by omega
              have hk0i : (0 : Int) ≤ k := by omega
              obtain ⟨o0, o0f⟩ := cells_of (cs := [.int .i64 3, .string (keyB k), .int .i64 0, .int .i64 0, .bool false, .string ⟨#[]⟩, .string ⟨#[]⟩, .slice none 0 0, .int .u64 (2 * t + 1)]) HO3.out
              have o00 : wd.cell? ⟨ob, 0, none⟩ = some (.int .i64 3) := o0 0
              have o01 : wd.cell? ⟨ob, 1, none⟩ = some (.string (keyB k)) := o0 1
              have o02 : wd.cell? ⟨ob, 2, none⟩ = some (.int .i64 0) := o0 2
              have o03 : wd.cell? ⟨ob, 3, none⟩ = some (.int .i64 0) := o0 3
              have o04 : wd.cell? ⟨ob, 4, none⟩ = some (.bool false) := o0 4
              have o05 : wd.cell? ⟨ob, 5, none⟩ = some (.string ⟨#[]⟩) := o0 5
              have o06 : wd.cell? ⟨ob, 6, none⟩ = some (.string ⟨#[]⟩) := o0 6
              have o07 : wd.cell? ⟨ob, 7, none⟩ = some (.slice none 0 0) := o0 7
              have o08 : wd.cell? ⟨ob, 8, none⟩ = some (.int .u64 (2 * t + 1)) := o0 8
              clear o0 hstc hctc
              have hkdc : kd = 0 ∨ kd = 1 ∨ kd = 2 ∨ kd = 3 := by omega
              have fin : ∀ (o : HOpr) (wx : World), o.kind ≠ 2 → actOp t s a = o → Chg (fun j => j = ob ∨ wr.heap.size ≤ j) wd wx → (∃ sv Fs, wx.heap[ob]? = some (.cells #[.int .i64 o.kind, .string o.ver.key, .int .i64 o.ver.frm, .int .i64 o.ver.nth, .bool o.dead, .string o.value, .string o.hi, sv, .int .u64 o.at_] 59) ∧ Sl wx 56 3 sv o.seen.length (o.seen.flatMap verC) Fs ∧ ∀ j, Fs j → wr.heap.size ≤ j ∧ j < wx.heap.size) → BrR wr w.heap.size wo.heap.size ob (actSt t ops s (actOp t s a)) (fun k' => (wrFrom (ops ++ [actOp t s a]) (keyB k') 0).length) (actOp t s a) wx := by
                intro o wx hk2 he hc ho
                rw [he, actSt_other hk2, wrLen_other hk2]
                refine ⟨(HCO.out.none).trans hc (fun j hj h => by omega), ho, HCTC.out.keep (hc.block _ (by omega) (by omega)), HSTC.out.keep (hc.block _ (by omega) (by omega)) (hc.block _ (by omega) (by omega))⟩
              have FIN := Lib.hid fin
              clear fin
              obtain ⟨c, hc⟩ : ∃ c, c = (wrFrom ops (keyB k) 0).length := ⟨_, rfl⟩
              have hcb : c ≤ 40 := by
                have h1 := wrFrom_len ops (keyB k) 0
                have h2 : ops.length = i := by rw [HS.out.2]; exact txTo_len i (by omega)
                omega
              have hcw : (c : Int) + 1 < 9223372036854775808 := by omega
              obtain ⟨W1, hW1⟩ : ∃ W1, W1 = wd.setCell ⟨wo.heap.size + 1, k, none⟩ (.int .i64 (c + 1)) := ⟨_, rfl⟩
              have hcc : Chg (fun j => j = wo.heap.size + 1) wd W1 := by rw [hW1]; exact (Chg.refl _ wd).setCell _ _ (fun _ => rfl)
              have hct1 : CtI W1 (wo.heap.size + 1) 69 (fun k' => if k' = k then c + 1 else (wrFrom ops (keyB k') 0).length) := by
                have := HCTC.out.set hk5 (c + 1)
                rw [hW1]
                exact this
              have q1d : W1.drew.cell? ⟨wo.heap.size + 1, k, none⟩ = some (.int .i64 (c + 1)) := by have := hct1.ct k hk5; rw [if_pos rfl] at this; exact this
              have hM1d : wo.heap.size + 1 < W1.drew.heap.size := by have := hcc.size; show _ < W1.heap.size; omega
              have hN3d : w.heap.size + 1 + 1 + 1 < W1.drew.heap.size := by have := hcc.size; show _ < W1.heap.size; omega
              have hMN3 : wo.heap.size + 1 ≠ w.heap.size + 1 + 1 + 1 := by omega
              have hsb : ∃ ar, W1.drew.heap[w.heap.size + 1 + 1 + 1]? = some (.cells ar 67 (0, 0)) ∧ ar.size = 15 := by
                obtain ⟨ar, h1, h2⟩ := HSTC.out.sblk
                exact ⟨ar, (hcc.block (w.heap.size + 3) (by omega) (by omega)).trans h1, h2⟩
              have HSB := Lib.hid hsb
              have HCT1 := Lib.hid hct1
              have HCC := Lib.hid hcc
              have HW1 := Lib.hid hW1
              have HCQ := Lib.hid hc
              have h3 := HCTC.out.ct k hk5
              simp only [← hc] at h3
              have HPK := Lib.hid (And.intro h3 (And.intro hcb (And.intro hcw (And.intro q1d (And.intro hM1d (And.intro hN3d hMN3))))))
              clear hsb hct1 hcc hW1 hc h3 hcb hcw q1d hM1d hN3d hMN3
              rcases hkdc with rfl | rfl | rfl | rfl
              · cases hsk : s (keyB k) with
                | some v =>
                  have th : wd.cell? ⟨w.heap.size + 1 + 1 + 1 + 1, k, none⟩ = some (.bool true) := by have := HSTC.out.th k hk5; rw [hsk] at this; exact this
                  obtain ⟨u0, u1, u2⟩ := HSTC.out.sv k hk5 v hsk
                  have u0 : wd.cell? ⟨w.heap.size + 1 + 1 + 1, k * 3, none⟩ = some (.string v.key) := u0
                  have u1 : wd.cell? ⟨w.heap.size + 1 + 1 + 1, k * 3 + 1, none⟩ = some (.int .i64 v.frm) := u1
                  have u2 : wd.cell? ⟨w.heap.size + 1 + 1 + 1, k * 3 + 2, none⟩ = some (.int .i64 v.nth) := u2
                  have HSK := Lib.hid hsk
                  clear hsk
                  have hob3 : ob ≠ w.heap.size + 1 + 1 + 1 := by omega
                  go_wp2
                  go_meet
                  case rel =>
                    refine FIN.out _ _ (show (1 : Int) ≠ 2 by decide) (actOp0 HKK.out.1 HKK.out.2 HSK.out) ?_ ⟨.slice none 0 0, fun _ => False, ?_, Sl.nil _ _ _ _, fun _ f => f.elim⟩
                    · exact (((((Chg.refl _ wd).setCell _ _ (fun _ => .inl rfl)).setCell _ _ (fun _ => .inl rfl)).setCell _ _ (fun _ => .inl rfl)).setCell _ _ (fun _ => .inl rfl)).setCell _ _ (fun _ => .inl rfl)
                    · have := heap_setCell_same (i := 5) (v := .string ⟨#[118]⟩) (heap_setCell_same (i := 3) (v := .int .i64 v.nth) (heap_setCell_same (i := 2) (v := .int .i64 v.frm) (heap_setCell_same (i := 1) (v := .string v.key) (heap_setCell_same (i := 0) (v := .int .i64 1) HO3.out))))
                      exact this
                | none =>
                  have th : wd.cell? ⟨w.heap.size + 1 + 1 + 1 + 1, k, none⟩ = some (.bool false) := by have := HSTC.out.th k hk5; rw [hsk] at this; exact this
                  have HSK := Lib.hid hsk
                  clear hsk
                  go_wp2_with (go_at_call 17; refine (nameK_ k hk5 _).mono ?_
                               rintro e w9 ⟨rfl, hB9⟩
                               have hc9 : Chg (fun _ => False) wd w9 := (Chg.of_below hB9).mono (fun j hj h => by omega)
                               have g9 := (hB9.block ob ho2).trans HO3.out
                               have ho9 : ob < w9.heap.size := lt_of_heap g9
                               obtain ⟨x9, f9⟩ := cells_of (cs := [.int .i64 3, .string (keyB k), .int .i64 0, .int .i64 0, .bool false, .string ⟨#[]⟩, .string ⟨#[]⟩, .slice none 0 0, .int .u64 (2 * t + 1)]) g9
                               have x96 : w9.cell? ⟨ob, 6, none⟩ = some (.string ⟨#[]⟩) := x9 6
                               have HC9 := Lib.hid hc9
                               have HG9 := Lib.hid g9
                               clear hc9 g9 x9)
                  go_meet
                  case rel =>
                    refine FIN.out _ _ (show (3 : Int) ≠ 2 by decide) (actOp0n HKK.out.1 HKK.out.2 HSK.out) ?_ ⟨.slice none 0 0, fun _ => False, ?_, Sl.nil _ _ _ _, fun _ f => f.elim⟩
                    · exact HC9.out.none.setCell _ _ (fun _ => .inl rfl)
                    · have := heap_setCell_same (i := 6) (v := .string (keyB k ++ ⟨#[0]⟩)) HG9.out
                      rw [hi_eq k hk5] at this ⊢
                      exact this
              · obtain ⟨h3, hcb, hcw, q1d, hM1d, hN3d, hMN3⟩ := HPK.out
                have h3f : ∀ i, wd.frozen? ⟨wo.heap.size + 1, i, none⟩ = false := by obtain ⟨ar, har, _⟩ := HCTC.out.blk; exact fun i => frozen_no har i
                go_upto_region 30 with (fail)
                rw [← HW1.out]
                have HC1 := Lib.hid h3
                clear h3 h3f o00 o01 o02 o03 o04 o05 o06 o07 o08 o0f
                go_region_held3 (fun w' => w'.cell? ⟨wo.heap.size + 1, k, none⟩ = some (.int .i64 (c + 1))) (first | with_reducible exact q1d | with_reducible exact n2 | with_reducible exact (keep3 hMN3 _ _ _).trans n2)
                  ((go_at_call 17; refine (nameK_ k hk5 _).mono ?_
                    rintro e w9 ⟨rfl, hB9⟩
                    have n2 : w9.cell? ⟨wo.heap.size + 1, k, none⟩ = some (.int .i64 (c + 1)) := by with_reducible exact (hB9.cell (p := ⟨wo.heap.size + 1, k, none⟩) hM1d).trans q1d
                    obtain ⟨ar, har, hars⟩ := HSB.out
                    have g9 := (hB9.block (w.heap.size + 1 + 1 + 1) hN3d).trans har
                    have f9 : ∀ i, w9.frozen? ⟨w.heap.size + 1 + 1 + 1, i, none⟩ = false := fun i => frozen_no g9 i
                    have e0 : w9.cell? ⟨w.heap.size + 1 + 1 + 1, k * 3, none⟩ = some (ar[k * 3]'(by omega)) := (cell_of_row _ _ _ _ _ _ g9).trans (Array.getElem?_eq_getElem _)
                    have e1 : w9.cell? ⟨w.heap.size + 1 + 1 + 1, k * 3 + 1, none⟩ = some (ar[k * 3 + 1]'(by omega)) := (cell_of_row _ _ _ _ _ _ g9).trans (Array.getElem?_eq_getElem _)
                    have e2 : w9.cell? ⟨w.heap.size + 1 + 1 + 1, k * 3 + 2, none⟩ = some (ar[k * 3 + 2]'(by omega)) := (cell_of_row _ _ _ _ _ _ g9).trans (Array.getElem?_eq_getElem _)
                    have HG9 := Lib.hid g9
                    have HB9 := Lib.hid hB9
                    clear g9 har hB9))
                have hB9 := HB9.out
                have hB91 : Below W1.heap.size W1 w9 := (Below.refl _ _).drew.trans hB9
                obtain ⟨X3, hX3⟩ : ∃ X3, X3 = (((w9.setCell ⟨w.heap.size + 1 + 1 + 1, k * 3, none⟩ (.string (keyB k))).setCell ⟨w.heap.size + 1 + 1 + 1, k * 3 + 1, none⟩ (.int .i64 t)).setCell ⟨w.heap.size + 1 + 1 + 1, k * 3 + 2, none⟩ (.int .i64 (c + 1))) := ⟨_, rfl⟩
                rw [← hX3]
                have hC9 : Chg (fun j => j = wo.heap.size + 1) wd w9 := HCC.out.trans ((Chg.of_below hB91).mono (G := fun _ => False) (fun j hj h => by omega)) (fun _ _ f => f.elim)
                have hCX : Chg (fun j => j = w.heap.size + 3) w9 X3 := by rw [hX3]; exact chg3 _ _ _
                have hC3 : Chg (fun j => j = wo.heap.size + 1 ∨ j = w.heap.size + 3) wd X3 := (hC9.mono (fun j _ h => .inl h)).trans hCX (fun j _ h => .inr h)
                have y1 : X3.cell? ⟨wr.heap.size, 0, none⟩ = some (.int .i64 a.kind) := (World.cell?_of_block (a := ⟨wr.heap.size, 0, none⟩) (hC3.block wr.heap.size hwc (by omega))).trans ab1
                obtain ⟨tr, htr, htrs⟩ := HSTC.out.tblk
                have gt := (hC3.block (w.heap.size + 4) (by omega) (by omega)).trans htr
                have fT : ∀ i, X3.frozen? ⟨w.heap.size + 1 + 1 + 1 + 1, i, none⟩ = false := fun i => frozen_no gt i
                obtain ⟨tv, cT⟩ : ∃ tv, X3.cell? ⟨w.heap.size + 1 + 1 + 1 + 1, k, none⟩ = some tv := ⟨_, (cell_of_row _ _ _ _ _ _ gt).trans (Array.getElem?_eq_getElem (show k < tr.size by omega))⟩
                have hst9 : StI w9 (w.heap.size + 3) (w.heap.size + 4) 67 68 s := HSTC.out.keep (hC9.block _ (by omega) (by omega)) (hC9.block _ (by omega) (by omega))
                obtain ⟨X4, hX4⟩ : ∃ X4, X4 = X3.setCell ⟨w.heap.size + 1 + 1 + 1 + 1, k, none⟩ (.bool true) := ⟨_, rfl⟩
                have hst4 : StI X4 (w.heap.size + 3) (w.heap.size + 4) 67 68 (put s (keyB k) (if false then none else some ⟨keyB k, t, ((c + 1 : Nat) : Int)⟩)) := by
                  rw [hX4]
                  exact hst9.set (by omega) hk5 ⟨keyB k, t, ((c + 1 : Nat) : Int)⟩ rfl keyB_inj false (w4 := X3) hX3 (w5 := X3) rfl rfl
                have hC4 : Chg (fun j => j = wo.heap.size + 1 ∨ j = w.heap.size + 3 ∨ j = w.heap.size + 4) wd X4 := by rw [hX4]; exact (hC3.mono (fun j _ h => h.elim .inl (fun h => .inr (.inl h)))).setCell _ _ (fun _ => .inr (.inr rfl))
                have hwr3 : wr.heap.size < X3.heap.size := Nat.lt_of_lt_of_le hwc hC3.size
                have q4d : X4.drew.cell? ⟨w.heap.size + 1 + 1 + 1 + 1, k, none⟩ = some (.bool true) := by rw [hX4]; exact cell_set_same gt (by omega) _
                have hN4d : w.heap.size + 1 + 1 + 1 + 1 < X4.drew.heap.size := by have := hC4.size; show _ < X4.heap.size; omega
                have hobd : ob < X4.drew.heap.size := by have := hC4.size; show _ < X4.heap.size; omega
                have go4 : X4.drew.heap[ob]? = some (.cells #[.int .i64 3, .string (keyB k), .int .i64 0, .int .i64 0, .bool false, .string ⟨#[]⟩, .string ⟨#[]⟩, .slice none 0 0, .int .u64 (2 * t + 1)] 59) := (hC4.block ob ho2 (by omega)).trans HO3.out
                have hN4ob : w.heap.size + 1 + 1 + 1 + 1 ≠ ob := by omega
                have hC19 : Chg (fun _ => False) W1 w9 := (Chg.of_below hB91).mono (fun j hj h => by omega)
                have hC13 : Chg (fun j => j = w.heap.size + 3 ∨ j = w.heap.size + 4) W1 X3 := hC19.none.trans hCX (fun j _ h => .inl h)
                have hC14 : Chg (fun j => j = w.heap.size + 3 ∨ j = w.heap.size + 4) W1 X4 := by rw [hX4]; exact hC13.setCell _ _ (fun _ => .inr rfl)
                have HC14 := Lib.hid hC14
                have HX3 := Lib.hid hX3
                have HX4 := Lib.hid hX4
                have HST4 := Lib.hid hst4
                have HC4 := Lib.hid hC4
                have HGO4 := Lib.hid go4
                have HC9 := Lib.hid hC9
                clear hC19 hC13 hC14 hX3 hX4 hst4 hC4 go4 hst9 hC3 hCX hC9 gt htr htrs hB9 hB91 e0 e1 e2 f9 n2 q1d hM1d hN3d hMN3 hcb hcw
                go_upto_region 32 with (go_at_call 16; refine (HM4.out _).mono ?_; rintro e w9 ⟨rfl, rfl⟩)
                rw [← HX4.out]
                clear y1 fT cT hwr3
                go_region_held3 (fun w' => w'.cell? ⟨w.heap.size + 1 + 1 + 1 + 1, k, none⟩ = some (.bool true)) (first | with_reducible exact q4d | with_reducible exact n4 | with_reducible exact (keep9 hN4ob _ _ _ _ _ _ _ _ _).trans n4)
                  ((go_at_call 17; refine (nameK_ k hk5 _).mono ?_
                    rintro e w10 ⟨rfl, hB10⟩
                    have n4 : w10.cell? ⟨w.heap.size + 1 + 1 + 1 + 1, k, none⟩ = some (.bool true) := by with_reducible exact (hB10.cell (p := ⟨w.heap.size + 1 + 1 + 1 + 1, k, none⟩) hN4d).trans q4d
                    have g10 := (hB10.block ob hobd).trans HGO4.out
                    obtain ⟨z0, f10⟩ := cells_of (cs := [.int .i64 3, .string (keyB k), .int .i64 0, .int .i64 0, .bool false, .string ⟨#[]⟩, .string ⟨#[]⟩, .slice none 0 0, .int .u64 (2 * t + 1)]) g10
                    have z00 : w10.cell? ⟨ob, 0, none⟩ = some (.int .i64 3) := z0 0
                    have z01 : w10.cell? ⟨ob, 1, none⟩ = some (.string (keyB k)) := z0 1
                    have z02 : w10.cell? ⟨ob, 2, none⟩ = some (.int .i64 0) := z0 2
                    have z03 : w10.cell? ⟨ob, 3, none⟩ = some (.int .i64 0) := z0 3
                    have z04 : w10.cell? ⟨ob, 4, none⟩ = some (.bool false) := z0 4
                    have z05 : w10.cell? ⟨ob, 5, none⟩ = some (.string ⟨#[]⟩) := z0 5
                    have z06 : w10.cell? ⟨ob, 6, none⟩ = some (.string ⟨#[]⟩) := z0 6
                    have z07 : w10.cell? ⟨ob, 7, none⟩ = some (.slice none 0 0) := z0 7
                    have z08 : w10.cell? ⟨ob, 8, none⟩ = some (.int .u64 (2 * t + 1)) := z0 8
                    have HG10 := Lib.hid g10
                    have HB10 := Lib.hid hB10
                    clear g10 z0 hB10))
                go_wp2_with (fail)
                go_meet
                case rel =>
                  obtain ⟨s1, s2⟩ := set9 HG10.out (.int .i64 2) (.string (keyB k)) (.int .i64 0) (.int .i64 0) (.bool false) (.string ⟨#[118]⟩) (.string ⟨#[]⟩) (.slice none 0 0) (.int .u64 0)
                  have hB10' : Below X4.heap.size X4 w10 := (Below.refl _ _).drew.trans HB10.out
                  have hC10 : Chg (fun j => j = ob) X4 _ := (((Chg.of_below hB10').mono (G := fun _ => False) (fun j hj h => by omega)).none).trans s2 (fun _ _ h => h)
                  have hz4 := HC4.out.size
                  have hzc := HCC.out.size
                  have hz9 := HC9.out.size
                  have hCd := HC4.out.mono (G := fun j => j = w.heap.size + 3 ∨ j = w.heap.size + 4 ∨ j = wo.heap.size + 1 ∨ j = ob) (fun j _ h => by omega)
                  have hCe := hCd.trans hC10 (fun j _ h => .inr (.inr (.inr h)))
                  rw [actOp12 HKK.out.1 HKK.out.2 (.inl rfl)]
                  refine ⟨(HCO.out.none (F := fun j => j = w.heap.size + 3 ∨ j = w.heap.size + 4 ∨ j = wo.heap.size + 1)).trans hCe (fun j hj h => by omega), ⟨.slice none 0 0, fun _ => False, s1, Sl.nil _ _ _ _, fun _ f => f.elim⟩, ?_, ?_⟩
                  · refine (HCT1.out.keep (w' := _) ?_).congr (fun k' hk' => ?_)
                    · exact (hC10.block (wo.heap.size + 1) (by omega) (by omega)).trans (HC14.out.block (wo.heap.size + 1) (by omega) (by omega))
                    · rw [wrLen_write hk5 rfl rfl hk', ← HCQ.out]
                  · have := HST4.out.keep (hC10.block _ (by omega) (by omega)) (hC10.block _ (by omega) (by omega))
                    have hact : actSt t ops s ⟨2, ⟨keyB k, 0, 0⟩, decide (1 = 2), vB, emB, [], 0⟩ = put s (keyB k) (if false then none else some ⟨keyB k, t, ((c + 1 : Nat) : Int)⟩) := by
                      unfold actSt
                      rw [if_pos rfl, HCQ.out]
                      rfl
                    rw [hact]
                    exact this
              · obtain ⟨h3, hcb, hcw, q1d, hM1d, hN3d, hMN3⟩ := HPK.out
                have h3f : ∀ i, wd.frozen? ⟨wo.heap.size + 1, i, none⟩ = false := by obtain ⟨ar, har, _⟩ := HCTC.out.blk; exact fun i => frozen_no har i
                go_upto_region 30 with (fail)
                rw [← HW1.out]
                have HC1 := Lib.hid h3
                clear h3 h3f o00 o01 o02 o03 o04 o05 o06 o07 o08 o0f
                go_region_held3 (fun w' => w'.cell? ⟨wo.heap.size + 1, k, none⟩ = some (.int .i64 (c + 1))) (first | with_reducible exact q1d | with_reducible exact n2 | with_reducible exact (keep3 hMN3 _ _ _).trans n2)
                  ((go_at_call 17; refine (nameK_ k hk5 _).mono ?_
                    rintro e w9 ⟨rfl, hB9⟩
                    have n2 : w9.cell? ⟨wo.heap.size + 1, k, none⟩ = some (.int .i64 (c + 1)) := by with_reducible exact (hB9.cell (p := ⟨wo.heap.size + 1, k, none⟩) hM1d).trans q1d
                    obtain ⟨ar, har, hars⟩ := HSB.out
                    have g9 := (hB9.block (w.heap.size + 1 + 1 + 1) hN3d).trans har
                    have f9 : ∀ i, w9.frozen? ⟨w.heap.size + 1 + 1 + 1, i, none⟩ = false := fun i => frozen_no g9 i
                    have e0 : w9.cell? ⟨w.heap.size + 1 + 1 + 1, k * 3, none⟩ = some (ar[k * 3]'(by omega)) := (cell_of_row _ _ _ _ _ _ g9).trans (Array.getElem?_eq_getElem _)
                    have e1 : w9.cell? ⟨w.heap.size + 1 + 1 + 1, k * 3 + 1, none⟩ = some (ar[k * 3 + 1]'(by omega)) := (cell_of_row _ _ _ _ _ _ g9).trans (Array.getElem?_eq_getElem _)
                    have e2 : w9.cell? ⟨w.heap.size + 1 + 1 + 1, k * 3 + 2, none⟩ = some (ar[k * 3 + 2]'(by omega)) := (cell_of_row _ _ _ _ _ _ g9).trans (Array.getElem?_eq_getElem _)
                    have HG9 := Lib.hid g9
                    have HB9 := Lib.hid hB9
                    clear g9 har hB9))
                have hB9 := HB9.out
                have hB91 : Below W1.heap.size W1 w9 := (Below.refl _ _).drew.trans hB9
                obtain ⟨X3, hX3⟩ : ∃ X3, X3 = (((w9.setCell ⟨w.heap.size + 1 + 1 + 1, k * 3, none⟩ (.string (keyB k))).setCell ⟨w.heap.size + 1 + 1 + 1, k * 3 + 1, none⟩ (.int .i64 t)).setCell ⟨w.heap.size + 1 + 1 + 1, k * 3 + 2, none⟩ (.int .i64 (c + 1))) := ⟨_, rfl⟩
                rw [← hX3]
                have hC9 : Chg (fun j => j = wo.heap.size + 1) wd w9 := HCC.out.trans ((Chg.of_below hB91).mono (G := fun _ => False) (fun j hj h => by omega)) (fun _ _ f => f.elim)
                have hCX : Chg (fun j => j = w.heap.size + 3) w9 X3 := by rw [hX3]; exact chg3 _ _ _
                have hC3 : Chg (fun j => j = wo.heap.size + 1 ∨ j = w.heap.size + 3) wd X3 := (hC9.mono (fun j _ h => .inl h)).trans hCX (fun j _ h => .inr h)
                have y1 : X3.cell? ⟨wr.heap.size, 0, none⟩ = some (.int .i64 a.kind) := (World.cell?_of_block (a := ⟨wr.heap.size, 0, none⟩) (hC3.block wr.heap.size hwc (by omega))).trans ab1
                obtain ⟨tr, htr, htrs⟩ := HSTC.out.tblk
                have gt := (hC3.block (w.heap.size + 4) (by omega) (by omega)).trans htr
                have fT : ∀ i, X3.frozen? ⟨w.heap.size + 1 + 1 + 1 + 1, i, none⟩ = false := fun i => frozen_no gt i
                obtain ⟨tv, cT⟩ : ∃ tv, X3.cell? ⟨w.heap.size + 1 + 1 + 1 + 1, k, none⟩ = some tv := ⟨_, (cell_of_row _ _ _ _ _ _ gt).trans (Array.getElem?_eq_getElem (show k < tr.size by omega))⟩
                have hst9 : StI w9 (w.heap.size + 3) (w.heap.size + 4) 67 68 s := HSTC.out.keep (hC9.block _ (by omega) (by omega)) (hC9.block _ (by omega) (by omega))
                obtain ⟨X4, hX4⟩ : ∃ X4, X4 = X3.setCell ⟨w.heap.size + 1 + 1 + 1 + 1, k, none⟩ (.bool false) := ⟨_, rfl⟩
                have hst4 : StI X4 (w.heap.size + 3) (w.heap.size + 4) 67 68 (put s (keyB k) (if true then none else some ⟨keyB k, t, ((c + 1 : Nat) : Int)⟩)) := by
                  rw [hX4]
                  exact hst9.set (by omega) hk5 ⟨keyB k, t, ((c + 1 : Nat) : Int)⟩ rfl keyB_inj true (w4 := X3) hX3 (w5 := X3) rfl rfl
                have hC4 : Chg (fun j => j = wo.heap.size + 1 ∨ j = w.heap.size + 3 ∨ j = w.heap.size + 4) wd X4 := by rw [hX4]; exact (hC3.mono (fun j _ h => h.elim .inl (fun h => .inr (.inl h)))).setCell _ _ (fun _ => .inr (.inr rfl))
                have hwr3 : wr.heap.size < X3.heap.size := Nat.lt_of_lt_of_le hwc hC3.size
                have q4d : X4.drew.cell? ⟨w.heap.size + 1 + 1 + 1 + 1, k, none⟩ = some (.bool false) := by rw [hX4]; exact cell_set_same gt (by omega) _
                have hN4d : w.heap.size + 1 + 1 + 1 + 1 < X4.drew.heap.size := by have := hC4.size; show _ < X4.heap.size; omega
                have hobd : ob < X4.drew.heap.size := by have := hC4.size; show _ < X4.heap.size; omega
                have go4 : X4.drew.heap[ob]? = some (.cells #[.int .i64 3, .string (keyB k), .int .i64 0, .int .i64 0, .bool false, .string ⟨#[]⟩, .string ⟨#[]⟩, .slice none 0 0, .int .u64 (2 * t + 1)] 59) := (hC4.block ob ho2 (by omega)).trans HO3.out
                have hN4ob : w.heap.size + 1 + 1 + 1 + 1 ≠ ob := by omega
                have hC19 : Chg (fun _ => False) W1 w9 := (Chg.of_below hB91).mono (fun j hj h => by omega)
                have hC13 : Chg (fun j => j = w.heap.size + 3 ∨ j = w.heap.size + 4) W1 X3 := hC19.none.trans hCX (fun j _ h => .inl h)
                have hC14 : Chg (fun j => j = w.heap.size + 3 ∨ j = w.heap.size + 4) W1 X4 := by rw [hX4]; exact hC13.setCell _ _ (fun _ => .inr rfl)
                have HC14 := Lib.hid hC14
                have HX3 := Lib.hid hX3
                have HX4 := Lib.hid hX4
                have HST4 := Lib.hid hst4
                have HC4 := Lib.hid hC4
                have HGO4 := Lib.hid go4
                have HC9 := Lib.hid hC9
                clear hC19 hC13 hC14 hX3 hX4 hst4 hC4 go4 hst9 hC3 hCX hC9 gt htr htrs hB9 hB91 e0 e1 e2 f9 n2 q1d hM1d hN3d hMN3 hcb hcw
                go_upto_region 32 with (go_at_call 16; refine (HM4.out _).mono ?_; rintro e w9 ⟨rfl, rfl⟩)
                rw [← HX4.out]
                clear y1 fT cT hwr3
                go_region_held3 (fun w' => w'.cell? ⟨w.heap.size + 1 + 1 + 1 + 1, k, none⟩ = some (.bool false)) (first | with_reducible exact q4d | with_reducible exact n4 | with_reducible exact (keep9 hN4ob _ _ _ _ _ _ _ _ _).trans n4)
                  ((go_at_call 17; refine (nameK_ k hk5 _).mono ?_
                    rintro e w10 ⟨rfl, hB10⟩
                    have n4 : w10.cell? ⟨w.heap.size + 1 + 1 + 1 + 1, k, none⟩ = some (.bool false) := by with_reducible exact (hB10.cell (p := ⟨w.heap.size + 1 + 1 + 1 + 1, k, none⟩) hN4d).trans q4d
                    have g10 := (hB10.block ob hobd).trans HGO4.out
                    obtain ⟨z0, f10⟩ := cells_of (cs := [.int .i64 3, .string (keyB k), .int .i64 0, .int .i64 0, .bool false, .string ⟨#[]⟩, .string ⟨#[]⟩, .slice none 0 0, .int .u64 (2 * t + 1)]) g10
                    have z00 : w10.cell? ⟨ob, 0, none⟩ = some (.int .i64 3) := z0 0
                    have z01 : w10.cell? ⟨ob, 1, none⟩ = some (.string (keyB k)) := z0 1
                    have z02 : w10.cell? ⟨ob, 2, none⟩ = some (.int .i64 0) := z0 2
                    have z03 : w10.cell? ⟨ob, 3, none⟩ = some (.int .i64 0) := z0 3
                    have z04 : w10.cell? ⟨ob, 4, none⟩ = some (.bool false) := z0 4
                    have z05 : w10.cell? ⟨ob, 5, none⟩ = some (.string ⟨#[]⟩) := z0 5
                    have z06 : w10.cell? ⟨ob, 6, none⟩ = some (.string ⟨#[]⟩) := z0 6
                    have z07 : w10.cell? ⟨ob, 7, none⟩ = some (.slice none 0 0) := z0 7
                    have z08 : w10.cell? ⟨ob, 8, none⟩ = some (.int .u64 (2 * t + 1)) := z0 8
                    have HG10 := Lib.hid g10
                    have HB10 := Lib.hid hB10
                    clear g10 z0 hB10))
                go_wp2_with (fail)
                go_meet
                case rel =>
                  obtain ⟨s1, s2⟩ := set9 HG10.out (.int .i64 2) (.string (keyB k)) (.int .i64 0) (.int .i64 0) (.bool true) (.string ⟨#[118]⟩) (.string ⟨#[]⟩) (.slice none 0 0) (.int .u64 0)
                  have hB10' : Below X4.heap.size X4 w10 := (Below.refl _ _).drew.trans HB10.out
                  have hC10 : Chg (fun j => j = ob) X4 _ := (((Chg.of_below hB10').mono (G := fun _ => False) (fun j hj h => by omega)).none).trans s2 (fun _ _ h => h)
                  have hz4 := HC4.out.size
                  have hzc := HCC.out.size
                  have hz9 := HC9.out.size
                  have hCd := HC4.out.mono (G := fun j => j = w.heap.size + 3 ∨ j = w.heap.size + 4 ∨ j = wo.heap.size + 1 ∨ j = ob) (fun j _ h => by omega)
                  have hCe := hCd.trans hC10 (fun j _ h => .inr (.inr (.inr h)))
                  rw [actOp12 HKK.out.1 HKK.out.2 (.inr rfl)]
                  refine ⟨(HCO.out.none (F := fun j => j = w.heap.size + 3 ∨ j = w.heap.size + 4 ∨ j = wo.heap.size + 1)).trans hCe (fun j hj h => by omega), ⟨.slice none 0 0, fun _ => False, s1, Sl.nil _ _ _ _, fun _ f => f.elim⟩, ?_, ?_⟩
                  · refine (HCT1.out.keep (w' := _) ?_).congr (fun k' hk' => ?_)
                    · exact (hC10.block (wo.heap.size + 1) (by omega) (by omega)).trans (HC14.out.block (wo.heap.size + 1) (by omega) (by omega))
                    · rw [wrLen_write hk5 rfl rfl hk', ← HCQ.out]
                  · have := HST4.out.keep (hC10.block _ (by omega) (by omega)) (hC10.block _ (by omega) (by omega))
                    have hact : actSt t ops s ⟨2, ⟨keyB k, 0, 0⟩, decide (2 = 2), vB, emB, [], 0⟩ = put s (keyB k) (if true then none else some ⟨keyB k, t, ((c + 1 : Nat) : Int)⟩) := by
                      unfold actSt
                      rw [if_pos rfl, HCQ.out]
                      rfl
                    rw [hact]
                    exact this
              · have hob8 : ob < wd.heap.size := ho2
                obtain ⟨i0, z0, j0, j1, j2, j3, j4⟩ := info_of hver_info
                clear o00 o01 o02 o03 o04 o05 o06 o07 o08 o0f
                rw [show (((3 : Nat) : Int)) = (3 : Int) from rfl]
                go_wp2
                go_loopw [13] (fun j' wr2 => ∃ (m : Nat) (sv : Value) (Fs : Nat → Prop), k + m ≤ 5 ∧ j' = .int .i64 ((k + m : Nat) : Int) ∧ wr2.heap[ob]? = some (.cells #[.int .i64 3, .string (keyB k), .int .i64 0, .int .i64 0, .bool false, .string ⟨#[]⟩, .string ⟨#[]⟩, sv, .int .u64 (2 * t + 1)] 59) ∧ Sl wr2 56 3 sv (seenL s k m).length ((seenL s k m).flatMap verC) Fs ∧ (∀ j, Fs j → wd.heap.size ≤ j ∧ j < wr2.heap.size) ∧ Chg (fun j => j = ob) wd wr2) (fun j' _ => 5 - (intOf j').toNat)
                case atStart => exact ⟨0, .slice none 0 0, fun _ => False, by omega, rfl, HO3.out, Sl.nil _ _ _ _, fun _ f => f.elim, Chg.refl _ _⟩
                case round =>
                  obtain ⟨m, sv, Fs, hkm, rfl, hob, hsl, hFs, hC⟩ := hrel
                  have hsz2 := hC.size
                  have hN4r : w.heap.size + 1 + 1 + 1 + 1 < wr.heap.size := by omega
                  have hN3r : w.heap.size + 1 + 1 + 1 < wr.heap.size := by omega
                  have hst2 := HSTC.out.keep (w' := wr) (hC.block _ (by omega) (by omega)) (hC.block _ (by omega) (by omega))
                  have hobr := lt_of_heap hob
                  obtain ⟨SA, sc, rfl, hsc1, hsc2⟩ := hsl.shape
                  have hsl5 := seenL_len s k m
                  by_cases hlt : k + m < 5
                  · have hlti : ((k + m : Nat) : Int) < 5 := by omega
                    have hge0 : (0 : Int) ≤ ((k + m : Nat) : Int) := by omega
                    obtain ⟨kk, hkk⟩ : ∃ kk, kk = k + m := ⟨_, rfl⟩
                    rw [← hkk] at hlti hge0 ⊢
                    cases hsk : s (keyB (k + m)) with
                    | none =>
                      have th : wr.cell? ⟨w.heap.size + 1 + 1 + 1 + 1, kk, none⟩ = some (.bool false) := by have := hst2.th (k + m) hlt; rw [hsk] at this; rw [hkk]; exact this
                      have HQ := Lib.hid (And.intro hob (And.intro hsl (And.intro hFs (And.intro hC (And.intro hsk hkk)))))
                      clear hob hsl hFs hC hsk hst2 hkk
                      go_wp2
                      obtain ⟨hob, hsl, hFs, hC, hsk, hkk⟩ := HQ.out
                      refine ⟨⟨m + 1, .slice SA (seenL s k m).length sc, Fs, by omega, by rw [hkk]; simp; omega, hob, ?_, hFs, hC⟩, by rw [hkk]; simp [intOf]; omega⟩
                      rw [seenL_none hsk]
                      exact hsl
                    | some z =>
                      have th : wr.cell? ⟨w.heap.size + 1 + 1 + 1 + 1, kk, none⟩ = some (.bool true) := by have := hst2.th (k + m) hlt; rw [hsk] at this; rw [hkk]; exact this
                      obtain ⟨u0, u1, u2⟩ := hst2.sv (k + m) hlt z hsk
                      rw [← hkk] at u0 u1 u2
                      have u0 : wr.cell? ⟨w.heap.size + 1 + 1 + 1, kk * 3, none⟩ = some (.string z.key) := u0
                      have u1 : wr.cell? ⟨w.heap.size + 1 + 1 + 1, kk * 3 + 1, none⟩ = some (.int .i64 z.frm) := u1
                      have u2 : wr.cell? ⟨w.heap.size + 1 + 1 + 1, kk * 3 + 2, none⟩ = some (.int .i64 z.nth) := u2
                      have x7 : wr.cell? ⟨ob, 7, none⟩ = some (.slice SA (seenL s k m).length sc) := (cells_of (cs := [.int .i64 3, .string (keyB k), .int .i64 0, .int .i64 0, .bool false, .string ⟨#[]⟩, .string ⟨#[]⟩, .slice SA (seenL s k m).length sc, .int .u64 (2 * t + 1)]) hob).1 7
                      have xf := (cells_of (cs := [.int .i64 3, .string (keyB k), .int .i64 0, .int .i64 0, .bool false, .string ⟨#[]⟩, .string ⟨#[]⟩, .slice SA (seenL s k m).length sc, .int .u64 (2 * t + 1)]) hob).2
                      have HQ := Lib.hid (And.intro hob (And.intro hsl (And.intro hFs (And.intro hC (And.intro hsk hkk)))))
                      clear hob hsl hFs hC hsk hst2 hkk
                      go_wp2_with (first
                        | (with_reducible refine wp_region_free (by kernel_rfl) (fun _ _ => ?_))
                        | (refine wpList_append_sl _ rfl (.tmp 92) (.tmp 96) 57 rfl 56 i0 z0 3 32 Tryz.underlying57 j0 j1 j2 j3 j4 (by omega) _ _ _ _ rfl (HQ.out.2.1.chg ((Chg.refl (fun _ => False) _).drew.alloc _) (fun _ _ f => f)) _ _ 1 1 [.string z.key, .int .i64 z.frm, .int .i64 z.nth] rfl (reads_new _ _ 3 rfl _) (by intro u hu; simp at hu; rcases hu with rfl | rfl | rfl <;> rfl) (by simp only [maxLen]; omega) (by omega) ?_
                           intro v9 w9 F9 hs9 hc9 hf9 hnz9
                           obtain ⟨A9, c9, rfl, hc9a, hc9b⟩ := hs9.shape
                           have hal9 : Chg Fs wr w9 := (((Chg.refl (fun _ => False) wr).drew.alloc _).mono (G := Fs) (fun _ _ f => f.elim)).trans hc9 (fun _ _ h => h)
                           have g9 := (hal9.block ob hobr (fun h => by have := HQ.out.2.2.1 _ h; omega)).trans HQ.out.1
                           have g9l := lt_of_heap g9
                           have y7 : w9.cell? ⟨ob, 7, none⟩ = some (.slice SA (seenL s k m).length sc) := (cells_of (cs := [.int .i64 3, .string (keyB k), .int .i64 0, .int .i64 0, .bool false, .string ⟨#[]⟩, .string ⟨#[]⟩, .slice SA (seenL s k m).length sc, .int .u64 (2 * t + 1)]) g9).1 7
                           have yf := (cells_of (cs := [.int .i64 3, .string (keyB k), .int .i64 0, .int .i64 0, .bool false, .string ⟨#[]⟩, .string ⟨#[]⟩, .slice SA (seenL s k m).length sc, .int .u64 (2 * t + 1)]) g9).2
                           have HG9 := Lib.hid g9
                           have HN9 := Lib.hid hnz9
                           clear hnz9 g9))
                      obtain ⟨hob, hsl, hFs, hC, hsk, hkk⟩ := HQ.out
                      have hset : Chg (fun j => j = ob) w9 (w9.setCell ⟨ob, 7, none⟩ (.slice A9 ((seenL s k m).length + 1) c9)) := (Chg.refl _ _).setCell _ _ (fun _ => rfl)
                      have hz9 := hal9.size
                      have hzs := hset.size
                      have hF9 : ∀ j, F9 j → wd.heap.size ≤ j ∧ j < w9.heap.size := fun j hj => by
                        rcases hf9 j hj with h | ⟨h, h'⟩
                        · have := hFs j h; omega
                        · have : wr.heap.size ≤ j := Nat.le_trans (show wr.heap.size ≤ (wr.alloc _).heap.size by rw [World.size_alloc]; exact Nat.le_succ _) h
                          omega
                      refine ⟨⟨m + 1, .slice A9 ((seenL s k m).length + 1) c9, F9, by omega, by rw [hkk]; simp; omega, by simpa using heap_setCell_same (i := 7) (v := .slice A9 ((seenL s k m).length + 1) c9) HG9.out, ?_, fun j hj => ?_, ?_⟩, by rw [hkk]; simp [intOf]; omega⟩
                      · rw [seenL_some hsk, List.length_append, List.flatMap_append]
                        have := hs9.chg hset (fun j hj e => by have := hF9 j hj; omega)
                        simpa [verC] using this
                      · have := hF9 j hj; omega
                      · exact (hC.trans hal9 (fun j hj h => by have := hFs j h; omega)).trans hset (fun j _ h => h)
                  · obtain rfl : m = 5 - k := by omega
                    have hnl : ¬ ((k + (5 - k) : Nat) : Int) < 5 := by omega
                    have HQ := Lib.hid (And.intro hob (And.intro hsl (And.intro hFs hC)))
                    clear hob hsl hFs hC hst2
                    obtain ⟨kk, hkk⟩ : ∃ kk : Nat, kk = k + (5 - k) := ⟨_, rfl⟩
                    rw [← hkk] at hnl ⊢
                    clear hkk
                    go_wp2
                    go_meet
                    case rel =>
                      obtain ⟨hob, hsl, hFs, hC⟩ := HQ.out
                      exact FIN.out _ _ (show (3 : Int) ≠ 2 by decide) (actOp3 HKK.out.1 HKK.out.2) (hC.mono (fun j _ h => .inl h)) ⟨_, Fs, hob, hsl, fun j hj => by have := hFs j hj; omega⟩
            case rest =>
              obtain ⟨we, rfl⟩ : ∃ we : World, we = wc := ⟨_, rfl⟩
              obtain ⟨op, hop⟩ : ∃ op, op = actOp t s a := ⟨_, rfl⟩
              rw [← hop] at hcut
              obtain ⟨hbc, ⟨sv, Fs, hob, hsl, hFs⟩, hct2, hst2⟩ := hcut
              obtain ⟨SA, sc2, rfl, hsc1, hsc2⟩ := hsl.shape
              obtain ⟨x0, x1, x2, x3, x4⟩ := HX.out
              rw [← HS.out.2] at x1
              have hol : ops.length = i := by rw [HS.out.2]; exact txTo_len i (by omega)
              have hsz3 := hbc.size
              obtain ⟨css, k1, k2, k3, k4⟩ := x1
              obtain ⟨OA, oc, rfl, hoc1, hoc2⟩ := k1.shape
              have hMe := (hbc.block wo.heap.size (by omega) (by omega)).trans x0
              have hMl := lt_of_heap hMe
              have hobl := lt_of_heap hob
              have k1e : Sl we 59 9 (.slice OA ops.length oc) ops.length css.flatten F := k1.keep (fun j hj hF => hbc.block j hj (by have := x2 j hF; omega))
              have m8 : we.cell? ⟨wo.heap.size, 8, none⟩ = some (.slice OA ops.length oc) := (cells_of (cs := [.int .i64 (2 + t % 3), .int .i64 1, .int .u64 (2 * t + 1), .int .u64 (2 * t + 2), .int .i64 (4 * t + 1), .int .i64 (4 * t + 2), .int .i64 (4 * t + 3), .int .i64 (4 * t + 4), .slice OA ops.length oc]) hMe).1 8
              obtain ⟨z0, zf⟩ := cells_of (cs := [.int .i64 op.kind, .string op.ver.key, .int .i64 op.ver.frm, .int .i64 op.ver.nth, .bool op.dead, .string op.value, .string op.hi, .slice SA op.seen.length sc2, .int .u64 op.at_]) hob
              have z00 : we.cell? ⟨ob, 0, none⟩ = some (.int .i64 op.kind) := z0 0
              have z01 : we.cell? ⟨ob, 1, none⟩ = some (.string op.ver.key) := z0 1
              have z02 : we.cell? ⟨ob, 2, none⟩ = some (.int .i64 op.ver.frm) := z0 2
              have z03 : we.cell? ⟨ob, 3, none⟩ = some (.int .i64 op.ver.nth) := z0 3
              have z04 : we.cell? ⟨ob, 4, none⟩ = some (.bool op.dead) := z0 4
              have z05 : we.cell? ⟨ob, 5, none⟩ = some (.string op.value) := z0 5
              have z06 : we.cell? ⟨ob, 6, none⟩ = some (.string op.hi) := z0 6
              have z07 : we.cell? ⟨ob, 7, none⟩ = some (.slice SA op.seen.length sc2) := z0 7
              have z08 : we.cell? ⟨ob, 8, none⟩ = some (.int .u64 op.at_) := z0 8
              obtain ⟨i0, y0, j0, j1, j2, j3, j4⟩ := info_of hop_info
              have hopb : ops.length + 1 ≤ maxLen := by simp only [maxLen]; omega
              have hopb2 : (ops.length + 1) * 112 ≤ 140737488355328 := by omega
              have HE := Lib.hid (And.intro hbc (And.intro hob (And.intro hsl (And.intro hFs (And.intro hct2 hst2)))))
              have HK1 := Lib.hid k1e
              have HK := Lib.hid (And.intro k2 (And.intro k3 k4))
              have HXX := Lib.hid (And.intro x2 (And.intro x3 x4))
              have HME := Lib.hid hMe
              have HOP := Lib.hid hop
              have HOL := Lib.hid hol
              clear z0 hbc hob hsl hFs hct2 hst2 x0 x2 x3 x4 k1 k1e k2 k3 k4 hMe hop hol ab1 hwc
              go_wp2_with (
                refine wpList_append_sl _ rfl (.tmp 146) (.tmp 148) 51 rfl 59 i0 y0 9 112 Tryz.underlying51 j0 j1 j2 j3 j4 (by omega) _ _ _ _ rfl (HK1.out.chg ((Chg.refl (fun _ => False) _).alloc _) (fun _ _ f => f)) _ _ 1 1 [.int .i64 op.kind, .string op.ver.key, .int .i64 op.ver.frm, .int .i64 op.ver.nth, .bool op.dead, .string op.value, .string op.hi, .slice SA op.seen.length sc2, .int .u64 op.at_] rfl (reads_new _ _ 9 rfl _) (by intro u hu; simp at hu; rcases hu with rfl | rfl | rfl | rfl | rfl | rfl | rfl | rfl | rfl <;> rfl) hopb hopb2 ?_
                intro v9 w9 F9 hs9 hc9 hf9 hnz9
                obtain ⟨A9, c9, rfl, hc9a, hc9b⟩ := hs9.shape
                have hal9 : Chg F we w9 := (((Chg.refl (fun _ => False) we).alloc _).mono (G := F) (fun _ _ f => f.elim)).trans hc9 (fun _ _ h => h)
                have g9 := (hal9.block wo.heap.size hMl (fun h => by have := HXX.out.1 _ h; omega)).trans HME.out
                have g9l := lt_of_heap g9
                have y8 : w9.cell? ⟨wo.heap.size, 8, none⟩ = some (.slice OA ops.length oc) := (cells_of (cs := [.int .i64 (2 + t % 3), .int .i64 1, .int .u64 (2 * t + 1), .int .u64 (2 * t + 2), .int .i64 (4 * t + 1), .int .i64 (4 * t + 2), .int .i64 (4 * t + 3), .int .i64 (4 * t + 4), .slice OA ops.length oc]) g9).1 8
                have yf := (cells_of (cs := [.int .i64 (2 + t % 3), .int .i64 1, .int .u64 (2 * t + 1), .int .u64 (2 * t + 2), .int .i64 (4 * t + 1), .int .i64 (4 * t + 2), .int .i64 (4 * t + 3), .int .i64 (4 * t + 4), .slice OA ops.length oc]) g9).2
                have HG9 := Lib.hid g9
                have HN9 := Lib.hid hnz9
                clear hnz9 g9)
              obtain ⟨hbc, hob, hsl, hFs, hct2, hst2⟩ := HE.out
              obtain ⟨x2, x3, x4⟩ := HXX.out
              obtain ⟨k2, k3, k4⟩ := HK.out
              have hz9 := hal9.size
              have hset : Chg (fun j => j = wo.heap.size) w9 (w9.setCell ⟨wo.heap.size, 8, none⟩ (.slice A9 (ops.length + 1) c9)) := (Chg.refl _ _).setCell _ _ (fun _ => rfl)
              have hzs := hset.size
              have hbe : Chg (fun j => j = w.heap.size + 3 ∨ j = w.heap.size + 4 ∨ j = wo.heap.size + 1 ∨ F j) wr w9 := (hbc.mono (fun j _ h => by omega)).trans hal9 (fun j _ h => .inr (.inr (.inr h)))
              have hall : Chg (fun j => j = w.heap.size + 3 ∨ j = w.heap.size + 4 ∨ wo.heap.size ≤ j) wr (w9.setCell ⟨wo.heap.size, 8, none⟩ (.slice A9 (ops.length + 1) c9)) := (hbe.mono (fun j _ h => by
                rcases h with h | h | h | h
                · exact .inl h
                · exact .inr (.inl h)
                · exact .inr (.inr (by omega))
                · have := x2 j h; exact .inr (.inr (by omega)))).trans hset (fun j _ h => .inr (.inr (by omega)))
              have hF9 : ∀ j, F9 j → F j ∨ (we.heap.size < j ∧ j < w9.heap.size) := fun j hj => by
                rcases hf9 j hj with h | ⟨h, h'⟩
                · exact .inl h
                · rw [World.size_alloc] at h; exact .inr ⟨by omega, h'⟩
              have hstep : txTo t (linTo p t).2 acs (i + 1) = (ops ++ [op], actSt t ops s op) := by
                simp only [txTo, HA.out]
                rw [HOP.out, HS.out.1, HS.out.2]
              refine ⟨⟨i + 1, by omega, by simp, ⟨?_, by omega, ?_, ?_, ?_⟩⟩, by simp [intOf]; omega⟩
              · exact HJ.out.chg.trans hall (fun j hj h => by omega)
              · refine ⟨.slice A9 (ops.length + 1) c9, F9, fun j => C j ∨ Fs j, by simpa using heap_setCell_same (i := 8) (v := .slice A9 (ops.length + 1) c9) HG9.out, ?_, fun j hj => ?_, fun j hj => ?_, fun j hj hc => ?_⟩
                · rw [hstep]
                  have hkeep : ∀ j, j < wr.heap.size → C j → (w9.setCell ⟨wo.heap.size, 8, none⟩ (.slice A9 (ops.length + 1) c9)).heap[j]? = wr.heap[j]? := fun j hj hc => by
                    have h3 := x3 j hc
                    exact (hset.block j (by omega) (by omega)).trans (hbe.block j hj (by
                      intro h
                      rcases h with h | h | h | h
                      · omega
                      · omega
                      · omega
                      · exact x4 j h hc))
                  refine RowI.add (css := css) (hs9.chg hset (fun j hj e => ?_)) (by exact k2) k3 (fun i' cs' x' hc hx => (k4 i' cs' x' hc hx).keep hkeep (fun j _ hj => .inl hj)) rfl ⟨.slice SA op.seen.length sc2, Fs, rfl, ?_, fun j hj => .inr hj⟩
                  · rcases hF9 j hj with h | h
                    · have := x2 j h; omega
                    · omega
                  · refine (hsl.chg hal9 (fun j hj h => ?_)).chg hset (fun j hj h => ?_)
                    · have h1 := hFs j hj; have h2 := x2 j h; omega
                    · have h1 := hFs j hj; omega
                · rcases hF9 j hj with h | h
                  · have := x2 j h; omega
                  · omega
                · rcases hj with h | h
                  · have := x3 j h; omega
                  · have := hFs j h; omega
                · rcases hF9 j hj with h | h
                  · rcases hc with h1 | h1
                    · exact x4 j h h1
                    · have h2 := hFs j h1; have h3 := x2 j h; omega
                  · rcases hc with h1 | h1
                    · have h2 := x3 j h1; omega
                    · have h2 := hFs j h1; omega
              · rw [hstep]
                exact hct2.keep ((hset.block _ (by omega) (by omega)).trans (hal9.block _ (by omega) (fun h => by have := x2 _ h; omega)))
              · rw [hstep]
                exact hst2.keep ((hset.block _ (by omega) (by omega)).trans (hal9.block _ (by omega) (fun h => by have := x2 _ h; omega))) ((hset.block _ (by omega) (by omega)).trans (hal9.block _ (by omega) (fun h => by have := x2 _ h; omega)))
        · have hie : i = cut40 acs.length := by omega
          have hni : ¬ ((i : Int) < acs.length ∧ (i : Int) < 40) := by
            have : cut40 acs.length = i := hie.symm
            unfold cut40 at this
            split at this <;> omega
          obtain ⟨hv, F0, C0, h0, h1, h2, h3, h4⟩ := HI.out.hs
          have hll : (linTo p t).1.length = t := linTo_len t (by omega)
          obtain ⟨css, k1, k2, k3, k4⟩ := h1
          obtain ⟨HA0, hc0, rfl, hh1, hh2⟩ := k1.shape
          rw [hll] at k1 k2 hh2 h0
          obtain ⟨ov, F, C, x0, x1, x2, x3, x4⟩ := hJ.xs
          obtain ⟨OA, oc, rfl, hoc1, hoc2⟩ := x1.shape
          have h0r := (kb (w.heap.size + 2) (by omega) (by omega) (by omega)).trans h0
          have h0c : wr.cell? ⟨w.heap.size + 1 + 1, 0, none⟩ = some (.slice HA0 t hc0) := (cells_of (cs := [.slice HA0 t hc0]) h0r).1 0
          have k1r : Sl wr 53 9 (.slice HA0 t hc0) t css.flatten F0 := k1.keep (fun j hj hF => kb j hj (by have := h2 j hF; omega) (by have := h2 j hF; omega))
          obtain ⟨z0, zf⟩ := cells_of (cs := [.int .i64 (2 + t % 3), .int .i64 1, .int .u64 (2 * t + 1), .int .u64 (2 * t + 2), .int .i64 (4 * t + 1), .int .i64 (4 * t + 2), .int .i64 (4 * t + 3), .int .i64 (4 * t + 4), .slice OA (txTo t (linTo p t).2 acs i).1.length oc]) x0
          have z00 : wr.cell? ⟨wo.heap.size, 0, none⟩ = some (.int .i64 (2 + t % 3)) := z0 0
          have z01 : wr.cell? ⟨wo.heap.size, 1, none⟩ = some (.int .i64 1) := z0 1
          have z02 : wr.cell? ⟨wo.heap.size, 2, none⟩ = some (.int .u64 (2 * t + 1)) := z0 2
          have z03 : wr.cell? ⟨wo.heap.size, 3, none⟩ = some (.int .u64 (2 * t + 2)) := z0 3
          have z04 : wr.cell? ⟨wo.heap.size, 4, none⟩ = some (.int .i64 (4 * t + 1)) := z0 4
          have z05 : wr.cell? ⟨wo.heap.size, 5, none⟩ = some (.int .i64 (4 * t + 2)) := z0 5
          have z06 : wr.cell? ⟨wo.heap.size, 6, none⟩ = some (.int .i64 (4 * t + 3)) := z0 6
          have z07 : wr.cell? ⟨wo.heap.size, 7, none⟩ = some (.int .i64 (4 * t + 4)) := z0 7
          have z08 : wr.cell? ⟨wo.heap.size, 8, none⟩ = some (.slice OA (txTo t (linTo p t).2 acs i).1.length oc) := z0 8
          have hMl := lt_of_heap x0
          have hN2 := lt_of_heap h0r
          obtain ⟨i0, y0, j0, j1, j2, j3, j4⟩ := info_of htx_info
          have hopb : t + 1 ≤ maxLen := by simp only [maxLen]; omega
          have hopb2 : (t + 1) * 88 ≤ 140737488355328 := by omega
          obtain ⟨L, hL⟩ : ∃ L, L = (txTo t (linTo p t).2 acs i).1.length := ⟨_, rfl⟩
          rw [← hL] at z08 x0 x1
          have HH := Lib.hid (And.intro h0r (And.intro h2 (And.intro h3 h4)))
          have HK1 := Lib.hid k1r
          have HK := Lib.hid (And.intro k2 (And.intro k3 k4))
          have HXX := Lib.hid (And.intro x1 (And.intro x2 (And.intro x3 x4)))
          have HJ := Lib.hid hJ
          have HKB := Lib.hid kb
          have HLL := Lib.hid hll
          have HL := Lib.hid hL
          have hlenL : L ≤ 40 := by rw [hL, txTo_len i (by omega)]; omega
          clear z0 h0 h0r h2 h3 h4 k1 k1r k2 k3 k4 x0 x1 x2 x3 x4 hJ kb hll hL
          have hL' := HL
          by_cases hia : (i : Int) < acs.length
          · have hi4 : ¬ (i : Int) < 40 := fun h => hni ⟨hia, h⟩
            clear hni
            go_wp2_with (
              refine wpList_append_sl _ rfl (.tmp 152) (.tmp 154) 26 rfl 53 i0 y0 9 88 Tryz.underlying26 j0 j1 j2 j3 j4 (by omega) _ _ _ _ rfl (HK1.out.chg ((Chg.refl (fun _ => False) _).alloc _) (fun _ _ f => f)) _ _ 1 1 [.int .i64 (2 + t % 3), .int .i64 1, .int .u64 (2 * t + 1), .int .u64 (2 * t + 2), .int .i64 (4 * t + 1), .int .i64 (4 * t + 2), .int .i64 (4 * t + 3), .int .i64 (4 * t + 4), .slice OA L oc] rfl (reads_new _ _ 9 rfl _) (by intro u hu; simp at hu; rcases hu with rfl | rfl | rfl | rfl | rfl | rfl | rfl | rfl | rfl <;> rfl) hopb hopb2 ?_
              intro v9 w9 F9 hs9 hc9 hf9 hnz9
              obtain ⟨A9, c9, rfl, hc9a, hc9b⟩ := hs9.shape
              have hal9 : Chg F0 wr w9 := (((Chg.refl (fun _ => False) wr).alloc _).mono (G := F0) (fun _ _ f => f.elim)).trans hc9 (fun _ _ h => h)
              have g9 := (hal9.block (w.heap.size + 2) hN2 (fun h => by have := HH.out.2.1 _ h; omega)).trans HH.out.1
              have g9l : w.heap.size + 1 + 1 < w9.heap.size := lt_of_heap g9
              have y8 : w9.cell? ⟨w.heap.size + 1 + 1, 0, none⟩ = some (.slice HA0 t hc0) := (cells_of (cs := [.slice HA0 t hc0]) g9).1 0
              have yf : ∀ i, w9.frozen? ⟨w.heap.size + 1 + 1, i, none⟩ = false := (cells_of (cs := [.slice HA0 t hc0]) g9).2
              have HG9 := Lib.hid g9
              have HN9 := Lib.hid hnz9
              clear hnz9 g9)
            exact ⟨toldI_next HI.out HJ.out HAS.out hie (by omega) HLL.out hL'.out HXX.out HK.out HH.out hs9 hal9 hf9 HG9.out hsz hMs, by simp [intOf]; omega⟩
          · clear hni
            go_wp2_with (
              refine wpList_append_sl _ rfl (.tmp 152) (.tmp 154) 26 rfl 53 i0 y0 9 88 Tryz.underlying26 j0 j1 j2 j3 j4 (by omega) _ _ _ _ rfl (HK1.out.chg ((Chg.refl (fun _ => False) _).alloc _) (fun _ _ f => f)) _ _ 1 1 [.int .i64 (2 + t % 3), .int .i64 1, .int .u64 (2 * t + 1), .int .u64 (2 * t + 2), .int .i64 (4 * t + 1), .int .i64 (4 * t + 2), .int .i64 (4 * t + 3), .int .i64 (4 * t + 4), .slice OA L oc] rfl (reads_new _ _ 9 rfl _) (by intro u hu; simp at hu; rcases hu with rfl | rfl | rfl | rfl | rfl | rfl | rfl | rfl | rfl <;> rfl) hopb hopb2 ?_
              intro v9 w9 F9 hs9 hc9 hf9 hnz9
              obtain ⟨A9, c9, rfl, hc9a, hc9b⟩ := hs9.shape
              have hal9 : Chg F0 wr w9 := (((Chg.refl (fun _ => False) wr).alloc _).mono (G := F0) (fun _ _ f => f.elim)).trans hc9 (fun _ _ h => h)
              have g9 := (hal9.block (w.heap.size + 2) hN2 (fun h => by have := HH.out.2.1 _ h; omega)).trans HH.out.1
              have g9l : w.heap.size + 1 + 1 < w9.heap.size := lt_of_heap g9
              have y8 : w9.cell? ⟨w.heap.size + 1 + 1, 0, none⟩ = some (.slice HA0 t hc0) := (cells_of (cs := [.slice HA0 t hc0]) g9).1 0
              have yf : ∀ i, w9.frozen? ⟨w.heap.size + 1 + 1, i, none⟩ = false := (cells_of (cs := [.slice HA0 t hc0]) g9).2
              have HG9 := Lib.hid g9
              have HN9 := Lib.hid hnz9
              clear hnz9 g9)
            exact ⟨toldI_next HI.out HJ.out HAS.out hie (by omega) HLL.out hL'.out HXX.out HK.out HH.out hs9 hal9 hf9 HG9.out hsz hMs, by simp [intOf]; omega⟩
    · have hte : t = cut40 p.length := by omega
      have hnt : ¬ ((t : Int) < p.length ∧ (t : Int) < 40) := by
        have : cut40 p.length = t := hte.symm
        unfold cut40 at this
        split at this <;> omega
      obtain ⟨hv, F0, C0, h0, h1, h2, h3, h4⟩ := hI.hs
      obtain ⟨HA0, hc0, rfl, hh1, hh2⟩ := h1.shape
      have h0c : wr.cell? ⟨w.heap.size + 1 + 1, 0, none⟩ = some (.slice HA0 (linTo p t).1.length hc0) := (cells_of (cs := [.slice HA0 (linTo p t).1.length hc0]) h0).1 0
      have r0c : wr.cell? ⟨w.heap.size + 1, 0, none⟩ = some (.slice none 0 0) := (cells_of (cs := [.slice none 0 0]) hI.b2).1 0
      have rf : ∀ i, wr.frozen? ⟨w.heap.size + 1, i, none⟩ = false := (cells_of (cs := [.slice none 0 0]) hI.b2).2
      have hN1 : w.heap.size + 1 < wr.heap.size := by omega
      have hN2 : w.heap.size + 1 + 1 < wr.heap.size := by omega
      have hrow := h1.rows (B := wr.heap.size) (R' := TxR wr.heap.size) (fun j hj => (h2 j hj).2) (fun cs x h => h.txR (fun j hj => (h3 j hj).2))
      have hhist : HistV wr wr.heap.size (.slice HA0 (linTo p t).1.length hc0) (toldH p) := by
        unfold toldH
        rw [← hte]
        exact hrow
      have HHI := Lib.hid hhist
      have HF := Lib.hid (And.intro h2 h3)
      have HH1 := Lib.hid h1
      have HI := Lib.hid hI
      clear h0 h1 h2 h3 h4 hrow hhist hI
      have hbel : Below w.heap.size w (wr.setCell ⟨w.heap.size + 1, 0, none⟩ (.slice HA0 (linTo p t).1.length hc0)) := HI.out.bel.setCell (by simp) _
      have hkept : HistV (wr.setCell ⟨w.heap.size + 1, 0, none⟩ (.slice HA0 (linTo p t).1.length hc0)) (wr.setCell ⟨w.heap.size + 1, 0, none⟩ (.slice HA0 (linTo p t).1.length hc0)).heap.size (.slice HA0 (linTo p t).1.length hc0) (toldH p) := by
        have hset : Chg (fun j => j = w.heap.size + 1) wr (wr.setCell ⟨w.heap.size + 1, 0, none⟩ (.slice HA0 (linTo p t).1.length hc0)) := (Chg.refl _ _).setCell _ _ (fun _ => rfl)
        have hrow2 := HH1.out.keep (C' := C0) (w' := wr.setCell ⟨w.heap.size + 1, 0, none⟩ (.slice HA0 (linTo p t).1.length hc0)) (fun j hj hF => hset.block j hj (fun e => by have := HF.out.1 j hF; omega)) (fun cs x h => h.keep (fun j hj hC => hset.block j hj (fun e => by have := HF.out.2 j hC; omega)) (fun j _ hj => hj))
        have hz := hset.size
        have := hrow2.rows (B := (wr.setCell ⟨w.heap.size + 1, 0, none⟩ (.slice HA0 (linTo p t).1.length hc0)).heap.size) (R' := TxR _) (fun j hj => Nat.lt_of_lt_of_le (HF.out.1 j hj).2 hz) (fun cs x h => h.txR (fun j hj => Nat.lt_of_lt_of_le (HF.out.2 j hj).2 hz))
        unfold toldH
        rw [← hte]
        exact this
      have hres1 : (wr.setCell ⟨w.heap.size + 1, 0, none⟩ (.slice HA0 (linTo p t).1.length hc0)).heap[w.heap.size + 1]? = some (.cells #[.slice HA0 (linTo p t).1.length hc0] 28) := by simpa using heap_setCell_same (i := 0) (v := .slice HA0 (linTo p t).1.length hc0) HI.out.b2
      have HR1 := Lib.hid hres1
      clear hres1
      have HRES := Lib.hid (And.intro hbel hkept)
      clear hbel hkept
      have HTE := Lib.hid hte
      clear hte
      by_cases hia : (t : Int) < p.length
      · have hi4 : ¬ (t : Int) < 40 := fun h => hnt ⟨hia, h⟩
        clear hnt
        go_wp2
        exact ret_c (vs := [.slice HA0 (linTo p t).1.length hc0]) rfl ⟨_, Tryz.underlying28⟩ (by kernel_rfl) rfl rfl HR1.out ⟨HRES.out.1, _, rfl, HRES.out.2⟩
      · clear hnt
        go_wp2
        exact ret_c (vs := [.slice HA0 (linTo p t).1.length hc0]) rfl ⟨_, Tryz.underlying28⟩ (by kernel_rfl) rfl rfl HR1.out ⟨HRES.out.1, _, rfl, HRES.out.2⟩
end Go.Proofs.YtooigfkjdemnlaaGreatDoor
