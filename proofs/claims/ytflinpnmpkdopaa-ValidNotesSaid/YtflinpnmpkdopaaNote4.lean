/- The walk of note over ranges. -/
import Derived.Test.YtflinpnmpkdopaaNote3
import Derived.Test.YtflinpnmpkdopaaNote2
import Derived.Test.YtflinpnmpkdopaaRef1
namespace Go.Proofs.Ytflinpnmpkdopaa
set_option linter.unusedVariables false
set_option linter.unusedSimpArgs false
open Go.RowKit Go.Maps Go.ChangeMaps Xw
attribute [local go_sem] run_store_map


set_option maxRecDepth 100000 in
theorem has_range (sb : Nat) (v1 v2 : Value) (m1 m2 : Option Nat) (ks : List Lit) (x : Rng) (w : World) (h0 : w.heap[sb]? = some (.cells #[v1, .map m1, v2, .map m2] 59 (0, 0))) (h2 : MapSet Try.prog 72 3 w m2 ks) (hx : rOk x) :
    Calls Try.prog 45 #[.pointer (some ⟨sb, 2, none⟩), .agg #[.string x.1, .string x.2]] w (HasPost (rKey x ∈ ks) w) := by
  obtain ⟨p0, p1, p2, p3, pf⟩ := cells4 h0
  have hsb := lt_of_heap h0
  obtain ⟨x1, x2⟩ := x
  have h3 : MapSet Try.prog 72 3 ((w.alloc (.cells #[.string x1, .string x2] 72)).drew) m2 ks := h2.keep fun b hb => heap_alloc_old w _ (h2.lt hb).1
  obtain ⟨c, B, hrun, hB⟩ := h3.look kRange Try.underlying53 Try.underlying3 (zInt _) (rKey_is hx)
  clear h0 h2 h3
  go_enter Try.func45, Try.ntmps45
  go_wp2_with (refine wp_region_free (by kernel_rfl) (fun _ _ => ?_))
  go_ret
  exact ⟨B, rfl, hB, ((Chg.refl _ _).alloc _).drew⟩

set_option maxHeartbeats 4000000 in
set_option maxRecDepth 100000 in
theorem note_range (sb : Nat) (l : List Int) (rs : List Rng) (F : Nat → Prop) (A : Option Addr) (n c : Nat) (xs : List Rng) (w : World) (h : SeesAt w sb l rs F) (hr : Reads w w.heap.size 2 A n (rCells xs)) (hA : ∀ ad, A = some ad → 0 < n → ¬ F ad.block)
    (hok : ∀ x ∈ xs, rOk x) (hb : n * 32 ≤ 140737488351232) :
    Calls Try.prog 41 #[.pointer (some ⟨sb, 2, none⟩), .slice A n c] w (NotePost F w sb l (noteR rs xs).1 (noteR rs xs).2) := by
  obtain ⟨i0, hi0, hz0, hz1, hz2⟩ := info_parts range_info
  have hmm := @run_makeMap Try.prog
  have hmn : ∀ (w : World) (r : Option Nat), (binOp .eql 53 (.map r) (.map none)).run Try.prog w = .ok (.bool (r.isNone)) w := fun w r => run_eql_map_nil w _ _ _ r Try.underlying53
  obtain ⟨hl64, hr64, v10, m10, v20, m20, hin0⟩ := h
  obtain ⟨A0, c0, rfl, hc0m, hc0n⟩ := hin0.s2.shape
  obtain ⟨p0, p1, p2, p3, pf⟩ := cells4 hin0.here
  have hxl : xs.length = n := by have := hr.1; rw [rCells_length] at this; omega
  go_enter Try.func41, Try.ntmps41
  go_wp2
  clear p0 p1 p2 p3 pf
  go_loopw [17] (fun i wr => ∃ k : Nat, k ≤ n ∧ i = .int .i64 k ∧ NoteRel F w sb l (raddAll rs (xs.take k)) wr) (fun i _ => n - (intOf i).toNat)
  case atStart => exact ⟨0, by omega, rfl, F, _, _, _, _, hin0, Chg.refl _ _, From.refl _ _ _⟩
  case round =>
    obtain ⟨k, hk, rfl, Fk, v1, m1, v2, m2, hin, hchg, hfrm⟩ := hrel
    by_cases hlt : k < n
    · obtain ⟨x, hx⟩ : ∃ x, xs[k]? = some x := ⟨_, List.getElem?_eq_getElem (by omega)⟩
      obtain ⟨hx1, hx2⟩ := rCells_at xs k x hx
      obtain ⟨ad, rfl, hadb, hcx⟩ := hr.2 (by omega)
      have hblk : ∀ j, wr.heap[(ad.add j).block]? = w.heap[(ad.add j).block]? := fun j => by rw [block_of_add]; exact hchg.block _ hadb (hA ad rfl (by omega))
      have hcx1 : wr.cell? (ad.add (k * 2)) = some (.string x.1) := by rw [World.cell?_of_block (hblk _), Nat.mul_comm]; exact hcx _ _ hx1
      have hcx2 : wr.cell? ⟨(ad.add (k * 2)).block, (ad.add (k * 2)).off + 1, none⟩ = some (.string x.2) := by
        show wr.cell? ((ad.add (k * 2)).add 1) = _
        rw [add_of_add, World.cell?_of_block (hblk _), Nat.mul_comm]; exact hcx _ _ hx2
      have hxok : rOk x := hok x (List.mem_of_getElem? hx)
      obtain ⟨p0, p1, p2, p3, pf⟩ := cells4 hin.here
      by_cases hmem : x ∈ raddAll rs (xs.take k)
      · obtain ⟨x1, x2⟩ := x
        go_wp2_with (first
          | (go_at_call 45; refine (has_range sb v1 v2 m1 m2 _ (x1, x2) _ (hin.chg ((Chg.refl (fun _ => False) _).alloc _) (fun _ _ f => f)).here (hin.chg ((Chg.refl (fun _ => False) _).alloc _) (fun _ _ f => f)).k2 hxok).mono ?_; rintro e w1 ⟨B, rfl, hB, hc1⟩; obtain rfl : B = true := hB.2 ((rKeys_mem hxok hin.ok2).2 hmem)))
        have hcA : Chg (fun _ => False) wr w1 := ((Chg.refl (fun _ => False) wr).alloc _).trans hc1 (fun _ _ f => f)
        have hs : raddAll rs (xs.take (k + 1)) = raddAll rs (xs.take k) := by rw [raddAll_snoc rs xs k _ hx]; simp [raddOne, hmem]
        exact ⟨⟨k + 1, by omega, by simp, by rw [hs]; exact ⟨Fk, _, _, _, _, hin.chg hcA (fun _ _ f => f), hchg.trans hcA (fun _ _ f => f.elim), hfrm.trans (From.refl _ _ _) hchg.size hcA.size⟩⟩, by simp [intOf]; omega⟩
      · have hs : raddAll rs (xs.take (k + 1)) = raddAll rs (xs.take k) ++ [x] := by rw [raddAll_snoc rs xs k x hx]; simp [raddOne, hmem]
        obtain ⟨ys, hys, hyl⟩ := raddAll_grows rs (xs.take k)
        have hlen : (raddAll rs (xs.take k)).length ≤ 64 + n := by rw [hys]; simp at hyl ⊢; omega
        obtain ⟨x1, x2⟩ := x
        have Hs := Lib.hid hs
        have Hx := Lib.hid hx
        clear hs hys hyl hx hx1 hx2 hcx p0 p1 p2 p3 pf
        generalize raddAll rs (xs.take k) = lk at *
        obtain ⟨A1, c1, rfl, hc1m, hc1n⟩ := hin.s2.shape
        obtain ⟨p0, p1, p2, p3, pf⟩ := cells4 hin.here
        have hsbr := hin.lt_sb
        rcases m2 with _ | b
        · obtain rfl : lk = [] := by
            rcases Classical.em (lk = []) with h0 | h0
            · exact h0
            · exact absurd rfl (hin.n2 h0)
          go_wp2_with (first
            | (go_at_call 45; refine (has_range sb v1 _ m1 _ _ (x1, x2) _ (hin.chg ((Chg.refl (fun _ => False) _).alloc _) (fun _ _ f => f)).here (hin.chg ((Chg.refl (fun _ => False) _).alloc _) (fun _ _ f => f)).k2 hxok).mono ?_; rintro e w1 ⟨B, rfl, hB, hc1⟩; obtain rfl : B = false := Bool.eq_false_iff.2 (fun e => hmem ((rKeys_mem hxok hin.ok2).1 (hB.1 e))); have hcA : Chg (fun _ => False) wr w1 := ((Chg.refl (fun _ => False) wr).alloc _).trans hc1 (fun _ _ f => f); have h1 := hin.chg hcA (fun _ _ f => f); have hbx := (hc1.block wr.heap.size (by rw [World.size_alloc]; exact Nat.lt_succ_self _) (fun f => f)).trans (heap_alloc_new wr _); obtain ⟨q10, q11⟩ := cells2 hbx; obtain ⟨p10, p11, p12, p13, pf1⟩ := cells4 h1.here; have hk1 := h1.k2; have hsb1 := h1.lt_sb))
          obtain ⟨hwm, hwc⟩ := h1.make2
          have hwc2 : Chg (fun j => j = sb) w1 ((w1.alloc (.map #[] 0)).setCell ⟨sb, 3, none⟩ (.map (some w1.heap.size))) := ((Chg.refl _ _).alloc _).setCell _ _ (fun _ => rfl)
          rw [World.setCell_alloc_past _ _ _ _ hsb1] at hwm hwc hwc2
          obtain ⟨wm, hwme⟩ : ∃ wm : World, wm = (w1.setCell ⟨sb, 3, none⟩ (.map (some w1.heap.size))).alloc (.map #[] 0) := ⟨_, rfl⟩
          rw [← hwme] at hwm hwc hwc2
          rw [← hwme]
          clear hwme
          have hlt1 : wr.heap.size < w1.heap.size := lt_of_heap hbx
          have hbxm := (hwc2.block wr.heap.size hlt1 (fun e => absurd hsbr (by rw [show wr.heap.size = sb from e]; exact Nat.lt_irrefl _))).trans hbx
          have hwk := hwm.k2
          clear p10 p11 p12 p13 pf1 q10 q11
          obtain ⟨q10, q11⟩ := cells2 hbxm
          obtain ⟨p10, p11, p12, p13, pf1⟩ := cells4 hwm.here
          go_wp2_with (first
            | (refine wp_region_free (by kernel_rfl) (fun _ _ => ?_))
            | (at_mapUpdate; go_loud (refine wpList_mapUpdate_set rfl _ _ _ 53 rfl kRange Try.underlying53 Try.underlying3 w1.heap.size rfl (hwk.keep (fun _ _ => rfl)) _ _ rfl (rKey_is hxok) _ rfl (by first | exact len_wf (by simp only [maxLen]; omega) | decide) (by simp only [List.length_map, maxLen]; omega) (fun e => hmem ((rKeys_mem hxok hin.ok2).1 e)) ?_); intro w2 hm2 hc2; have hh2 := (hc2.block sb hwm.lt_sb (fun e => hwm.sb_m2 (by rw [e]))).trans hwm.here; obtain ⟨p20, p21, p22, p23, pf2⟩ := cells4 hh2; have hbx2 := (hc2.block wr.heap.size (lt_of_heap hbxm) (fun e => absurd hlt1 (by rw [show wr.heap.size = w1.heap.size from e]; exact Nat.lt_irrefl _))).trans hbxm; obtain ⟨q20, q21⟩ := cells2 hbx2; have hs2 := (hwm.s2.keep (w' := wm.drew) (fun _ _ _ => rfl)).chg hc2 (fun j hj e => hwm.v2_m (.inr rfl) ((e : j = w1.heap.size) ▸ hj)))
            | (at_builtin; go_loud (refine wpList_append_sl _ rfl (.tmp 47) (.tmp 49) 52 rfl 72 i0 _ 2 32 Try.underlying52 hi0 hz0 hz1 hz2 rfl (by omega) _ _ _ _ rfl (hs2.chg ((Chg.refl (fun _ => False) _).drew.alloc _) (fun _ _ f => f)) _ _ 1 1 [.string x1, .string x2] rfl (reads_new2 _ _ _ _) (by intro u hu; simp at hu; rcases hu with rfl | rfl <;> rfl) (by simp only [maxLen]; omega) (by omega) ?_); intro v1' w3 F3 hs3 hc3 hf3 hnz; obtain ⟨A3, c3, rfl, _, _⟩ := hs3.shape; have hh3 := (hc3.block sb (Nat.lt_of_lt_of_le (Nat.lt_of_lt_of_le hwm.lt_sb hc2.size) (le_alloc2 _ _)) (fun e => hwm.sb_v2 e)).trans ((heap_alloc_old _ _ (lt_of_heap hh2)).trans hh2); obtain ⟨p30, p31, p32, p33, pf3⟩ := cells4 hh3))
          try (case isTrue => rename_i hbad; rw [pf3] at hbad; cases hbad)
          have hfin := hwm.add2 hxok hmem (w1 := w2) ((⟨rfl, rfl, rfl, Nat.le_refl _, fun _ _ _ => rfl⟩ : Chg (fun j => j = w1.heap.size) wm wm.drew).trans hc2 (fun _ _ e => e)) hm2 (by first | exact ((Chg.refl _ _).alloc _).drew | exact ((Chg.refl _ _).drew).alloc _ | exact (Chg.refl _ _).alloc _) hs3 hc3 hf3
          refine ⟨⟨k + 1, by omega, by simp, ?_⟩, by simp [intOf]; omega⟩
          rw [Hs.out]
          exact ⟨_, _, _, _, _, hfin.1, ((hchg.trans hcA (fun _ _ f => f.elim)).trans2 hwc hfrm hcA.size).trans2 hfin.2 (hfrm.step hcA.size hchg.size hwc.size) (Nat.le_refl _), ((hfrm.step hcA.size hchg.size hwc.size).step (Nat.le_refl _) (Nat.le_trans hchg.size (Nat.le_trans hcA.size hwc.size)) hfin.2.size)⟩
        · go_wp2_with (first
            | (go_at_call 45; refine (has_range sb v1 _ m1 _ _ (x1, x2) _ (hin.chg ((Chg.refl (fun _ => False) _).alloc _) (fun _ _ f => f)).here (hin.chg ((Chg.refl (fun _ => False) _).alloc _) (fun _ _ f => f)).k2 hxok).mono ?_; rintro e w1 ⟨B, rfl, hB, hc1⟩; obtain rfl : B = false := Bool.eq_false_iff.2 (fun e => hmem ((rKeys_mem hxok hin.ok2).1 (hB.1 e))); have hcA : Chg (fun _ => False) wr w1 := ((Chg.refl (fun _ => False) wr).alloc _).trans hc1 (fun _ _ f => f); have h1 := hin.chg hcA (fun _ _ f => f); have hbx := (hc1.block wr.heap.size (by rw [World.size_alloc]; exact Nat.lt_succ_self _) (fun f => f)).trans (heap_alloc_new wr _); obtain ⟨q10, q11⟩ := cells2 hbx; obtain ⟨p10, p11, p12, p13, pf1⟩ := cells4 h1.here; have hk1 := h1.k2; have hsb1 := h1.lt_sb)
            | (refine wp_region_free (by kernel_rfl) (fun _ _ => ?_))
            | (at_mapUpdate; go_loud (refine wpList_mapUpdate_set rfl _ _ _ 53 rfl kRange Try.underlying53 Try.underlying3 b rfl (hk1.keep (fun _ _ => rfl)) _ _ rfl (rKey_is hxok) _ rfl (len_wf (by simp only [maxLen]; omega)) (by simp only [List.length_map, maxLen]; omega) (fun e => hmem ((rKeys_mem hxok hin.ok2).1 e)) ?_); intro w2 hm2 hc2; have hh2 := (hc2.block sb h1.lt_sb (fun e => h1.sb_m2 (by rw [e]))).trans h1.here; obtain ⟨p20, p21, p22, p23, pf2⟩ := cells4 hh2; have hbx2 := (hc2.block wr.heap.size (lt_of_heap hbx) (fun e => absurd (hin.lt_m2 rfl) (by rw [e]; exact Nat.lt_irrefl _))).trans hbx; obtain ⟨q20, q21⟩ := cells2 hbx2; have hs2 := (h1.s2.keep (w' := w1.drew) (fun _ _ _ => rfl)).chg hc2 (fun j hj e => h1.v2_m (.inr rfl) ((e : j = b) ▸ hj)))
            | (at_builtin; go_loud (refine wpList_append_sl _ rfl (.tmp 47) (.tmp 49) 52 rfl 72 i0 _ 2 32 Try.underlying52 hi0 hz0 hz1 hz2 rfl (by omega) _ _ _ _ rfl (hs2.chg ((Chg.refl (fun _ => False) _).drew.alloc _) (fun _ _ f => f)) _ _ 1 1 [.string x1, .string x2] rfl (reads_new2 _ _ _ _) (by intro u hu; simp at hu; rcases hu with rfl | rfl <;> rfl) (by simp only [maxLen]; omega) (by omega) ?_); intro v1' w3 F3 hs3 hc3 hf3 hnz; obtain ⟨A3, c3, rfl, _, _⟩ := hs3.shape; have hh3 := (hc3.block sb (Nat.lt_of_lt_of_le (Nat.lt_of_lt_of_le h1.lt_sb hc2.size) (le_alloc2 _ _)) (fun e => h1.sb_v2 e)).trans ((heap_alloc_old _ _ (lt_of_heap hh2)).trans hh2); obtain ⟨p30, p31, p32, p33, pf3⟩ := cells4 hh3))
          try (case isTrue => rename_i hbad; rw [pf3] at hbad; cases hbad)
          have hfin := h1.add2 hxok hmem (w1 := w2) ((⟨rfl, rfl, rfl, Nat.le_refl _, fun _ _ _ => rfl⟩ : Chg (fun j => j = b) w1 w1.drew).trans hc2 (fun _ _ e => e)) hm2 (by first | exact ((Chg.refl _ _).alloc _).drew | exact ((Chg.refl _ _).drew).alloc _ | exact (Chg.refl _ _).alloc _) hs3 hc3 hf3
          refine ⟨⟨k + 1, by omega, by simp, ?_⟩, by simp [intOf]; omega⟩
          rw [Hs.out]
          exact ⟨_, _, _, _, _, hfin.1, (hchg.trans hcA (fun _ _ f => f.elim)).trans2 hfin.2 hfrm hcA.size, (hfrm.step hcA.size hchg.size hfin.2.size)⟩
    · obtain rfl : k = n := by omega
      rw [List.take_of_length_le (by omega)] at hin
      obtain ⟨ys, hys, hyl⟩ := raddAll_grows rs xs
      obtain ⟨A1, c1, rfl, hc1m, hc1n⟩ := hin.s2.shape
      have hlen : (raddAll rs xs).length ≤ 64 + xs.length := by rw [hys]; simp; omega
      obtain ⟨p10, p11, p12, p13, pf1⟩ := cells4 hin.here
      by_cases h64 : (raddAll rs xs).length ≤ 64
      · have hfin : noteR rs xs = (raddAll rs xs, 0) := by unfold noteR; rw [if_pos h64]
        have Hfin := Lib.hid hfin
        clear hfin hys
        go_wp2
        go_ret
        rw [Hfin.out]
        exact ⟨Fk, rfl, ⟨hl64, h64, _, _, _, _, hin⟩, hchg, hfrm⟩
      · have hfin : noteR rs xs = (rs, 4) := by unfold noteR; rw [if_neg h64]
        have Hfin := Lib.hid hfin
        have Hys := Lib.hid hys
        have hlt64 : rs.length < (raddAll rs xs).length := by omega
        clear hfin hys
        have h64' : 64 < (raddAll rs xs).length := by omega
        generalize raddAll rs xs = lf at *
        obtain ⟨ad, rfl, hadx, hcxx⟩ := hin.s2.cells.2 (show 0 < lf.length by omega)
        obtain ⟨b, rfl⟩ : ∃ b, m2 = some b := by
          rcases hm1 : m2 with _ | b
          · exact absurd hm1 (hin.n2 (fun e => by rw [e] at h64'; simp at h64'))
          · exact ⟨b, rfl⟩
        go_wp2
        obtain ⟨wo, rfl⟩ : ∃ wo : World, wo = wr := ⟨_, rfl⟩
        have Hin := Lib.hid hin
        have hsbo := hin.lt_sb
        have hbne : ¬ sb = b := fun e => hin.sb_m2 (by rw [e])
        have hysl : ys.length = lf.length - rs.length := by rw [Hys.out]; simp
        clear hin
        go_loopw [67] (fun i wr => ∃ j : Nat, j ≤ ys.length ∧ i = .int .i64 j ∧ Chg (fun q => q = b) wo wr ∧ MapSet Try.prog 72 3 wr (some b) ((rs ++ ys.drop j).map rKey)) (fun i _ => ys.length - (intOf i).toNat)
        case atStart => exact ⟨0, by omega, rfl, Chg.refl _ _, by rw [List.drop_zero, ← Hys.out]; exact Hin.out.k2⟩
        case round =>
          obtain ⟨j, hj, rfl, hcj, hmj⟩ := hrel
          by_cases hjl : j < ys.length
          · obtain ⟨y, hy⟩ : ∃ y, ys[j]? = some y := ⟨_, List.getElem?_eq_getElem hjl⟩
            have hnd := Hin.out.nd2
            rw [Hys.out] at hnd
            have hyok : rOk y := Hin.out.ok2 y (by rw [Hys.out]; exact List.mem_append_right _ (List.mem_of_getElem? hy))
            have hdr : ys.drop j = y :: ys.drop (j + 1) := by rw [List.drop_eq_getElem_cons hjl, (List.getElem?_eq_some_iff.1 hy).2]
            have hat : (rs ++ ys)[rs.length + j]? = some y := by rw [List.getElem?_append_right (by omega), Nat.add_sub_cancel_left, hy]
            obtain ⟨hy1, hy2⟩ := rCells_at (rs ++ ys) (rs.length + j) y hat
            have hcells : ∀ (m : Nat) (v : Value), (rCells (rs ++ ys))[m]? = some v → wr.cell? (ad.add m) = some v := fun m v hm => by
              obtain ⟨ad', he, hab, hcc⟩ := Hin.out.s2.cells.2 (show 0 < lf.length by omega)
              cases he
              have hblk : wr.heap[(ad.add m).block]? = wo.heap[(ad.add m).block]? := by
                rw [block_of_add]
                exact hcj.block _ hab (fun e => Hin.out.v2_m (.inr rfl) (congrArg some e))
              rw [World.cell?_of_block hblk]
              exact hcc m v (by rw [Hys.out]; exact hm)
            have hcell1 : wr.cell? ((ad.add (rs.length * 2)).add (j * 2)) = some (.string y.1) := by
              rw [add_of_add, show rs.length * 2 + j * 2 = 2 * (rs.length + j) by omega]; exact hcells _ _ hy1
            have hcell2 : wr.cell? ⟨((ad.add (rs.length * 2)).add (j * 2)).block, ((ad.add (rs.length * 2)).add (j * 2)).off + 1, none⟩ = some (.string y.2) := by
              show wr.cell? (((ad.add (rs.length * 2)).add (j * 2)).add 1) = _
              rw [add_of_add, add_of_add, show rs.length * 2 + (j * 2 + 1) = 2 * (rs.length + j) + 1 by omega]; exact hcells _ _ hy2
            have hnl : y ∉ rs := fun e => (List.nodup_append.1 hnd).2.2 y e y (List.mem_of_getElem? hy) rfl
            have hnr : y ∉ ys.drop (j + 1) := by
              have := (List.nodup_append.1 hnd).2.1
              have h2 : (ys.drop j).Nodup := List.Sublist.nodup (List.drop_sublist _ _) this
              rw [hdr] at h2
              exact (List.nodup_cons.1 h2).1
            have hol : ∀ x ∈ rs, rOk x := fun x hx => Hin.out.ok2 x (by rw [Hys.out]; exact List.mem_append_left _ hx)
            have hor : ∀ x ∈ ys.drop (j + 1), rOk x := fun x hx => Hin.out.ok2 x (by rw [Hys.out]; exact List.mem_append_right _ (List.mem_of_mem_drop hx))
            rw [hdr] at hmj
            have hk : (rs ++ y :: ys.drop (j + 1)).map rKey = rs.map rKey ++ rKey y :: (ys.drop (j + 1)).map rKey := by simp
            rw [hk] at hmj
            have hjz : (j : Int) < ((lf.length - rs.length : Nat) : Int) := by omega
            obtain ⟨p10, p11, p12, p13, pf1⟩ := cells4 ((hcj.block sb hsbo hbne).trans Hin.out.here)
            have hsbr : sb < wr.heap.size := Nat.lt_of_lt_of_le hsbo hcj.size
            have Hy := Lib.hid hy
            have Hdr := Lib.hid hdr
            have Hk := Lib.hid hk
            clear hy hdr hk hnd hat hy1 hy2 hcells
            obtain ⟨y1, y2⟩ := y
            go_wp2_with (first
              | (refine wp_region_free (by kernel_rfl) (fun _ _ => ?_))
              | (at_delete; (refine wpList_delete_set rfl _ _ 53 rfl kRange Try.underlying53 b (rs.map rKey) ((ys.drop (j + 1)).map rKey) (rKey (y1, y2)) rfl (hmj.keep fun b hb => heap_alloc_old wr _ (hmj.lt hb).1) _ rfl (rKey_is hyok) (fun e => hnl ((rKeys_mem hyok hol).1 e)) (fun e => hnr ((rKeys_mem hyok hor).1 e)) ?_); intro w2 hm2 hc2))
            exact ⟨⟨j + 1, by omega, by simp, (hcj.trans ((Chg.refl (fun _ => False) _).alloc _).drew (fun _ _ f => f.elim)).trans hc2 (fun _ _ e => e), by simpa using hm2⟩, by simp [intOf]; omega⟩
          · obtain rfl : j = ys.length := by omega
            rw [List.drop_length, List.append_nil] at hmj
            obtain ⟨p10, p11, p12, p13, pf1⟩ := cells4 ((hcj.block sb hsbo hbne).trans Hin.out.here)
            go_wp2_with (refine wp_region_free (by kernel_rfl) (fun _ _ => ?_))
            go_ret
            rw [Hfin.out]
            have hin := Hin.out
            rw [Hys.out] at hin hc1n
            have hcut := hin.cut2 (by simp) (by simp) hc1n hcj hmj
            refine ⟨_, rfl, ⟨hl64, hr64, _, _, _, _, hcut.1⟩, hchg.trans2 hcut.2 hfrm (Nat.le_refl _), hfrm.trans (From.refl _ _ _) hchg.size hcut.2.size⟩
end Go.Proofs.Ytflinpnmpkdopaa
