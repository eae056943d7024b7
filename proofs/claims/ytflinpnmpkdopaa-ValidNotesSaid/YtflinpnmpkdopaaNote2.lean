/- The walk of note over versions. -/
import Derived.Test.YtflinpnmpkdopaaNote1
import Derived.WalkLawsBesides
import Derived.WalkSpells
import Derived.Outline
import Derived.Lib.Hide
namespace Go.Proofs.Ytflinpnmpkdopaa
set_option linter.unusedVariables false
set_option linter.unusedSimpArgs false
open Go.RowKit Go.Maps Go.ChangeMaps Xw

def addOne (l : List Int) (x : Int) : List Int := if x ∈ l then l else l ++ [x]
def addAll (l : List Int) (xs : List Int) : List Int := xs.foldl addOne l
theorem addAll_snoc (l xs : List Int) (k : Nat) (x : Int) (hx : xs[k]? = some x) : addAll l (xs.take (k + 1)) = addOne (addAll l (xs.take k)) x := by
  have hk := (List.getElem?_eq_some_iff.1 hx).1
  rw [List.take_succ_eq_append_getElem hk, (List.getElem?_eq_some_iff.1 hx).2]
  simp [addAll, List.foldl_append]
theorem addAll_grows (l : List Int) : ∀ xs : List Int, ∃ ys, addAll l xs = l ++ ys ∧ ys.length ≤ xs.length
  | [] => ⟨[], by simp [addAll], Nat.le_refl _⟩
  | x :: xs => by
    unfold addAll
    rw [List.foldl_cons]
    unfold addOne
    split
    · obtain ⟨ys, h1, h2⟩ := addAll_grows l xs
      exact ⟨ys, h1, by simp; omega⟩
    · obtain ⟨ys, h1, h2⟩ := addAll_grows (l ++ [x]) xs
      exact ⟨x :: ys, by rw [show List.foldl (fun l x => if x ∈ l then l else l ++ [x]) (l ++ [x]) xs = addAll (l ++ [x]) xs from rfl, h1]; simp, by simp; omega⟩
/-- What is noted, and the code. -/
def noteI (l xs : List Int) : List Int × Int := if (addAll l xs).length ≤ 64 then (addAll l xs, 0) else (l, 4)

def NotePost (F : Nat → Prop) (w : World) (sb : Nat) (l : List Int) (rs : List Rng) (code : Int) (e : Ending) (w' : World) : Prop :=
  ∃ F', e = .returned (.int .i64 code) ∧ SeesAt w' sb l rs F' ∧ Chg F w w' ∧ From F w w' F'
def NoteRel (F : Nat → Prop) (w : World) (sb : Nat) (l : List Int) (rs : List Rng) (wr : World) : Prop :=
  ∃ Fk v1 m1 v2 m2, SeesIn wr sb l rs Fk v1 m1 v2 m2 ∧ Chg F w wr ∧ From F w wr Fk

theorem int_info : (Try.prog.info? 3).map (fun i => (i.zero, i.size, i.bytes)) = some (some (.int .i64 0), 1, 8) := by kernel_rfl

theorem run_store_map (P : Program) (w : World) (a : Addr) (m : Mode) (r : Option Nat) : (store a (.map r) m).run P w = stored P w a (.map r) m := run_store P w a _ m rfl
attribute [local go_sem] run_store_map
theorem reads_new (w : World) (v : Value) (e : TypeId) : Reads (w.alloc (.cells #[v] e)) (w.heap.size + 1) 1 (some ⟨w.heap.size, 0, none⟩) 1 [v] := by
  refine ⟨rfl, fun _ => ⟨_, rfl, Nat.lt_succ_self _, fun j u hj => ?_⟩⟩
  have e1 : (⟨w.heap.size, 0, none⟩ : Addr).add j = ⟨w.heap.size, j, none⟩ := by unfold Addr.add; split <;> simp_all
  rw [e1, cell_of_row _ _ _ _ _ _ (heap_alloc_new w _)]
  simpa using hj
theorem cells_of {w : World} {sb : Nat} {cs : Array Value} {t : TypeId} (h : w.heap[sb]? = some (.cells cs t (0, 0))) : (∀ i, w.cell? ⟨sb, i, none⟩ = cs[i]?) ∧ (∀ i, w.frozen? ⟨sb, i, none⟩ = false) :=
  ⟨fun i => cell_of_row w sb i _ _ _ h, fun i => by simp [World.frozen?, h]⟩
theorem cells4 {w : World} {sb : Nat} {a b c d : Value} {t : TypeId} (h : w.heap[sb]? = some (.cells #[a, b, c, d] t (0, 0))) : w.cell? ⟨sb, 0, none⟩ = some a ∧ w.cell? ⟨sb, 1, none⟩ = some b ∧ w.cell? ⟨sb, 2, none⟩ = some c ∧ w.cell? ⟨sb, 3, none⟩ = some d ∧ (∀ i, w.frozen? ⟨sb, i, none⟩ = false) :=
  ⟨(cells_of h).1 0, (cells_of h).1 1, (cells_of h).1 2, (cells_of h).1 3, (cells_of h).2⟩
theorem iKeys_mem {x : Int} {l : List Int} : Lit.int .i64 x ∈ iKeys l ↔ x ∈ l := by
  unfold iKeys
  rw [List.mem_map]
  exact ⟨fun ⟨y, hy, e⟩ => by cases e; exact hy, fun h => ⟨x, h, rfl⟩⟩
theorem le_alloc2 (w : World) (o : Obj) : w.heap.size ≤ (w.alloc o).heap.size := by rw [World.size_alloc]; omega
theorem len_wf {n : Nat} (h : n ≤ maxLen) : (Lit.int .i64 (n : Int)).wf = true := by
  simp only [maxLen] at h
  simp [Lit.wf, IntKind.min, IntKind.max, IntKind.bits, IntKind.signed]
  omega

set_option maxHeartbeats 1000000 in
set_option maxRecDepth 100000 in
theorem note_int (sb : Nat) (l : List Int) (rs : List Rng) (F : Nat → Prop) (A : Option Addr) (n c : Nat) (xs : List Int) (w : World) (h : SeesAt w sb l rs F) (hr : Reads w w.heap.size 1 A n (iCells xs)) (hA : ∀ ad, A = some ad → 0 < n → ¬ F ad.block)
    (hok : ∀ x ∈ xs, i64ok x) (hb : n * 8 ≤ 140737488351232) :
    Calls Try.prog 39 #[.pointer (some ⟨sb, 0, none⟩), .slice A n c] w (NotePost F w sb (noteI l xs).1 rs (noteI l xs).2) := by
  obtain ⟨i0, hi0, hz0, hz1, hz2⟩ := info_parts int_info
  have hmm := @run_makeMap Try.prog
  have hmn : ∀ (w : World) (r : Option Nat), (binOp .eql 47 (.map r) (.map none)).run Try.prog w = .ok (.bool (r.isNone)) w := fun w r => run_eql_map_nil w _ _ _ r Try.underlying47
  obtain ⟨hl64, hr64, v10, m10, v20, m20, hin0⟩ := h
  obtain ⟨A0, c0, rfl, hc0m, hc0n⟩ := hin0.s1.shape
  have hcell0 := hin0.cell
  have hxl : xs.length = n := by have := hr.1; simpa [iCells] using this
  go_enter Try.func39, Try.ntmps39
  go_wp2
  clear hcell0
  go_loopw [17] (fun i wr => ∃ k : Nat, k ≤ n ∧ i = .int .i64 k ∧ NoteRel F w sb (addAll l (xs.take k)) rs wr) (fun i _ => n - (intOf i).toNat)
  case atStart => exact ⟨0, by omega, rfl, F, _, _, _, _, hin0, Chg.refl _ _, From.refl _ _ _⟩
  case round =>
    obtain ⟨k, hk, rfl, Fk, v1, m1, v2, m2, hin, hchg, hfrm⟩ := hrel
    by_cases hlt : k < n
    · obtain ⟨ad, u, rfl, hadb, hxu, hcx⟩ := hr.at_ hlt
      obtain ⟨x, hx, rfl⟩ := map_getElem hxu
      have hcx' : wr.cell? (ad.add k) = some (.int .i64 x) := (World.cell?_of_block (by rw [block_of_add]; exact hchg.block _ hadb (hA ad rfl (by omega)))).trans hcx
      have hxok : i64ok x := hok x (List.mem_of_getElem? hx)
      by_cases hmem : x ∈ addAll l (xs.take k)
      · go_wp2_with (first
          | (go_at_call 42; refine (has_int sb v1 v2 m1 m2 _ x _ hin.here hin.k1 hxok).mono ?_; rintro e w1 ⟨B, rfl, hB, hc1⟩; obtain rfl : B = true := hB.2 (by simp [iKeys, hmem])))
        have hs : addAll l (xs.take (k + 1)) = addAll l (xs.take k) := by rw [addAll_snoc l xs k x hx]; simp [addOne, hmem]
        exact ⟨⟨k + 1, by omega, by simp, by rw [hs]; exact ⟨Fk, _, _, _, _, hin.chg hc1 (fun _ _ f => f), hchg.trans hc1 (fun _ _ f => f.elim), hfrm.trans (From.refl _ _ _) hchg.size hc1.size⟩⟩, by simp [intOf]; omega⟩
      · have hs : addAll l (xs.take (k + 1)) = addAll l (xs.take k) ++ [x] := by rw [addAll_snoc l xs k x hx]; simp [addOne, hmem]
        obtain ⟨ys, hys, hyl⟩ := addAll_grows l (xs.take k)
        have hlen : (addAll l (xs.take k)).length ≤ 64 + n := by rw [hys]; simp at hyl ⊢; omega
        have Hs := Lib.hid hs
        have Hx := Lib.hid hx
        clear hs hys hyl hx hxu hcx
        generalize addAll l (xs.take k) = lk at *
        obtain ⟨A1, c1, rfl, hc1m, hc1n⟩ := hin.s1.shape
        rcases m1 with _ | b
        · obtain rfl : lk = [] := by
            rcases Classical.em (lk = []) with h0 | h0
            · exact h0
            · exact absurd rfl (hin.n1 h0)
          go_wp2_with (first
            | (go_at_call 42; refine (has_int sb _ v2 _ m2 _ x _ hin.here hin.k1 hxok).mono ?_; rintro e w1 ⟨B, rfl, hB, hc1⟩; obtain rfl : B = false := Bool.eq_false_iff.2 (fun e => hmem (iKeys_mem.1 (hB.1 e))); have h1 := hin.chg hc1 (fun _ _ f => f); obtain ⟨p10, p11, p12, p13, pf1⟩ := cells4 h1.here; have hk1 := h1.k1; have hsb1 := h1.lt_sb))
          case isTrue => rename_i hbad; rw [World.frozen?_alloc_past _ _ _ hsb1, pf1] at hbad; cases hbad
          obtain ⟨hwm, hwc⟩ := h1.make1
          rw [World.setCell_alloc_past _ _ _ _ hsb1] at hwm hwc
          obtain ⟨wm, hwme⟩ : ∃ wm : World, wm = (w1.setCell ⟨sb, 1, none⟩ (.map (some w1.heap.size))).alloc (.map #[] 0) := ⟨_, rfl⟩
          rw [← hwme] at hwm hwc
          rw [← hwme]
          clear hwme
          have hwk := hwm.k1
          clear p10 p11 p12 p13 pf1
          obtain ⟨p10, p11, p12, p13, pf1⟩ := cells4 hwm.here
          go_wp2_with (first
            | (refine wp_region_free (by kernel_rfl) (fun _ _ => ?_))
            | (at_mapUpdate; (refine wpList_mapUpdate_set rfl _ _ _ 47 rfl kInt Try.underlying47 Try.underlying3 w1.heap.size rfl (hwk.keep (fun _ _ => rfl)) _ _ rfl (keyOf_int_mk Try.underlying3 hxok) _ rfl (by first | exact len_wf (by simp only [maxLen]; omega) | decide) (by simp only [iKeys, List.length_map, maxLen]; omega) (fun e => hmem (iKeys_mem.1 e)) ?_); intro w2 hm2 hc2; have hh2 := (hc2.block sb hwm.lt_sb (fun e => hwm.sb_m1 (by rw [e]))).trans hwm.here; obtain ⟨p20, p21, p22, p23, pf2⟩ := cells4 hh2; have hs2 := (hwm.s1.keep (w' := wm.drew) (fun _ _ _ => rfl)).chg hc2 (fun j hj e => hwm.v1_m1 (.inl rfl) ((e : j = w1.heap.size) ▸ hj)))
            | (at_builtin; (refine wpList_append_sl _ rfl (.tmp 47) (.tmp 49) 37 rfl 3 i0 _ 1 8 Try.underlying37 hi0 hz0 hz1 hz2 rfl (by omega) _ _ _ _ rfl (hs2.chg ((Chg.refl (fun _ => False) _).alloc _) (fun _ _ f => f)) _ _ 1 1 [.int .i64 x] rfl (reads_new _ _ _) (by intro u hu; rw [List.mem_singleton.1 hu]; rfl) (by simp only [maxLen]; omega) (by omega) ?_); intro v1' w3 F3 hs3 hc3 hf3 hnz; obtain ⟨A3, c3, rfl, _, _⟩ := hs3.shape; have hh3 := (hc3.block sb (Nat.lt_of_lt_of_le (Nat.lt_of_lt_of_le hwm.lt_sb hc2.size) (le_alloc2 _ _)) (fun e => hwm.sb_v1 e)).trans ((heap_alloc_old _ _ (lt_of_heap hh2)).trans hh2); obtain ⟨p30, p31, p32, p33, pf3⟩ := cells4 hh3))
          case isTrue => rename_i hbad; rw [pf3] at hbad; cases hbad
          have hfin := hwm.add1 hxok hmem (w1 := w2) (w2 := w2.alloc (.cells #[.int .i64 x] 3)) ((⟨rfl, rfl, rfl, Nat.le_refl _, fun _ _ _ => rfl⟩ : Chg (fun j => j = w1.heap.size) wm wm.drew).trans hc2 (fun _ _ e => e)) hm2 ((Chg.refl _ _).alloc _) hs3 hc3 hf3
          refine ⟨⟨k + 1, by omega, by simp, ?_⟩, by simp [intOf]; omega⟩
          rw [Hs.out]
          exact ⟨_, _, _, _, _, hfin.1, ((hchg.trans hc1 (fun _ _ f => f.elim)).trans2 hwc hfrm hc1.size).trans2 hfin.2 (hfrm.step hc1.size hchg.size hwc.size) (Nat.le_refl _), ((hfrm.step hc1.size hchg.size hwc.size).step (Nat.le_refl _) (Nat.le_trans hchg.size (Nat.le_trans hc1.size hwc.size)) hfin.2.size)⟩
        · go_wp2_with (first
            | (go_at_call 42; refine (has_int sb _ v2 _ m2 _ x _ hin.here hin.k1 hxok).mono ?_; rintro e w1 ⟨B, rfl, hB, hc1⟩; obtain rfl : B = false := Bool.eq_false_iff.2 (fun e => hmem (iKeys_mem.1 (hB.1 e))); have h1 := hin.chg hc1 (fun _ _ f => f); obtain ⟨p10, p11, p12, p13, pf1⟩ := cells4 h1.here; have hk1 := h1.k1; have hsb1 := h1.lt_sb)
            | (refine wp_region_free (by kernel_rfl) (fun _ _ => ?_))
            | (at_mapUpdate; (refine wpList_mapUpdate_set rfl _ _ _ 47 rfl kInt Try.underlying47 Try.underlying3 b rfl (hk1.keep (fun _ _ => rfl)) _ _ rfl (keyOf_int_mk Try.underlying3 hxok) _ rfl (len_wf (by simp only [maxLen]; omega)) (by simp only [iKeys, List.length_map, maxLen]; omega) (fun e => hmem (iKeys_mem.1 e)) ?_); intro w2 hm2 hc2; have hh2 := (hc2.block sb h1.lt_sb (fun e => h1.sb_m1 (by rw [e]))).trans h1.here; obtain ⟨p20, p21, p22, p23, pf2⟩ := cells4 hh2; have hs2 := (h1.s1.keep (w' := w1.drew) (fun _ _ _ => rfl)).chg hc2 (fun j hj e => h1.v1_m1 (.inl rfl) ((e : j = b) ▸ hj)))
            | (at_builtin; (refine wpList_append_sl _ rfl (.tmp 47) (.tmp 49) 37 rfl 3 i0 _ 1 8 Try.underlying37 hi0 hz0 hz1 hz2 rfl (by omega) _ _ _ _ rfl (hs2.chg ((Chg.refl (fun _ => False) _).alloc _) (fun _ _ f => f)) _ _ 1 1 [.int .i64 x] rfl (reads_new _ _ _) (by intro u hu; rw [List.mem_singleton.1 hu]; rfl) (by simp only [maxLen]; omega) (by omega) ?_); intro v1' w3 F3 hs3 hc3 hf3 hnz; obtain ⟨A3, c3, rfl, _, _⟩ := hs3.shape; have hh3 := (hc3.block sb (Nat.lt_of_lt_of_le (Nat.lt_of_lt_of_le h1.lt_sb hc2.size) (le_alloc2 _ _)) (fun e => h1.sb_v1 e)).trans ((heap_alloc_old _ _ (lt_of_heap hh2)).trans hh2); obtain ⟨p30, p31, p32, p33, pf3⟩ := cells4 hh3))
          case isTrue => rename_i hbad; rw [pf3] at hbad; cases hbad
          have hfin := h1.add1 hxok hmem (w1 := w2) (w2 := w2.alloc (.cells #[.int .i64 x] 3)) ((⟨rfl, rfl, rfl, Nat.le_refl _, fun _ _ _ => rfl⟩ : Chg (fun j => j = b) w1 w1.drew).trans hc2 (fun _ _ e => e)) hm2 ((Chg.refl _ _).alloc _) hs3 hc3 hf3
          refine ⟨⟨k + 1, by omega, by simp, ?_⟩, by simp [intOf]; omega⟩
          rw [Hs.out]
          exact ⟨_, _, _, _, _, hfin.1, (hchg.trans hc1 (fun _ _ f => f.elim)).trans2 hfin.2 hfrm hc1.size, (hfrm.step hc1.size hchg.size hfin.2.size)⟩
    · obtain rfl : k = n := by omega
      rw [List.take_of_length_le (by omega)] at hin
      obtain ⟨ys, hys, hyl⟩ := addAll_grows l xs
      obtain ⟨A1, c1, rfl, hc1m, hc1n⟩ := hin.s1.shape
      have hlen : (addAll l xs).length ≤ 64 + xs.length := by rw [hys]; simp; omega
      obtain ⟨p10, p11, p12, p13, pf1⟩ := cells4 hin.here
      by_cases h64 : (addAll l xs).length ≤ 64
      · have hfin : noteI l xs = (addAll l xs, 0) := by unfold noteI; rw [if_pos h64]
        have Hfin := Lib.hid hfin
        clear hfin hys
        go_wp2
        go_ret
        rw [Hfin.out]
        exact ⟨Fk, rfl, ⟨h64, hr64, _, _, _, _, hin⟩, hchg, hfrm⟩
      · have hfin : noteI l xs = (l, 4) := by unfold noteI; rw [if_neg h64]
        have Hfin := Lib.hid hfin
        have Hys := Lib.hid hys
        have hlt64 : l.length < (addAll l xs).length := by omega
        clear hfin hys
        have h64' : 64 < (addAll l xs).length := by omega
        generalize addAll l xs = lf at *
        obtain ⟨ad, _, rfl, _, _, _⟩ := hin.s1.cells.at_ (show 0 < lf.length by omega)
        obtain ⟨b, rfl⟩ : ∃ b, m1 = some b := by
          rcases hm1 : m1 with _ | b
          · exact absurd hm1 (hin.n1 (fun e => by rw [e] at h64'; simp at h64'))
          · exact ⟨b, rfl⟩
        go_wp2
        obtain ⟨wo, rfl⟩ : ∃ wo : World, wo = wr := ⟨_, rfl⟩
        have Hin := Lib.hid hin
        have hsbo := hin.lt_sb
        have hbne : ¬ sb = b := fun e => hin.sb_m1 (by rw [e])
        have hysl : ys.length = lf.length - l.length := by rw [Hys.out]; simp
        clear hin
        go_loopw [67] (fun i wr => ∃ j : Nat, j ≤ ys.length ∧ i = .int .i64 j ∧ Chg (fun q => q = b) wo wr ∧ MapSet Try.prog 3 3 wr (some b) (iKeys (l ++ ys.drop j))) (fun i _ => ys.length - (intOf i).toNat)
        case atStart => exact ⟨0, by omega, rfl, Chg.refl _ _, by rw [List.drop_zero, ← Hys.out]; exact Hin.out.k1⟩
        case round =>
          obtain ⟨j, hj, rfl, hcj, hmj⟩ := hrel
          by_cases hjl : j < ys.length
          · obtain ⟨y, hy⟩ : ∃ y, ys[j]? = some y := ⟨_, List.getElem?_eq_getElem hjl⟩
            have hnd := Hin.out.nd1
            rw [Hys.out] at hnd
            have hyok : i64ok y := Hin.out.ok1 y (by rw [Hys.out]; exact List.mem_append_right _ (List.mem_of_getElem? hy))
            have hdr : ys.drop j = y :: ys.drop (j + 1) := by rw [List.drop_eq_getElem_cons hjl, (List.getElem?_eq_some_iff.1 hy).2]
            have hcell : wr.cell? ((ad.add l.length).add j) = some (.int .i64 y) := by
              obtain ⟨ad', u, he, hab, hu, hcu⟩ := Hin.out.s1.cells.at_ (show l.length + j < lf.length by omega)
              cases he
              rw [add_of_add]
              have hblk : wr.heap[(ad.add (l.length + j)).block]? = wo.heap[(ad.add (l.length + j)).block]? := by
                rw [block_of_add]
                exact hcj.block _ hab (fun e => Hin.out.v1_m1 (.inl rfl) (congrArg some e))
              have hat : (iCells (l ++ ys))[l.length + j]? = some (.int .i64 y) := by
                unfold iCells
                rw [List.getElem?_map, List.getElem?_append_right (by omega), Nat.add_sub_cancel_left, hy]
                rfl
              rw [Hys.out] at hu
              rw [World.cell?_of_block hblk, hcu]
              exact hu.symm.trans hat
            have hnl : y ∉ l := fun e => (List.nodup_append.1 hnd).2.2 y e y (List.mem_of_getElem? hy) rfl
            have hnr : y ∉ ys.drop (j + 1) := by
              have := (List.nodup_append.1 hnd).2.1
              have h2 : (ys.drop j).Nodup := List.Sublist.nodup (List.drop_sublist _ _) this
              rw [hdr] at h2
              exact (List.nodup_cons.1 h2).1
            rw [hdr] at hmj
            have hk : iKeys (l ++ y :: ys.drop (j + 1)) = iKeys l ++ Lit.int .i64 y :: iKeys (ys.drop (j + 1)) := by simp [iKeys]
            rw [hk] at hmj
            have hjz : (j : Int) < ((lf.length - l.length : Nat) : Int) := by omega
            obtain ⟨p10, p11, p12, p13, pf1⟩ := cells4 ((hcj.block sb hsbo hbne).trans Hin.out.here)
            have Hy := Lib.hid hy
            have Hdr := Lib.hid hdr
            have Hk := Lib.hid hk
            clear hy hdr hk hnd
            go_wp2_with (first
              | (refine wp_region_free (by kernel_rfl) (fun _ _ => ?_))
              | (at_delete; (refine wpList_delete_set rfl _ _ 47 rfl kInt Try.underlying47 b (iKeys l) (iKeys (ys.drop (j + 1))) (.int .i64 y) rfl (hmj.keep (fun _ _ => rfl)) _ rfl (keyOf_int_mk Try.underlying3 hyok) (fun e => hnl (iKeys_mem.1 e)) (fun e => hnr (iKeys_mem.1 e)) ?_); intro w2 hm2 hc2))
            exact ⟨⟨j + 1, by omega, by simp, hcj.trans hc2 (fun _ _ e => e), by simpa [iKeys] using hm2⟩, by simp [intOf]; omega⟩
          · obtain rfl : j = ys.length := by omega
            rw [List.drop_length, List.append_nil] at hmj
            obtain ⟨p10, p11, p12, p13, pf1⟩ := cells4 ((hcj.block sb hsbo hbne).trans Hin.out.here)
            go_wp2_with (refine wp_region_free (by kernel_rfl) (fun _ _ => ?_))
            go_ret
            rw [Hfin.out]
            have hin := Hin.out
            rw [Hys.out] at hin hc1n
            have hcut := hin.cut1 (by simp) (by simp) hc1n hcj hmj
            refine ⟨_, rfl, ⟨hl64, hr64, _, _, _, _, hcut.1⟩, hchg.trans2 hcut.2 hfrm (Nat.le_refl _), hfrm.trans (From.refl _ _ _) hchg.size hcut.2.size⟩
end Go.Proofs.Ytflinpnmpkdopaa
