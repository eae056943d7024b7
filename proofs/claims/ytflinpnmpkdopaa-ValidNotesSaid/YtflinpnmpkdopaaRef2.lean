/- Walks: the reference's Read and Look. -/
import Derived.Test.YtflinpnmpkdopaaRef1
namespace Go.Proofs.Ytflinpnmpkdopaa
set_option linter.unusedVariables false
set_option linter.unusedSimpArgs false
open Go.RowKit Go.Maps Go.ChangeMaps Xw

def RefPost (F : Nat → Prop) (w : World) (rb : Nat) (l : List Int) (rs : List Rng) (code : Int) (e : Ending) (w' : World) : Prop :=
  ∃ F', e = .returned (.int .i64 code) ∧ RefAt w' rb l rs F' ∧ Chg F w w' ∧ From F w w' F'

/-- The reference's own copy grows, out of sight. -/
def RefGrow (w : World) (l : List Int) (wr : World) (v : Value) : Prop :=
  ∃ G, Sl wr 3 1 v l.length (iCells l) G ∧ (∀ j, G j → w.heap.size ≤ j) ∧ Chg (fun _ => False) w wr ∧ (∀ x ∈ l, i64ok x)

set_option maxHeartbeats 1000000 in
set_option maxRecDepth 100000 in
theorem ref_read (rb : Nat) (l : List Int) (rs : List Rng) (F : Nat → Prop) (A : Option Addr) (n c : Nat) (xs : List Int) (w : World) (h : RefAt w rb l rs F) (hr : Reads w w.heap.size 1 A n (iCells xs)) (hA : ∀ ad, A = some ad → 0 < n → ¬ F ad.block)
    (hok : ∀ x ∈ xs, i64ok x) (hb : n * 8 ≤ 140737488351232) :
    Calls Try.prog 30 #[.pointer (some ⟨rb, 0, none⟩), .slice A n c] w (RefPost F w rb (noteI l xs).1 rs (noteI l xs).2) := by
  obtain ⟨i0, hi0, hz0, hz1, hz2⟩ := info_parts int_info
  obtain ⟨hl64, hr64, v1, v2, hin⟩ := h
  obtain ⟨A0, c0, rfl, hc0m, hc0n⟩ := hin.s1.shape
  obtain ⟨p0, p1, pf⟩ := cells2r hin.here
  have hrd := reads_chg hin.s1.cells (B' := w.heap.size + 1) ((Chg.refl (fun _ => False) w).alloc (.cells #[] 3)) (Nat.le_refl _) (fun _ _ _ f => f) (Nat.le_succ _)
  have hnew := Sl.empty w 3 1
  have hsb := lt_of_heap hin.here
  have hxl : xs.length = n := by have := hr.1; rw [iCells_length] at this; omega
  have Hin := Lib.hid hin
  have hlok := hin.ok1
  clear hin
  go_enter Try.func30, Try.ntmps30
  go_wp2_with (at_builtin; go_loud (refine wpList_append_sl _ rfl (.tmp 7) (.tmp 11) 37 rfl 3 i0 _ 1 8 Try.underlying37 hi0 hz0 hz1 hz2 rfl (by omega) _ _ _ _ rfl hnew _ _ _ _ (iCells l) rfl hrd one_iCells (by simp only [maxLen] at *; omega) (by omega) ?_); intro v1' w3 F3 hs3 hc3 hf3 hnz; obtain ⟨A3, c3, rfl, hc3m, hc3n⟩ := hs3.shape)
  rw [List.nil_append, Nat.zero_add] at *
  have hgrow0 : RefGrow w l w3 (.slice A3 l.length c3) := by
    obtain ⟨v, F', he, hs, hf, hc⟩ := copy_post (e := .returned (.slice A3 l.length c3)) rfl hs3 hc3 hf3
    cases he
    exact ⟨_, hs, fun j hj => (hf j hj).1, hc, hlok⟩
  clear p0 p1 pf hrd hnew hs3 hc3 hf3 hnz
  go_wp2
  go_loopw [5, 6] (fun v i wr => ∃ k : Nat, k ≤ n ∧ i = .int .i64 k ∧ RefGrow w (addAll l (xs.take k)) wr v) (fun _ i _ => n - (intOf i).toNat)
  case atStart => exact ⟨0, by omega, rfl, hgrow0⟩
  case round =>
    obtain ⟨k, hk, rfl, G, hs, hG, hchg, hlk⟩ := hrel
    by_cases hlt : k < n
    · obtain ⟨A1, c1, rfl, hc1m, hc1n⟩ := hs.shape
      obtain ⟨ys, hys, hyl⟩ := addAll_grows l (xs.take k)
      have hlen : (addAll l (xs.take k)).length ≤ 64 + n := by rw [hys]; simp at hyl ⊢; omega
      obtain ⟨x, hx⟩ : ∃ x, xs[k]? = some x := ⟨_, List.getElem?_eq_getElem (by omega)⟩
      obtain ⟨ad, rfl, hadb, hcx⟩ := hr.2 (by omega)
      have hcx1 : wr.cell? (ad.add k) = some (.int .i64 x) := by
        have hblk : wr.heap[(ad.add k).block]? = w.heap[(ad.add k).block]? := by rw [block_of_add]; exact hchg.block _ hadb (fun f => f)
        exact (World.cell?_of_block hblk).trans (hcx k _ (iCells_get hx))
      have hxok := hok x (List.mem_of_getElem? hx)
      by_cases hmem : x ∈ addAll l (xs.take k)
      · have hsn : addAll l (xs.take (k + 1)) = addAll l (xs.take k) := by rw [addAll_snoc l xs k _ hx]; simp [addOne, hmem]
        have Hs := Lib.hid hsn
        have Hx := Lib.hid hx
        clear hsn hys hyl hx hcx
        go_wp2_with (go_at_call 40; refine (ref_has _ x _ _ _ _ hs.cells (by omega) hxok hlk).mono ?_; rintro e w1 ⟨B, rfl, hB, hc1⟩; obtain rfl : B = true := hB.2 hmem)
        exact ⟨⟨k + 1, by omega, by simp, by rw [Hs.out]; exact ⟨G, hs.chg hc1 (fun _ _ f => f), hG, hchg.trans hc1 (fun _ _ f => f), hlk⟩⟩, by simp [intOf]; omega⟩
      · have hsn : addAll l (xs.take (k + 1)) = addAll l (xs.take k) ++ [x] := by rw [addAll_snoc l xs k _ hx]; simp [addOne, hmem]
        have Hs := Lib.hid hsn
        have Hx := Lib.hid hx
        have hcx2 := hcx k _ (iCells_get hx)
        clear hsn hys hyl hx hcx
        generalize addAll l (xs.take k) = lk at *
        go_wp2_with (first
          | (go_at_call 40; refine (ref_has _ x _ _ _ _ hs.cells (by omega) hxok hlk).mono ?_; rintro e w1 ⟨B, rfl, hB, hc1⟩; obtain rfl : B = false := Bool.eq_false_iff.2 (fun e => hmem (hB.1 e)); have hs1 := hs.chg hc1 (fun _ _ f => f); have hcx3 : w1.cell? (ad.add k) = some (.int .i64 x) := by (have hblk : w1.heap[(ad.add k).block]? = wr.heap[(ad.add k).block]? := by rw [block_of_add]; exact hc1.block _ (Nat.lt_of_lt_of_le hadb hchg.size) (fun f => f)); exact (World.cell?_of_block hblk).trans hcx1)
          | (at_builtin; go_loud (refine wpList_append_sl _ rfl (.tmp 26) (.tmp 31) 37 rfl 3 i0 _ 1 8 Try.underlying37 hi0 hz0 hz1 hz2 rfl (by omega) _ _ _ _ rfl (hs1.chg ((Chg.refl (fun _ => False) _).alloc _) (fun _ _ f => f)) _ _ 1 1 [.int .i64 x] rfl (reads_new _ _ _) (by intro u hu; simp at hu; subst hu; rfl) (by simp only [maxLen]; omega) (by omega) ?_); intro v1' w3 F3 hs3 hc3 hf3 hnz))
        refine ⟨⟨k + 1, by omega, by simp, ?_⟩, by simp [intOf]; omega⟩
        rw [Hs.out]
        have hca : Chg (fun _ => False) w (w1.alloc (.cells #[.int .i64 x] 3)) := (hchg.trans hc1 (fun _ _ f => f)).alloc _
        refine ⟨F3, by simpa [iCells] using hs3, fun j hj => ?_, hca.trans hc3 (fun j hj hj2 => absurd hj (Nat.not_lt.2 (hG j hj2))), fun y hy => ?_⟩
        · rcases hf3 j hj with h | ⟨h, _⟩
          · exact hG j h
          · exact Nat.le_trans hca.size h
        · rcases List.mem_append.1 hy with h | h
          · exact hlk y h
          · simp at h; subst h; exact hxok
    · obtain rfl : k = n := by omega
      rw [List.take_of_length_le (by omega)] at hs hlk
      obtain ⟨A1, c1, rfl, hc1m, hc1n⟩ := hs.shape
      have hin := Hin.out
      have hin2 := hin.keep (w' := wr) fun j _ hj => hchg.block j hj (fun f => f)
      obtain ⟨p10, p11, pf1⟩ := cells2r hin2.here
      by_cases h64 : (addAll l xs).length ≤ 64
      · have hfin : noteI l xs = (addAll l xs, 0) := by unfold noteI; rw [if_pos h64]
        have Hfin := Lib.hid hfin
        clear hfin hin
        go_wp2
        go_ret
        rw [Hfin.out]
        have hin := Hin.out
        have hset : ∀ j, j ≠ rb → (wr.setCell ⟨rb, 0, none⟩ (.slice A1 (addAll l xs).length c1)).heap[j]? = wr.heap[j]? := fun j hj => Below.heap_setCell _ _ _ _ hj
        have hs0 := hs.own
        have hgb : ∀ j, (Value.slice A1 (addAll l xs).length c1).ownBlock = some j → w.heap.size ≤ j ∧ j < wr.heap.size := fun j hj => ⟨hG j (hs.own_mem hj).1, (hs.own_mem hj).2⟩
        have hsz : (wr.setCell ⟨rb, 0, none⟩ (.slice A1 (addAll l xs).length c1)).heap.size = wr.heap.size := by simp [World.setCell]
        refine ⟨Plus F w (wr.setCell ⟨rb, 0, none⟩ (.slice A1 (addAll l xs).length c1)), rfl, ⟨h64, hr64, _, _, {
          here := heap_setCell_same hin2.here
          s1 := hs0.keep fun j hj hF => hset j (fun e => by have := (hgb j hF).1; omega)
          s2 := hin2.s2.keep fun j hj hF => hset j (fun e => hin.rb_v2 (e ▸ hF))
          ok1 := hlk
          f0 := .inl hin.f0
          f1 := fun j hj => .inr (by rw [hsz]; exact hgb j hj)
          f2 := fun j hj => .inl (hin.f2 j hj) }⟩, (hchg.mono (fun _ _ f => f.elim)).setCell _ _ (fun _ => hin.f0), fun j hj => hj⟩
      · have hfin : noteI l xs = (l, 4) := by unfold noteI; rw [if_neg h64]
        have Hfin := Lib.hid hfin
        clear hfin hin
        go_wp2
        go_ret
        rw [Hfin.out]
        exact ⟨F, rfl, ⟨hl64, hr64, _, _, hin2⟩, hchg.none, From.refl _ _ _⟩

set_option maxHeartbeats 1000000 in
set_option maxRecDepth 100000 in
theorem ref_look (rb : Nat) (l : List Int) (rs : List Rng) (F : Nat → Prop) (x : Rng) (w : World) (h : RefAt w rb l rs F) :
    Calls Try.prog 32 #[.pointer (some ⟨rb, 0, none⟩), .string x.1, .string x.2] w (RefPost F w rb l (noteR rs [x]).1 (noteR rs [x]).2) := by
  obtain ⟨i0, hi0, hz0, hz1, hz2⟩ := info_parts refrange_info
  obtain ⟨hl64, hr64, v1, v2, hin⟩ := h
  obtain ⟨A0, c0, rfl, hc0m, hc0n⟩ := hin.s2.shape
  obtain ⟨p0, p1, pf⟩ := cells2r hin.here
  have hsb := lt_of_heap hin.here
  have Hin := Lib.hid hin
  have hs2 := hin.s2
  have hrd := hin.s2.cells
  clear hin
  obtain ⟨x1, x2⟩ := x
  go_enter Try.func32, Try.ntmps32
  go_wp2
  go_loopw [7] (fun i wr => ∃ k : Nat, k ≤ rs.length ∧ i = .int .i64 k ∧ (x1, x2) ∉ rs.take k ∧ wr = w) (fun i _ => rs.length - (intOf i).toNat)
  case atStart => exact ⟨0, by omega, rfl, by simp, rfl⟩
  case round =>
    obtain ⟨k, hk, rfl, hno, rfl⟩ := hrel
    by_cases hlt : k < rs.length
    · obtain ⟨y, hy⟩ : ∃ y, rs[k]? = some y := ⟨_, List.getElem?_eq_getElem hlt⟩
      obtain ⟨ad, rfl, hadb, hcx⟩ := hrd.2 (by omega)
      obtain ⟨hy1, hy2⟩ := rCells_at rs k y hy
      have hcx1 : wr.cell? (ad.add (k * 2)) = some (.string y.1) := by rw [Nat.mul_comm]; exact hcx _ _ hy1
      have hcx2 : wr.cell? ⟨(ad.add (k * 2)).block, (ad.add (k * 2)).off + 1, none⟩ = some (.string y.2) := by
        show wr.cell? ((ad.add (k * 2)).add 1) = _
        rw [add_of_add, Nat.mul_comm]; exact hcx _ _ hy2
      have htk : rs.take (k + 1) = rs.take k ++ [y] := by
        rw [List.take_succ_eq_append_getElem hlt, (List.getElem?_eq_some_iff.1 hy).2]
      have Htk := Lib.hid htk
      have Hy := Lib.hid hy
      clear htk hy hcx hy1 hy2
      obtain ⟨y1, y2⟩ := y
      have bl : ∀ a b : ByteArray, a.toList = b.toList → a = b := fun a b h => ByteArray.ext (Array.toList_inj.mp (by rw [← ByteArray.toList_eq, ← ByteArray.toList_eq]; exact h))
      by_cases h1 : y1.toList = x1.toList
      · by_cases h2 : y2.toList = x2.toList
        · obtain rfl := bl _ _ h1
          obtain rfl := bl _ _ h2
          have hmem := List.mem_of_getElem? Hy.out
          have hfin : noteR rs [(y1, y2)] = (rs, 0) := by simp [noteR, raddAll, raddOne, hmem, hr64]
          have Hfin := Lib.hid hfin
          clear hfin hmem bl
          go_wp2
          go_ret
          rw [Hfin.out]
          exact ⟨F, rfl, ⟨hl64, hr64, _, _, Hin.out⟩, Chg.refl _ _, From.refl _ _ _⟩
        · have h2b : (y2.toList == x2.toList) = false := by simpa using h2
          clear bl
          go_wp2
          exact ⟨⟨k + 1, by omega, by simp, by rw [Htk.out]; simp [hno]; exact fun _ e => h2 (by rw [e]), trivial⟩, by simp [intOf]; omega⟩
      · have h1b : (y1.toList == x1.toList) = false := by simpa using h1
        clear bl
        go_wp2
        exact ⟨⟨k + 1, by omega, by simp, by rw [Htk.out]; simp [hno]; exact fun e => absurd (by rw [e]) h1, trivial⟩, by simp [intOf]; omega⟩
    · obtain rfl : k = rs.length := by omega
      rw [List.take_of_length_le (by omega)] at hno
      by_cases h64 : rs.length < 64
      · have hfin : noteR rs [(x1, x2)] = (rs ++ [(x1, x2)], 0) := by simp [noteR, raddAll, raddOne, hno]; omega
        have Hfin := Lib.hid hfin
        have Hno := Lib.hid hno
        clear hfin hno hrd
        have hz : (rs.length : Int) < 64 := by omega
        go_wp2_with (at_builtin; go_loud (refine wpList_append_sl _ rfl (.tmp 49) (.tmp 53) 60 rfl 73 i0 _ 2 32 Try.underlying60 hi0 hz0 hz1 hz2 rfl (by omega) _ _ _ _ rfl (hs2.chg ((Chg.refl (fun _ => False) _).alloc _) (fun _ _ f => f)) _ _ 1 1 [.string x1, .string x2] rfl (reads_new2 _ _ _ _) (by intro u hu; simp at hu; rcases hu with rfl | rfl <;> rfl) (by simp only [maxLen]; omega) (by omega) ?_); intro v1' w3 F3 hs3 hc3 hf3 hnz; obtain ⟨A3, c3, rfl, _, _⟩ := hs3.shape; have hh3 := (hc3.block rb (Nat.lt_of_lt_of_le hsb (le_alloc2 _ _)) (fun e => Hin.out.rb_v2 e)).trans ((heap_alloc_old _ _ hsb).trans Hin.out.here); obtain ⟨p30, p31, pf3⟩ := cells2r hh3)
        go_ret
        rw [Hfin.out]
        have hin := Hin.out
        have hsbx := hsb
        have hal : Chg (fun _ => False) wr (wr.alloc (.cells #[.string x1, .string x2] 73)) := (Chg.refl _ _).alloc _
        have hset : ∀ j, j ≠ rb → (w3.setCell ⟨rb, 1, none⟩ (.slice A3 (rs.length + 1) c3)).heap[j]? = w3.heap[j]? := fun j hj => Below.heap_setCell _ _ _ _ hj
        have hs0 := hs3.own
        have hsz : (w3.setCell ⟨rb, 1, none⟩ (.slice A3 (rs.length + 1) c3)).heap.size = w3.heap.size := by simp [World.setCell]
        have hfrom : ∀ j, (Value.slice A3 (rs.length + 1) c3).ownBlock = some j → (Value.slice A0 rs.length c0).ownBlock = some j ∨ (wr.heap.size ≤ j ∧ j < w3.heap.size) := fun j hj => by
          rcases hf3 j (hs3.own_mem hj).1 with h | ⟨h, h2⟩
          · exact .inl h
          · exact .inr ⟨Nat.le_trans (le_alloc2 _ _) h, h2⟩
        have hch : Chg (fun j => (Value.slice A0 rs.length c0).ownBlock = some j) wr w3 := hal.none.trans hc3 (fun _ _ h => h)
        refine ⟨Plus F wr (w3.setCell ⟨rb, 1, none⟩ (.slice A3 (rs.length + 1) c3)), rfl, ⟨hl64, by simp; omega, _, _, {
          here := heap_setCell_same hh3
          s1 := hin.s1.keep fun j hj hF => (hset j (fun e => hin.rb_v1 (e ▸ hF))).trans (hch.block j hj (fun e => hin.v1_v2 hF e))
          s2 := by
            have h5 := hs0.keep (w' := w3.setCell ⟨rb, 1, none⟩ (.slice A3 (rs.length + 1) c3)) fun j hj hF => hset j (fun e => by
              rcases hfrom j hF with h | ⟨h, _⟩
              · exact hin.rb_v2 (e ▸ h)
              · omega)
            simpa [rCells] using h5
          ok1 := hin.ok1
          f0 := .inl hin.f0
          f1 := fun j hj => .inl (hin.f1 j hj)
          f2 := fun j hj => (hfrom j hj).elim (fun h => .inl (hin.f2 j h)) (fun h => .inr (by rw [hsz]; exact h)) }⟩,
          (hch.mono (fun j _ h => hin.f2 j h)).setCell _ _ (fun _ => hin.f0), fun j hj => hj⟩
      · have hfin : noteR rs [(x1, x2)] = (rs, 4) := by simp [noteR, raddAll, raddOne, hno]; omega
        have Hfin := Lib.hid hfin
        clear hfin hno hrd
        have hz : ¬ (rs.length : Int) < 64 := by omega
        go_wp2
        go_ret
        rw [Hfin.out]
        exact ⟨F, rfl, ⟨hl64, hr64, _, _, Hin.out⟩, Chg.refl _ _, From.refl _ _ _⟩

/-- Both sides. -/
structure TwoAt (w : World) (sb rb : Nat) (l : List Int) (rs : List Rng) (Fs Fr : Nat → Prop) : Prop where
  s : SeesAt w sb l rs Fs
  r : RefAt w rb l rs Fr
  d : ∀ j, Fs j → ¬ Fr j
  ls : ∀ j, Fs j → j < w.heap.size
  lr : ∀ j, Fr j → j < w.heap.size
end Go.Proofs.Ytflinpnmpkdopaa
