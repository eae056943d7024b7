/- Walks: the reference's 'has', and the copies that both sides hand out. -/
import Derived.Test.YtflinpnmpkdopaaNote3
import Derived.Test.YtflinpnmpkdopaaNote2
namespace Go.Proofs.Ytflinpnmpkdopaa
set_option linter.unusedVariables false
set_option linter.unusedSimpArgs false
open Go.RowKit Go.Maps Go.ChangeMaps Xw

def HasPost (K : Prop) (w : World) (e : Ending) (w' : World) : Prop := ∃ B : Bool, e = .returned (.bool B) ∧ (B = true ↔ K) ∧ Chg (fun _ => False) w w'

/-- A fresh row. -/
def CopyPost (w : World) (t : TypeId) (size n : Nat) (xs : List Value) (e : Ending) (w' : World) : Prop :=
  ∃ v F', e = .returned v ∧ Sl w' t size v n xs F' ∧ (∀ j, F' j → w.heap.size ≤ j ∧ j < w'.heap.size) ∧ Chg (fun _ => False) w w'

theorem iCells_length (l : List Int) : (iCells l).length = l.length := by simp [iCells]
theorem iCells_get {l : List Int} {j : Nat} {x : Int} (h : l[j]? = some x) : (iCells l)[j]? = some (.int .i64 x) := by simp [iCells, h]


set_option maxRecDepth 100000 in
theorem ref_has (l : List Int) (x : Int) (A : Option Addr) (n c : Nat) (w : World) (hr : Reads w w.heap.size 1 A n (iCells l)) (hm : n ≤ maxLen) (hx : i64ok x) (hl : ∀ y ∈ l, i64ok y) :
    Calls Try.prog 40 #[.slice A n c, .int .i64 x] w (HasPost (x ∈ l) w) := by
  have hln : l.length = n := by have := hr.1; rw [iCells_length] at this; omega
  simp only [maxLen] at hm
  go_enter Try.func40, Try.ntmps40
  go_wp2
  go_loopw [5] (fun i wr => ∃ k : Nat, k ≤ n ∧ i = .int .i64 k ∧ x ∉ l.take k ∧ wr = w) (fun i _ => n - (intOf i).toNat)
  case atStart => exact ⟨0, by omega, rfl, by simp, rfl⟩
  case round =>
    obtain ⟨k, hk, rfl, hno, rfl⟩ := hrel
    by_cases hlt : k < n
    · obtain ⟨y, hy⟩ : ∃ y, l[k]? = some y := ⟨_, List.getElem?_eq_getElem (by omega)⟩
      obtain ⟨ad, rfl, hadb, hcx⟩ := hr.2 (by omega)
      have hcx1 : wr.cell? (ad.add k) = some (.int .i64 y) := hcx k _ (iCells_get hy)
      have hyok := hl y (List.mem_of_getElem? hy)
      have htk : l.take (k + 1) = l.take k ++ [y] := by
        rw [List.take_succ_eq_append_getElem (by omega), (List.getElem?_eq_some_iff.1 hy).2]
      have Htk := Lib.hid htk
      have Hy := Lib.hid hy
      clear htk hy hcx
      by_cases hxy : y = x
      · subst hxy
        go_wp2
        go_ret
        exact ⟨true, rfl, by simp; exact List.mem_of_getElem? Hy.out, Chg.refl _ _⟩
      · go_wp2
        exact ⟨⟨k + 1, by omega, by simp, by rw [Htk.out]; simp [hno]; exact fun e => hxy e.symm, trivial⟩, by simp [intOf]; omega⟩
    · obtain rfl : k = n := by omega
      rw [List.take_of_length_le (by omega)] at hno
      go_wp2
      go_ret
      exact ⟨false, rfl, by simp [hno], Chg.refl _ _⟩

theorem Sl.empty (w : World) (e : TypeId) (size : Nat) : Sl (w.alloc (.cells #[] e)) e size (.slice (some ⟨w.heap.size, 0, none⟩) 0 0) 0 [] (fun j => j = w.heap.size) :=
  Sl.of_block (cur := #[]) (heap_alloc_new w _) rfl (by simp) (by simp [maxLen])
theorem copy_post {w w3 : World} {o : Obj} {t : TypeId} {size n : Nat} {xs : List Value} {e : Ending} {v : Value} {F3 : Nat → Prop} (he : e = .returned v) (hs : Sl w3 t size v n xs F3)
    (hc : Chg (fun j => j = w.heap.size) (w.alloc o) w3) (hf : From (fun j => j = w.heap.size) (w.alloc o) w3 F3) : CopyPost w t size n xs e w3 := by
  have h1 := hc.size
  rw [World.size_alloc] at h1
  refine ⟨v, F3, he, hs, fun j hj => ?_, ((Chg.refl (fun j => j = w.heap.size) w).alloc o).trans hc (fun _ _ h => h) |>.mono fun j hj e => absurd hj (by rw [e]; exact Nat.lt_irrefl _)⟩
  rcases hf j hj with h | ⟨h, h2⟩
  · subst h; exact ⟨Nat.le_refl _, by omega⟩
  · rw [World.size_alloc] at h; exact ⟨by omega, h2⟩
theorem reads_chg {w w' : World} {B B' size : Nat} {A : Option Addr} {n : Nat} {xs : List Value} {F : Nat → Prop} (h : Reads w B size A n xs) (hc : Chg F w w') (hB : B ≤ w.heap.size) (hA : ∀ ad, A = some ad → 0 < n → ¬ F ad.block) (hBB : B ≤ B') : Reads w' B' size A n xs :=
  ⟨h.1, fun hp => by
    obtain ⟨ad, rfl, hb, hcx⟩ := h.2 hp
    refine ⟨ad, rfl, Nat.lt_of_lt_of_le hb hBB, fun j u hj => ?_⟩
    have hb2 : w'.heap[(ad.add j).block]? = w.heap[(ad.add j).block]? := by rw [block_of_add]; exact hc.block _ (Nat.lt_of_lt_of_le hb hB) (hA ad rfl hp)
    exact (World.cell?_of_block hb2).trans (hcx j u hj)⟩

set_option maxRecDepth 100000 in
theorem clone_int (v : Value) (n : Nat) (xs : List Value) (F : Nat → Prop) (w : World) (h : Sl w 3 1 v n xs F) (h1 : ∀ u ∈ xs, u.oneCell' = true) (hb : n * 8 ≤ 140737488355328) :
    Calls Try.prog 43 #[v] w (CopyPost w 3 1 n xs) := by
  obtain ⟨i0, hi0, hz0, hz1, hz2⟩ := info_parts int_info
  have hnil : ∀ (w : World) (a : Option Addr) (n c n' c' : Nat), (binOp .eql 37 (.slice a n c) (.slice none n' c')).run Try.prog w = .ok (.bool a.isNone) w := fun w a n c n' c' => Lib.run_eql_slice_nil w _ _ a n c n' c' Try.underlying37
  rcases h.2 with ⟨rfl, rfl⟩ | ⟨g, off, cap, cur, rfl, hF, hg, hnc, hcm, hcs, htake⟩
  · have hx : xs = [] := List.eq_nil_of_length_eq_zero (by simpa using h.1)
    subst hx
    go_enter Try.func43, Try.ntmps43
    go_wp2
    go_ret
    exact ⟨_, fun _ => False, rfl, Sl.nil _ _ _ _, fun _ h => h.elim, Chg.refl _ _⟩
  · have hrd := reads_chg h.cells (B' := w.heap.size + 1) ((Chg.refl (fun _ => False) w).alloc (.cells #[] 3)) (Nat.le_refl _) (fun _ _ _ f => f) (Nat.le_succ _)
    have hnew := Sl.empty w 3 1
    have hcm' : n ≤ maxLen := Nat.le_trans hnc hcm
    clear h hg htake hcs hF
    go_enter Try.func43, Try.ntmps43
    go_wp2_with (at_builtin; go_loud (refine wpList_append_sl _ rfl (.tmp 5) (.tmp 6) 37 rfl 3 i0 _ 1 8 Try.underlying37 hi0 hz0 hz1 hz2 rfl (by omega) _ _ _ _ rfl hnew _ _ _ _ xs rfl hrd h1 (by omega) (by omega) ?_); intro v1' w3 F3 hs3 hc3 hf3 hnz)
    go_ret
    exact copy_post rfl (by simpa using hs3) hc3 hf3
theorem range_info : (Try.prog.info? 72).map (fun i => (i.zero, i.size, i.bytes)) = some (some (.agg #[.string ByteArray.empty, .string ByteArray.empty]), 2, 32) := by kernel_rfl
set_option maxRecDepth 100000 in
theorem clone_rng (v : Value) (n : Nat) (xs : List Value) (F : Nat → Prop) (w : World) (h : Sl w 72 2 v n xs F) (h1 : ∀ u ∈ xs, u.oneCell' = true) (hb : n * 32 ≤ 140737488355328) :
    Calls Try.prog 44 #[v] w (CopyPost w 72 2 n xs) := by
  obtain ⟨i0, hi0, hz0, hz1, hz2⟩ := info_parts range_info
  have hnil : ∀ (w : World) (a : Option Addr) (n c n' c' : Nat), (binOp .eql 52 (.slice a n c) (.slice none n' c')).run Try.prog w = .ok (.bool a.isNone) w := fun w a n c n' c' => Lib.run_eql_slice_nil w _ _ a n c n' c' Try.underlying52
  rcases h.2 with ⟨rfl, rfl⟩ | ⟨g, off, cap, cur, rfl, hF, hg, hnc, hcm, hcs, htake⟩
  · have hx : xs = [] := List.eq_nil_of_length_eq_zero (by simpa using h.1)
    subst hx
    go_enter Try.func44, Try.ntmps44
    go_wp2
    go_ret
    exact ⟨_, fun _ => False, rfl, Sl.nil _ _ _ _, fun _ h => h.elim, Chg.refl _ _⟩
  · have hrd := reads_chg h.cells (B' := w.heap.size + 1) ((Chg.refl (fun _ => False) w).alloc (.cells #[] 72)) (Nat.le_refl _) (fun _ _ _ f => f) (Nat.le_succ _)
    have hnew := Sl.empty w 72 2
    have hcm' : n ≤ maxLen := Nat.le_trans hnc hcm
    clear h hg htake hcs hF
    go_enter Try.func44, Try.ntmps44
    go_wp2_with (at_builtin; go_loud (refine wpList_append_sl _ rfl (.tmp 5) (.tmp 6) 52 rfl 72 i0 _ 2 32 Try.underlying52 hi0 hz0 hz1 hz2 rfl (by omega) _ _ _ _ rfl hnew _ _ _ _ xs rfl hrd h1 (by omega) (by omega) ?_); intro v1' w3 F3 hs3 hc3 hf3 hnz)
    go_ret
    exact copy_post rfl (by simpa using hs3) hc3 hf3

/-- The reference's set lies in block rb. -/
structure RefIn (w : World) (rb : Nat) (l : List Int) (rs : List Rng) (F : Nat → Prop) (v1 v2 : Value) : Prop where
  here : w.heap[rb]? = some (.cells #[v1, v2] 62 (0, 0))
  s1 : Sl w 3 1 v1 l.length (iCells l) (fun j => v1.ownBlock = some j)
  s2 : Sl w 73 2 v2 rs.length (rCells rs) (fun j => v2.ownBlock = some j)
  ok1 : ∀ x ∈ l, i64ok x
  f0 : F rb
  f1 : ∀ j, v1.ownBlock = some j → F j
  f2 : ∀ j, v2.ownBlock = some j → F j
def RefAt (w : World) (rb : Nat) (l : List Int) (rs : List Rng) (F : Nat → Prop) : Prop := l.length ≤ 64 ∧ rs.length ≤ 64 ∧ ∃ v1 v2, RefIn w rb l rs F v1 v2

section
variable {w w' : World} {rb : Nat} {l : List Int} {rs : List Rng} {F G : Nat → Prop} {v1 v2 : Value}
theorem RefIn.keep (h : RefIn w rb l rs F v1 v2) (hk : ∀ j, F j → j < w.heap.size → w'.heap[j]? = w.heap[j]?) : RefIn w' rb l rs F v1 v2 :=
  { h with
    here := (hk rb h.f0 (lt_of_heap h.here)).trans h.here
    s1 := h.s1.keep fun j hj hF => hk j (h.f1 j hF) hj
    s2 := h.s2.keep fun j hj hF => hk j (h.f2 j hF) hj }
theorem RefAt.keep (h : RefAt w rb l rs F) (hk : ∀ j, F j → j < w.heap.size → w'.heap[j]? = w.heap[j]?) : RefAt w' rb l rs F :=
  ⟨h.1, h.2.1, let ⟨a, b, hh⟩ := h.2.2; ⟨a, b, hh.keep hk⟩⟩
theorem RefAt.chg (h : RefAt w rb l rs F) (hc : Chg G w w') (hd : ∀ j, F j → ¬ G j) : RefAt w' rb l rs F := h.keep fun j hj hl => hc.block j hl (hd j hj)
theorem RefIn.rb_v1 (h : RefIn w rb l rs F v1 v2) : v1.ownBlock ≠ some rb := by
  intro e
  rcases h.s1.2 with ⟨hv, _⟩ | ⟨g, off, cap, cur, rfl, _, hb, _⟩
  · rw [hv] at e; cases e
  · simp only [Value.ownBlock, Option.some.injEq] at e
    subst e
    rw [h.here] at hb
    cases hb
theorem RefIn.rb_v2 (h : RefIn w rb l rs F v1 v2) : v2.ownBlock ≠ some rb := by
  intro e
  rcases h.s2.2 with ⟨hv, _⟩ | ⟨g, off, cap, cur, rfl, _, hb, _⟩
  · rw [hv] at e; cases e
  · simp only [Value.ownBlock, Option.some.injEq] at e
    subst e
    rw [h.here] at hb
    cases hb
theorem RefIn.v1_v2 (h : RefIn w rb l rs F v1 v2) {g : Nat} (h1 : v1.ownBlock = some g) : v2.ownBlock ≠ some g := by
  intro e
  rcases h.s1.2 with ⟨hv, _⟩ | ⟨g1, off, cap, cur, rfl, _, hb, _⟩
  · rw [hv] at h1; cases h1
  · rcases h.s2.2 with ⟨hv, _⟩ | ⟨g2, off, cap, cur, rfl, _, hb', _⟩
    · rw [hv] at e; cases e
    · simp only [Value.ownBlock, Option.some.injEq] at e h1
      subst e; subst h1
      rw [hb] at hb'
      cases hb'
end

theorem one_iCells {l : List Int} : ∀ u ∈ iCells l, u.oneCell' = true := by
  intro u hu; obtain ⟨x, _, rfl⟩ := List.mem_map.1 hu; rfl
theorem one_rCells {l : List Rng} : ∀ u ∈ rCells l, u.oneCell' = true := by
  intro u hu
  obtain ⟨x, _, h⟩ := List.mem_flatMap.1 hu
  simp at h
  rcases h with rfl | rfl <;> rfl

theorem refrange_info : (Try.prog.info? 73).map (fun i => (i.zero, i.size, i.bytes)) = some (some (.agg #[.string ByteArray.empty, .string ByteArray.empty]), 2, 32) := by kernel_rfl

theorem cells2r {w : World} {g : Nat} {a b : Value} {t : TypeId} (h : w.heap[g]? = some (.cells #[a, b] t (0, 0))) : w.cell? ⟨g, 0, none⟩ = some a ∧ w.cell? ⟨g, 1, none⟩ = some b ∧ (∀ i, w.frozen? ⟨g, i, none⟩ = false) :=
  ⟨(cells_of h).1 0, (cells_of h).1 1, fun i => by simp [World.frozen?, h]⟩

set_option maxRecDepth 100000 in
theorem ref_slots (rb : Nat) (l : List Int) (rs : List Rng) (F : Nat → Prop) (w : World) (h : RefAt w rb l rs F) :
    Calls Try.prog 36 #[.pointer (some ⟨rb, 0, none⟩)] w (CopyPost w 3 1 l.length (iCells l)) := by
  obtain ⟨i0, hi0, hz0, hz1, hz2⟩ := info_parts int_info
  obtain ⟨hl64, _, v1, v2, hin⟩ := h
  obtain ⟨A0, c0, rfl, hc0m, hc0n⟩ := hin.s1.shape
  obtain ⟨p0, p1, pf⟩ := cells2r hin.here
  have hrd := reads_chg hin.s1.cells (B' := w.heap.size + 1) ((Chg.refl (fun _ => False) w).alloc (.cells #[] 3)) (Nat.le_refl _) (fun _ _ _ f => f) (Nat.le_succ _)
  have hnew := Sl.empty w 3 1
  have hsb := lt_of_heap hin.here
  clear hin
  go_enter Try.func36, Try.ntmps36
  go_wp2_with (at_builtin; go_loud (refine wpList_append_sl _ rfl (.tmp 3) (.tmp 7) 37 rfl 3 i0 _ 1 8 Try.underlying37 hi0 hz0 hz1 hz2 rfl (by omega) _ _ _ _ rfl hnew _ _ _ _ (iCells l) rfl hrd one_iCells (by simp only [maxLen] at *; omega) (by omega) ?_); intro v1' w3 F3 hs3 hc3 hf3 hnz)
  go_ret
  exact copy_post rfl (by simpa using hs3) hc3 hf3

set_option maxRecDepth 100000 in
theorem ref_ranges (rb : Nat) (l : List Int) (rs : List Rng) (F : Nat → Prop) (w : World) (h : RefAt w rb l rs F) :
    Calls Try.prog 38 #[.pointer (some ⟨rb, 0, none⟩)] w (CopyPost w 73 2 rs.length (rCells rs)) := by
  obtain ⟨i0, hi0, hz0, hz1, hz2⟩ := info_parts refrange_info
  obtain ⟨_, hl64, v1, v2, hin⟩ := h
  obtain ⟨A0, c0, rfl, hc0m, hc0n⟩ := hin.s2.shape
  obtain ⟨p0, p1, pf⟩ := cells2r hin.here
  have hrd := reads_chg hin.s2.cells (B' := w.heap.size + 1) ((Chg.refl (fun _ => False) w).alloc (.cells #[] 73)) (Nat.le_refl _) (fun _ _ _ f => f) (Nat.le_succ _)
  have hnew := Sl.empty w 73 2
  have hsb := lt_of_heap hin.here
  clear hin
  go_enter Try.func38, Try.ntmps38
  go_wp2_with (at_builtin; go_loud (refine wpList_append_sl _ rfl (.tmp 3) (.tmp 7) 60 rfl 73 i0 _ 2 32 Try.underlying60 hi0 hz0 hz1 hz2 rfl (by omega) _ _ _ _ rfl hnew _ _ _ _ (rCells rs) rfl hrd one_rCells (by simp only [maxLen] at *; omega) (by omega) ?_); intro v1' w3 F3 hs3 hc3 hf3 hnz)
  go_ret
  exact copy_post rfl (by simpa using hs3) hc3 hf3

set_option maxRecDepth 100000 in
theorem slots_ (sb : Nat) (l : List Int) (rs : List Rng) (F : Nat → Prop) (w : World) (h : SeesAt w sb l rs F) :
    Calls Try.prog 35 #[.pointer (some ⟨sb, 0, none⟩)] w (CopyPost w 3 1 l.length (iCells l)) := by
  obtain ⟨hl64, _, v1, m1, v2, m2, hin⟩ := h
  obtain ⟨A0, c0, rfl, hc0m, hc0n⟩ := hin.s1.shape
  obtain ⟨p0, p1, p2, p3, pf⟩ := cells4 hin.here
  have hsl := hin.s1
  clear hin
  go_enter Try.func35, Try.ntmps35
  go_wp2_with (go_at_call 43; refine (clone_int _ _ _ _ _ hsl one_iCells (by omega)).mono ?_; rintro e w1 ⟨v, F', rfl, hs, hf, hc⟩)
  go_ret
  exact ⟨_, _, rfl, hs, hf, hc⟩

set_option maxRecDepth 100000 in
theorem ranges_ (sb : Nat) (l : List Int) (rs : List Rng) (F : Nat → Prop) (w : World) (h : SeesAt w sb l rs F) :
    Calls Try.prog 37 #[.pointer (some ⟨sb, 0, none⟩)] w (CopyPost w 72 2 rs.length (rCells rs)) := by
  obtain ⟨_, hl64, v1, m1, v2, m2, hin⟩ := h
  obtain ⟨A0, c0, rfl, hc0m, hc0n⟩ := hin.s2.shape
  obtain ⟨p0, p1, p2, p3, pf⟩ := cells4 hin.here
  have hsl := hin.s2
  clear hin
  go_enter Try.func37, Try.ntmps37
  go_wp2_with (go_at_call 44; refine (clone_rng _ _ _ _ _ hsl one_rCells (by omega)).mono ?_; rintro e w1 ⟨v, F', rfl, hs, hf, hc⟩)
  go_ret
  exact ⟨_, _, rfl, hs, hf, hc⟩

set_option maxRecDepth 100000 in
theorem has_ (sb : Nat) (l : List Int) (rs : List Rng) (F : Nat → Prop) (x : Int) (w : World) (h : SeesAt w sb l rs F) (hx : i64ok x) :
    Calls Try.prog 33 #[.pointer (some ⟨sb, 0, none⟩), .int .i64 x] w (HasPost (x ∈ l) w) := by
  obtain ⟨hl64, _, v1, m1, v2, m2, hin⟩ := h
  go_enter Try.func33, Try.ntmps33
  go_wp2_with (go_at_call 42; refine (has_int sb v1 v2 m1 m2 _ x _ hin.here hin.k1 hx).mono ?_; rintro e w1 ⟨B, rfl, hB, hc⟩)
  go_ret
  exact ⟨B, rfl, hB.trans iKeys_mem, hc⟩

set_option maxRecDepth 100000 in
theorem ref_Has (rb : Nat) (l : List Int) (rs : List Rng) (F : Nat → Prop) (x : Int) (w : World) (h : RefAt w rb l rs F) (hx : i64ok x) :
    Calls Try.prog 34 #[.pointer (some ⟨rb, 0, none⟩), .int .i64 x] w (HasPost (x ∈ l) w) := by
  obtain ⟨hl64, _, v1, v2, hin⟩ := h
  obtain ⟨A0, c0, rfl, hc0m, hc0n⟩ := hin.s1.shape
  obtain ⟨p0, p1, pf⟩ := cells2r hin.here
  have hrd := hin.s1.cells
  have hok := hin.ok1
  clear hin
  go_enter Try.func34, Try.ntmps34
  go_wp2_with (go_at_call 40; refine (ref_has l x _ _ _ _ hrd (by omega) hx hok).mono ?_; rintro e w1 ⟨B, rfl, hB, hc⟩)
  go_ret
  exact ⟨B, rfl, hB, hc⟩

open Classical in
noncomputable def raddOne (l : List Rng) (x : Rng) : List Rng := if x ∈ l then l else l ++ [x]
noncomputable def raddAll (l : List Rng) (xs : List Rng) : List Rng := xs.foldl raddOne l
theorem raddAll_snoc (l xs : List Rng) (k : Nat) (x : Rng) (hx : xs[k]? = some x) : raddAll l (xs.take (k + 1)) = raddOne (raddAll l (xs.take k)) x := by
  have hk := (List.getElem?_eq_some_iff.1 hx).1
  rw [List.take_succ_eq_append_getElem hk, (List.getElem?_eq_some_iff.1 hx).2]
  simp [raddAll, List.foldl_append]
theorem raddAll_grows (l : List Rng) : ∀ xs : List Rng, ∃ ys, raddAll l xs = l ++ ys ∧ ys.length ≤ xs.length
  | [] => ⟨[], by simp [raddAll], Nat.le_refl _⟩
  | x :: xs => by
    unfold raddAll
    rw [List.foldl_cons]
    by_cases hm : x ∈ l
    · rw [show raddOne l x = l by simp [raddOne, hm]]
      obtain ⟨ys, h1, h2⟩ := raddAll_grows l xs
      exact ⟨ys, h1, by simp; omega⟩
    · rw [show raddOne l x = l ++ [x] by simp [raddOne, hm]]
      obtain ⟨ys, h1, h2⟩ := raddAll_grows (l ++ [x]) xs
      exact ⟨x :: ys, by rw [show List.foldl raddOne (l ++ [x]) xs = raddAll (l ++ [x]) xs from rfl, h1]; simp, by simp; omega⟩
/-- What is noted, and the code. -/
noncomputable def noteR (l xs : List Rng) : List Rng × Int := if (raddAll l xs).length ≤ 64 then (raddAll l xs, 0) else (l, 4)

theorem cells2 {w : World} {g : Nat} {a b : Value} {t : TypeId} (h : w.heap[g]? = some (.cells #[a, b] t (0, 0))) : w.cell? ⟨g, 0, none⟩ = some a ∧ w.cell? ⟨g, 1, none⟩ = some b :=
  ⟨(cells_of h).1 0, (cells_of h).1 1⟩
theorem reads_new2 (w : World) (u v : Value) (e : TypeId) : Reads (w.alloc (.cells #[u, v] e)) (w.heap.size + 1) 2 (some ⟨w.heap.size, 0, none⟩) 1 [u, v] := by
  refine ⟨rfl, fun _ => ⟨_, rfl, Nat.lt_succ_self _, fun j x hj => ?_⟩⟩
  have e1 : (⟨w.heap.size, 0, none⟩ : Addr).add j = ⟨w.heap.size, j, none⟩ := by unfold Addr.add; split <;> simp_all
  rw [e1, cell_of_row _ _ _ _ _ _ (heap_alloc_new w _)]
  simpa using hj

end Go.Proofs.Ytflinpnmpkdopaa
