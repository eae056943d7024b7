/- The walk of 'noted'. -/
import Derived.Test.YtflinpnmpkdopaaTwo
import Derived.Test.YtflinpnmpkdopaaListed2
import Derived.Deep.RegionHeld3
namespace Go.Proofs.Ytflinpnmpkdopaa
set_option linter.unusedVariables false
set_option linter.unusedSimpArgs false
open Go.RowKit Go.Maps Go.ChangeMaps Xw

def NotedPost (Fs Fr : Nat → Prop) (w : World) (sb rb : Nat) (e : Ending) (w' : World) : Prop :=
  e = .returned (.bool true) ∧ ∃ l rs Fs' Fr', TwoAt w' sb rb l rs Fs' Fr' ∧ Chg (fun j => Fs j ∨ Fr j) w w' ∧ From Fs w w' Fs' ∧ From Fr w w' Fr'

section
variable {w w' w1 w2 w3 : World} {sb rb : Nat} {l l' : List Int} {rs rs' : List Rng} {Fs Fr Fs' Fr' : Nat → Prop}
theorem TwoAt.chg {G : Nat → Prop} (h : TwoAt w sb rb l rs Fs Fr) (hc : Chg G w w') (h1 : ∀ j, Fs j → ¬ G j) (h2 : ∀ j, Fr j → ¬ G j) : TwoAt w' sb rb l rs Fs Fr :=
  { s := h.s.chg hc h1, r := h.r.chg hc h2, d := h.d, ls := fun j hj => Nat.lt_of_lt_of_le (h.ls j hj) hc.size, lr := fun j hj => Nat.lt_of_lt_of_le (h.lr j hj) hc.size }
/-- One call on each side. -/
theorem TwoAt.next (h : TwoAt w sb rb l rs Fs Fr) (c0 : Chg (fun _ => False) w w1) (hs : SeesAt w2 sb l' rs' Fs') (cs : Chg Fs w1 w2) (fs : From Fs w1 w2 Fs') {G : Nat → Prop} (cm : Chg G w2 w') (hG : ∀ j, G j → w.heap.size ≤ j ∧ ¬ Fs' j)
    (hr : RefAt w3 rb l' rs' Fr') (cr : Chg Fr w' w3) (fr : From Fr w' w3 Fr') : TwoAt w3 sb rb l' rs' Fs' Fr' ∧ Chg (fun j => Fs j ∨ Fr j) w w3 ∧ From Fs w w3 Fs' ∧ From Fr w w3 Fr' := by
  have z0 := c0.size
  have z1 := cs.size
  have z2 := cm.size
  have z3 := cr.size
  have hFs' : ∀ j, Fs' j → Fs j ∨ (w1.heap.size ≤ j ∧ j < w2.heap.size) := fs
  have hdr : ∀ j, Fs' j → ¬ Fr j := fun j h1 h2 => by
    rcases hFs' j h1 with h3 | h3
    · exact h.d j h3 h2
    · have := h.lr j h2; omega
  refine ⟨{ s := (hs.chg cm (fun j h1 h2 => (hG j h2).2 h1)).chg cr hdr, r := hr, d := fun j h1 h2 => ?_, ls := fun j hj => ?_, lr := fun j hj => ?_ }, ?_, fun j hj => ?_, fun j hj => ?_⟩
  · rcases fr j h2 with h3 | h3
    · exact hdr j h1 h3
    · rcases hFs' j h1 with h4 | h4
      · have := h.ls j h4; omega
      · omega
  · rcases hFs' j hj with h4 | h4
    · have := h.ls j h4; omega
    · omega
  · rcases fr j hj with h4 | h4
    · have := h.lr j h4; omega
    · omega
  · exact (((c0.mono fun _ _ f => f.elim).trans cs (fun j _ h => .inl h)).trans cm (fun j hj h => absurd hj (Nat.not_lt.2 (hG j h).1))).trans cr (fun j _ h => .inr h)
  · rcases hFs' j hj with h4 | h4
    · exact .inl h4
    · exact .inr (by omega)
  · rcases fr j hj with h4 | h4
    · exact .inl h4
    · exact .inr (by omega)
end

set_option maxRecDepth 100000 in
theorem num_ (x : Int) (w : World) : Calls Try.prog 29 #[.int .i64 x] w fun e w' => e = .returned (.int .i64 x) ∧ w' = w := by
  go_enter Try.func29, Try.ntmps29
  go_wp2
  go_ret
  simp

set_option maxHeartbeats 4000000 in
set_option maxRecDepth 100000 in
theorem noted_ (kd : Int) (A : Option Addr) (n c : Nat) (xs : List Int) (x : Rng) (sb rb : Nat) (l : List Int) (rs : List Rng) (Fs Fr : Nat → Prop) (w : World) (h : TwoAt w sb rb l rs Fs Fr)
    (hr : Reads w w.heap.size 1 A n (iCells xs)) (hA : ∀ ad, A = some ad → 0 < n → ¬ Fs ad.block ∧ ¬ Fr ad.block) (hok : ∀ x ∈ xs, i64ok x) (hx : rOk x) (hb : n * 8 ≤ 140737488351232) :
    Calls Try.prog 24 #[.pointer (some ⟨sb, 0, none⟩), .pointer (some ⟨rb, 0, none⟩), .agg #[.int .i64 kd, .slice A n c, .string x.1, .string x.2]] w (NotedPost Fs Fr w sb rb) := by
  obtain ⟨x1, x2⟩ := x
  have hal : Chg (fun _ => False) w (w.alloc (.cells #[.int .i64 kd, .slice A n c, .string x1, .string x2] 39)) := (Chg.refl _ _).alloc _
  have h1 := h.chg hal (fun _ _ f => f) (fun _ _ f => f)
  have hsame : ∀ e w', Chg (fun _ => False) w w' → e = .returned (.bool true) → NotedPost Fs Fr w sb rb e w' := fun e w' hc he =>
    ⟨he, l, rs, Fs, Fr, h.chg hc (fun _ _ f => f) (fun _ _ f => f), hc.none, From.refl _ _ _, From.refl _ _ _⟩
  by_cases k1 : kd = 1
  · subst k1
    obtain ⟨i0, hi0, hzz0, hzz1, hzz2⟩ := info_parts int_info
    have hxl : xs.length = n := by have := hr.1; rw [iCells_length] at this; omega
    have hbox := heap_alloc_new w (.cells #[.int .i64 1, .slice A n c, .string x1, .string x2] 39)
    obtain ⟨w0, hw0⟩ : ∃ w0, w0 = w.alloc (.cells #[.int .i64 1, .slice A n c, .string x1, .string x2] 39) := ⟨_, rfl⟩
    have hz0 : w0.heap.size = w.heap.size + 1 := by rw [hw0, World.size_alloc]
    rw [← hw0] at hal h1 hbox
    have hr0 := reads_chg hr (B' := w0.heap.size) hal (Nat.le_refl _) (fun _ _ _ f => f) hal.size
    have hrd := reads_chg hr0 (B' := w0.heap.size + 1) ((Chg.refl (fun _ => False) w0).alloc (.cells #[] 3)) (Nat.le_refl _) (fun _ _ _ f => f) (Nat.le_succ _)
    have hnew := Sl.empty w0 3 1
    obtain ⟨q0, q1, q2, q3, qf⟩ := cells4 hbox
    subst hw0
    simp only [World.size_alloc] at hnew
    go_enter Try.func24, Try.ntmps24
    go_wp2_with (first
      | (at_builtin; go_loud (first
        | (refine wpList_append_sl _ rfl (.tmp 19) (.tmp 21) 37 rfl 3 i0 _ 1 8 Try.underlying37 hi0 hzz0 hzz1 hzz2 rfl (by omega) _ _ _ _ rfl hnew _ _ _ _ (iCells xs) rfl hrd one_iCells (by simp only [maxLen] at *; omega) (by omega) ?_; intro v1' w3 F3 hs3 hc3 hf3 hnz; obtain ⟨A3, c3, rfl, hc3m, hc3n⟩ := hs3.shape; rw [List.nil_append, Nat.zero_add] at *)
        | (refine wpList_append_sl _ rfl (.tmp 23) (.tmp 24) 37 rfl 3 i0 _ 1 8 Try.underlying37 hi0 hzz0 hzz1 hzz2 rfl (by omega) _ _ _ _ rfl (hs3.chg ((Chg.refl (fun _ => False) _).alloc _) (fun _ _ f => f)) _ _ 2 2 [.int .i64 (-78), .int .i64 (-79)] rfl (Sl.of_block (w := w3.alloc (.cells #[.int .i64 (-78), .int .i64 (-79)] 3)) (e := 3) (size := 1) (n := 2) (F := fun _ => True) (cur := #[.int .i64 (-78), .int .i64 (-79)]) (heap_alloc_new w3 _) trivial rfl (by simp [maxLen])).cells (by intro u hu; simp at hu; rcases hu with rfl | rfl <;> rfl) (by simp only [maxLen]; omega) (by omega) ?_; intro v2' w4 F4 hs4 hc4 hf4 hnz4; obtain ⟨A4, c4, rfl, hc4m, hc4n⟩ := hs4.shape))))
    have hc13 : Chg (fun _ => False) (w.alloc (.cells #[.int .i64 1, .slice A n c, .string x1, .string x2] 39)) w3 :=
      (((Chg.refl (fun j => j = w.heap.size + 1) _).alloc _).trans hc3 (fun _ _ h => h)).mono fun j hj e => absurd hj (by rw [hz0, show j = w.heap.size + 1 from e]; exact Nat.lt_irrefl _)
    have hF3 : ∀ j, F3 j → w.heap.size + 1 ≤ j := fun j hj => by
      rcases hf3 j hj with h | ⟨h, _⟩
      · exact Nat.le_of_eq (show j = w.heap.size + 1 from h).symm
      · rw [World.size_alloc, hz0] at h; omega
    have hc14 := (hc13.alloc (.cells #[.int .i64 (-78), .int .i64 (-79)] 3)).trans hc4 (fun j hj h => absurd (hF3 j h) (by rw [hz0] at hj; omega))
    have hz13 := hc13.size
    have hF4 : ∀ j, F4 j → w.heap.size + 1 ≤ j := fun j hj => by
      rcases hf4 j hj with h | ⟨h, _⟩
      · exact hF3 j h
      · rw [World.size_alloc] at h; omega
    have h4 := h1.chg hc14 (fun _ _ f => f) (fun _ _ f => f)
    have hz14 := hc14.size
    have hbox4 := (hc14.block w.heap.size (by omega) (fun f => f)).trans hbox
    obtain ⟨g, off, rfl, hFg, hgl, hgf, hown, hcell, hset⟩ := hs4.at_ (j := n) (by omega)
    have hgw := hF4 g hFg
    obtain ⟨F5, hs45, hF5, hF5u, hFg5⟩ : ∃ F5 : Nat → Prop, Sl w4 3 1 (.slice (some ⟨g, off, none⟩) (n + 2) c4) (n + 2) (iCells xs ++ [Value.int .i64 (-78), Value.int .i64 (-79)]) F5 ∧ (∀ j, F5 j → w.heap.size + 1 ≤ j) ∧ (∀ j, F5 j → j < w4.heap.size) ∧ F5 g :=
      ⟨fun j => j = g, hs4.own.mono (fun j _ h => by simp only [Value.ownBlock, Option.some.injEq] at h; exact h.symm), fun j e => e ▸ hgw, fun j e => e ▸ hgl, rfl⟩
    have hrd4 := (hs4.cut (k := n) (c' := c4) (by omega) (Nat.le_refl _) (by omega) (by simp)).cells
    rw [List.take_append_of_le_length (by rw [iCells_length]; omega), List.take_of_length_le (by rw [iCells_length]; omega)] at hrd4
    have hls : ∀ j, Fs j → j < w.heap.size := h.ls
    have hlr : ∀ j, Fr j → j < w.heap.size := h.lr
    refine (read_ sb l rs Fs _ n c4 xs w4 h4.s hrd4 (fun ad e _ hf => by cases e; exact absurd (hls g hf) (by omega)) hok hb).mono ?_
    rintro e w5 ⟨Fs', rfl, g1, g2, g3⟩
    have hs5 := hs45.chg g2 (fun j h2 h3 => by have := hF5 j h2; have := hls j h3; omega)
    have hbox5 := (g2.block w.heap.size (by omega) (fun f => by have := hls _ f; omega)).trans hbox4
    have hz5 := g2.size
    have hc78 : w5.cell? ⟨g, off + n, none⟩ = some (.int .i64 (-78)) := by
      obtain ⟨g', off', he, _, _, _, _, hcell5, _⟩ := hs5.at_ (j := n) (by omega)
      cases he
      exact hcell5 n _ (by rw [List.getElem?_append_right (by rw [iCells_length]; omega), iCells_length, hxl, Nat.sub_self]; rfl)
    have hc79 : w5.cell? ⟨g, off + n + 1, none⟩ = some (.int .i64 (-79)) := by
      obtain ⟨g', off', he, _, _, _, _, hcell5, _⟩ := hs5.at_ (j := n) (by omega)
      cases he
      exact hcell5 (n + 1) _ (by rw [List.getElem?_append_right (by rw [iCells_length]; omega), iCells_length, hxl, show n + 1 - n = 1 by omega]; rfl)
    have hc79' : w5.cell? ⟨g, off + (n + 1), none⟩ = some (.int .i64 (-79)) := hc79
    clear hs3 hc3 hf3 hnz hc4 hf4 hs4 hF4 hnz4 hc13 hF3 hcell hset hrd4 hnew q0 q1 q2 q3 qf hrd hr0
    obtain ⟨q0, q1, q2, q3, qf⟩ := cells4 hbox5
    have hnz : (0 : Int) ≤ (n : Int) := by omega
    have hnb : (n : Int) < 9223372036854775000 := by omega
    go_wp2
    have hz50 : w.heap.size + 1 ≤ w5.heap.size := by omega
    go_loopw [10, 11] (fun ok i wr => ok = .bool true ∧ ∃ k : Nat, k ≤ n ∧ i = .int .i64 k ∧ (∃ ys, Sl wr 3 1 (.slice (some ⟨g, off, none⟩) (n + 2) c4) (n + 2) ys F5 ∧ ys.drop k = (iCells xs ++ [Value.int .i64 (-78), Value.int .i64 (-79)]).drop k) ∧ Chg F5 w5 wr) (fun _ i _ => n - (intOf i).toNat)
    case atStart => exact ⟨rfl, 0, by omega, rfl, ⟨_, hs5, rfl⟩, Chg.refl _ _⟩
    case round =>
      obtain ⟨rfl, k, hk, rfl, ⟨ys, hs, hdr⟩, hchg⟩ := hrel
      have hboxr := (hchg.block w.heap.size (by omega) (fun f => by have := hF5 _ f; omega)).trans hbox5
      obtain ⟨p0, p1, p2, p3, pf⟩ := cells4 hboxr
      by_cases hlt : k < n
      · obtain ⟨x, hx⟩ : ∃ x, xs[k]? = some x := ⟨_, List.getElem?_eq_getElem (by omega)⟩
        obtain ⟨ad, rfl, hadb, hcx⟩ := hr.2 (by omega)
        obtain ⟨g', off', he, hFg', _, hfz, _, hcell, hset⟩ := hs.at_ (j := k) (by omega)
        cases he
        have hca := hcell k _ ((get_of_drop hdr).trans ((List.getElem?_append_left (by rw [iCells_length]; omega)).trans (iCells_get hx)))
        have hcb : wr.cell? (ad.add k) = some (.int .i64 x) := by
          have hA1 := hA ad rfl (by omega)
          have e1 : wr.heap[ad.block]? = w.heap[ad.block]? := (hchg.block _ (by omega) (fun f => by have := hF5 _ f; omega)).trans ((g2.block _ (by omega) hA1.1).trans ((hc14.block _ (by omega) (fun f => f)).trans (hal.block _ hadb (fun f => f))))
          have e2 : wr.heap[(ad.add k).block]? = w.heap[(ad.add k).block]? := by rw [block_of_add]; exact e1
          exact (World.cell?_of_block e2).trans (hcx k _ (iCells_get hx))
        clear hcell hcx
        go_wp2_with (refine wp_region_free (by kernel_rfl) (fun _ _ => ?_))
        exact ⟨⟨rfl, k + 1, by omega, by simp, ⟨_, (hset _).keep (fun _ _ _ => rfl), drop_set_next hdr _⟩, (hchg.setCell ⟨g, off + k, none⟩ _ (fun _ => hFg5)).drew⟩, by simp [intOf]; omega⟩
      · obtain rfl : k = n := by omega
        have hr1 : Reads wr wr.heap.size 1 A k (iCells xs) := by
          refine ⟨hr.1, fun hp => ?_⟩
          obtain ⟨ad, rfl, hadb, hcx⟩ := hr.2 hp
          have hA1 := hA ad rfl hp
          have hzr := hchg.size
          refine ⟨ad, rfl, by omega, fun j u hj => ?_⟩
          have e1 : wr.heap[ad.block]? = w.heap[ad.block]? := (hchg.block _ (by omega) (fun f => by have := hF5 _ f; omega)).trans ((g2.block _ (by omega) hA1.1).trans ((hc14.block _ (by omega) (fun f => f)).trans (hal.block _ hadb (fun f => f))))
          have e2 : wr.heap[(ad.add j).block]? = w.heap[(ad.add j).block]? := by rw [block_of_add]; exact e1
          exact (World.cell?_of_block e2).trans (hcx j _ hj)
        have h5r : RefAt wr rb l rs Fr := (h4.r.chg g2 (fun j h2 h3 => h.d j h3 h2)).chg hchg (fun j h2 h3 => by have := hlr j h2; have := hF5 j h3; omega)
        have hrD : Reads wr.drew wr.drew.heap.size 1 A k (iCells xs) := reads_chg hr1 ((Chg.refl (fun _ => False) wr).drew) (Nat.le_refl _) (fun _ _ _ f => f) (Nat.le_refl _)
        have h5D : RefAt wr.drew rb l rs Fr := h5r.chg ((Chg.refl (fun _ => False) wr).drew) (fun _ _ f => f)
        have hzr := hchg.size
        have hboxD : wr.drew.heap[w.heap.size]? = some (.cells #[.int .i64 1, .slice A k c, .string x1, .string x2] 39 (0, 0)) := hboxr
        go_wp2
        go_region_held3 (fun w' => w'.cell? ⟨w.heap.size, 1, none⟩ = some (.slice A k c)) (first | exact t1 | exact p1 | go_keep)
          (first
            | (go_at_call 29; refine (num_ _ _).mono ?_; rintro e w' ⟨rfl, rfl⟩)
            | (go_at_call 30; refine (ref_read rb l rs Fr A k c xs _ h5D hrD (fun ad e hp => (hA ad e hp).2) hok hb).mono ?_; rintro e w6 ⟨Fr', rfl, g4, g5, g6⟩; obtain ⟨t0, t1, t2, t3, tf⟩ := cells4 ((g5.block w.heap.size (by show _ < wr.heap.size; omega) (fun f => absurd (hlr _ f) (Nat.lt_irrefl _))).trans hboxD)))
        go_wp2
        go_ret
        refine ⟨rfl, _, _, Fs', Fr', h.next (hal.trans hc14 (fun _ _ f => f)) g1 g2 g3 (hchg.drew) (fun j hj => ⟨by have := hF5 j hj; omega, fun hf => ?_⟩) g4 g5 g6⟩
        rcases g3 j hf with h7 | ⟨h7, _⟩
        · have := hls j h7; have := hF5 j hj; omega
        · have := hF5u j hj; omega
  · by_cases k2 : kd = 2
    · subst k2
      go_enter Try.func24, Try.ntmps24
      obtain ⟨q0, q1, q2, q3, qf⟩ := cells4 (heap_alloc_new w (.cells #[.int .i64 2, .slice A n c, .string x1, .string x2] 39))
      have hbox := heap_alloc_new w (.cells #[.int .i64 2, .slice A n c, .string x1, .string x2] 39)
      have hwlt : w.heap.size < (w.alloc (.cells #[.int .i64 2, .slice A n c, .string x1, .string x2] 39)).drew.heap.size := by (show _ < (w.alloc _).heap.size); rw [World.size_alloc]; exact Nat.lt_succ_self _
      have h1d := h1.chg ((Chg.refl (fun _ => False) _).drew) (fun _ _ f => f) (fun _ _ f => f)
      go_wp2
      go_region_held3 (fun w' => w'.cell? ⟨w.heap.size, 2, none⟩ = some (.string x1) ∧ w'.cell? ⟨w.heap.size, 3, none⟩ = some (.string x2)) (first | exact ⟨r2, r3⟩ | exact ⟨t2, t3⟩ | exact ⟨q2, q3⟩ | go_keep)
        (first
          | (go_at_call 29; refine (num_ _ _).mono ?_; rintro e w' ⟨rfl, rfl⟩)
          | (go_at_call 31; refine (look_ sb l rs Fs (x1, x2) _ h1d.s h1d.ls hx).mono ?_; rintro e w1 ⟨Fs', rfl, g1, g2, g3⟩; obtain ⟨r0, r1, r2, r3, rf⟩ := cells4 ((g2.block w.heap.size hwlt (fun f => absurd (h.ls _ f) (Nat.lt_irrefl _))).trans hbox))
          | (go_at_call 32; refine (ref_look rb l rs Fr (x1, x2) _ (h1d.r.chg g2 (fun j h2 h3 => h.d j h3 h2))).mono ?_; rintro e w2 ⟨Fr', rfl, g4, g5, g6⟩; obtain ⟨t0, t1, t2, t3, tf⟩ := cells4 ((g5.block w.heap.size (Nat.lt_of_lt_of_le hwlt g2.size) (fun f => absurd (h.lr _ f) (Nat.lt_irrefl _))).trans ((g2.block w.heap.size hwlt (fun f => absurd (h.ls _ f) (Nat.lt_irrefl _))).trans hbox))))
      go_wp2
      go_ret
      exact ⟨rfl, _, _, Fs', Fr', h.next hal.drew g1 g2 g3 (Chg.refl (fun _ => False) _) (fun _ f => f.elim) g4 g5 g6⟩
    · by_cases k3 : kd = 3
      · subst k3
        go_enter Try.func24, Try.ntmps24
        go_wp2_with (go_at_call 25; refine (listed_ sb rb l rs Fs Fr _ h1).mono ?_; rintro e w1 ⟨rfl, hc⟩)
        go_ret
        exact hsame _ _ (hal.trans hc (fun _ _ f => f)) rfl
      · by_cases k4 : kd = 4
        · subst k4
          have hbox := heap_alloc_new w (.cells #[.int .i64 4, .slice A n c, .string x1, .string x2] 39)
          have hwlt : w.heap.size < (w.alloc (.cells #[.int .i64 4, .slice A n c, .string x1, .string x2] 39)).drew.heap.size := by (show _ < (w.alloc _).heap.size); rw [World.size_alloc]; exact Nat.lt_succ_self _
          have h1d := h1.chg ((Chg.refl (fun _ => False) _).drew) (fun _ _ f => f) (fun _ _ f => f)
          obtain ⟨q0, q1, q2, q3, qf⟩ := cells4 hbox
          by_cases hn : 0 < n
          · obtain ⟨ad, rfl, hadb, hcx⟩ := hr.2 hn
            obtain ⟨x0, xr, rfl⟩ : ∃ x0 xr, xs = x0 :: xr := by
              cases xs with
              | nil => have := hr.1; simp [iCells] at this; omega
              | cons a b => exact ⟨a, b, rfl⟩
            have hx0 : i64ok x0 := hok x0 (List.mem_cons_self ..)
            have hcell0 : w.cell? ad = some (.int .i64 x0) := hcx 0 _ rfl
            have hcell : (w.alloc (.cells #[.int .i64 4, .slice (some ad) n c, .string x1, .string x2] 39)).cell? ad = some (.int .i64 x0) := (World.cell?_of_block (heap_alloc_old _ _ hadb)).trans hcell0
            have hnz : (0 : Int) < (n : Int) := by omega
            go_enter Try.func24, Try.ntmps24
            go_wp2
            go_region_held3 (fun w' => w'.cell? ⟨w.heap.size, 1, none⟩ = some (.slice (some ad) n c) ∧ w'.cell? ad = some (.int .i64 x0)) (first | exact ⟨r1, c1⟩ | exact ⟨t1, c2⟩ | exact ⟨q1, hcell⟩ | go_keep)
              (first
                | (go_at_call 33; refine (has_ sb l rs Fs x0 _ h1d.s hx0).mono ?_; rintro e w1 ⟨B1, rfl, hB1, g2⟩; obtain ⟨r0, r1, r2, r3, rf⟩ := cells4 ((g2.block w.heap.size hwlt (fun f => f)).trans hbox); have c1 := (World.cell?_of_block (g2.block ad.block (Nat.lt_trans hadb hwlt) (fun f => f))).trans hcell)
                | (go_at_call 34; refine (ref_Has rb l rs Fr x0 _ (h1d.r.chg g2 (fun _ _ f => f)) hx0).mono ?_; rintro e w2 ⟨B2, rfl, hB2, g5⟩; obtain rfl : B1 = B2 := Bool.eq_iff_iff.2 (hB1.trans hB2.symm); obtain ⟨t0, t1, t2, t3, tf⟩ := cells4 ((g5.block w.heap.size (Nat.lt_of_lt_of_le hwlt g2.size) (fun f => f)).trans ((g2.block w.heap.size hwlt (fun f => f)).trans hbox)); have c2 := (World.cell?_of_block (g5.block ad.block (Nat.lt_of_lt_of_le (Nat.lt_trans hadb hwlt) g2.size) (fun f => f))).trans c1))
            go_wp2
            go_ret
            exact hsame _ _ ((hal.drew.trans g2 (fun _ _ f => f)).trans g5 (fun _ _ f => f)) rfl
          · have hnz : ¬ (0 : Int) < (n : Int) := by omega
            obtain rfl : n = 0 := by omega
            go_enter Try.func24, Try.ntmps24
            go_wp2
            go_ret
            exact hsame _ _ hal rfl
        · go_enter Try.func24, Try.ntmps24
          go_wp2
          go_ret
          exact hsame _ _ hal rfl
end Go.Proofs.Ytflinpnmpkdopaa
