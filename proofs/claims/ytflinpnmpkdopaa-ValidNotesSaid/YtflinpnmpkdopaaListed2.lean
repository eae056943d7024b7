/- The walk of 'listed'. -/
import Derived.Test.YtflinpnmpkdopaaListed1
namespace Go.Proofs.Ytflinpnmpkdopaa
set_option linter.unusedVariables false
set_option linter.unusedSimpArgs false
open Go.RowKit Go.Maps Go.ChangeMaps Xw

def ListedPost (w : World) (e : Ending) (w' : World) : Prop := e = .returned (.bool true) ∧ Chg (fun _ => False) w w'

set_option maxHeartbeats 4000000 in
set_option maxRecDepth 100000 in
theorem listed_ (sb rb : Nat) (l : List Int) (rs : List Rng) (Fs Fr : Nat → Prop) (w : World) (h : TwoAt w sb rb l rs Fs Fr) :
    Calls Try.prog 25 #[.pointer (some ⟨sb, 0, none⟩), .pointer (some ⟨rb, 0, none⟩)] w (ListedPost w) := by
  obtain ⟨i0, hi0, hzz0, hzz1, hzz2⟩ := info_parts int_info
  obtain ⟨j0, hj0, hjz0, hjz1, hjz2⟩ := info_parts range_info
  have hl64 := h.s.1
  have hr64 := h.s.2.1
  go_enter Try.func25, Try.ntmps25
  go_wp2_with (first
    | (go_at_call 35; first
        | (refine (slots_ sb l rs Fs w h.s).mono ?_; rintro e w1 ⟨va, Fa, rfl, ha, hFa, hc1⟩)
        | (refine (slots_ sb l rs Fs w1 (h.s.chg hc1 (fun _ _ f => f))).mono ?_; rintro e w2 ⟨va2, Fa2, rfl, ha2, hFa2, hc2⟩))
    | (go_at_call 36; refine (ref_slots rb l rs Fr w2 ((h.r.chg hc1 (fun _ _ f => f)).chg hc2 (fun _ _ f => f))).mono ?_; rintro e w3 ⟨vb, Fb, rfl, hb, hFb, hc3⟩)
    | (go_at_call 37; first
        | (refine (ranges_ sb l rs Fs w3 (((h.s.chg hc1 (fun _ _ f => f)).chg hc2 (fun _ _ f => f)).chg hc3 (fun _ _ f => f))).mono ?_; rintro e w4 ⟨vc, Fc, rfl, hcc, hFc, hc4⟩)
        | (refine (ranges_ sb l rs Fs w4 ((((h.s.chg hc1 (fun _ _ f => f)).chg hc2 (fun _ _ f => f)).chg hc3 (fun _ _ f => f)).chg hc4 (fun _ _ f => f))).mono ?_; rintro e w5 ⟨vc2, Fc2, rfl, hcc2, hFc2, hc5⟩))
    | (go_at_call 38; refine (ref_ranges rb l rs Fr w5 (((((h.r.chg hc1 (fun _ _ f => f)).chg hc2 (fun _ _ f => f)).chg hc3 (fun _ _ f => f)).chg hc4 (fun _ _ f => f)).chg hc5 (fun _ _ f => f))).mono ?_; rintro e w6 ⟨vd, Fd, rfl, hd, hFd, hc6⟩; obtain ⟨Aa, ca, rfl, hcam, hcan⟩ := ha.shape; obtain ⟨Aa2, ca2, rfl, hca2m, hca2n⟩ := ha2.shape; obtain ⟨Ab, cb, rfl, hcbm, hcbn⟩ := hb.shape; obtain ⟨Ac, cc, rfl, hccm, hccn⟩ := hcc.shape; obtain ⟨Ac2, cc2, rfl, hcc2m, hcc2n⟩ := hcc2.shape; obtain ⟨Ad, cd, rfl, hcdm, hcdn⟩ := hd.shape))
  have ha6 := ((((ha.chg hc2 (fun _ _ f => f)).chg hc3 (fun _ _ f => f)).chg hc4 (fun _ _ f => f)).chg hc5 (fun _ _ f => f)).chg hc6 (fun _ _ f => f)
  have ha26 := (((ha2.chg hc3 (fun _ _ f => f)).chg hc4 (fun _ _ f => f)).chg hc5 (fun _ _ f => f)).chg hc6 (fun _ _ f => f)
  have hb6 := ((hb.chg hc4 (fun _ _ f => f)).chg hc5 (fun _ _ f => f)).chg hc6 (fun _ _ f => f)
  have hcc6 := (hcc.chg hc5 (fun _ _ f => f)).chg hc6 (fun _ _ f => f)
  have hcc26 := hcc2.chg hc6 (fun _ _ f => f)
  have hz1 := hc1.size
  have hz2 := hc2.size
  have hz3 := hc3.size
  have hz4 := hc4.size
  have hz5 := hc5.size
  have hz6 := hc6.size
  have hcall : Chg (fun _ => False) w w6 := ((((hc1.trans hc2 (fun _ _ f => f)).trans hc3 (fun _ _ f => f)).trans hc4 (fun _ _ f => f)).trans hc5 (fun _ _ f => f)).trans hc6 (fun _ _ f => f)
  clear ha ha2 hb hcc hcc2 hc1 hc2 hc3 hc4 hc5 hc6
  have dab : ∀ j, Fb j → ¬ Fa j := fun j h1 h2 => by have := (hFb j h1).1; have := (hFa j h2).2; omega
  go_loopw [11, 12] (fun ok i wr => ok = .bool true ∧ ∃ k : Nat, k ≤ l.length ∧ i = .int .i64 k ∧ RowI wr (.slice Aa l.length ca) l k Fa ∧ Chg Fa w6 wr) (fun _ i _ => l.length - (intOf i).toNat)
  case atStart => exact ⟨rfl, 0, by omega, rfl, ⟨_, ha6, rfl⟩, Chg.refl _ _⟩
  case round =>
    obtain ⟨rfl, k, hk, rfl, ⟨xs, hs, hdr⟩, hchg⟩ := hrel
    by_cases hlt : k < l.length
    · obtain ⟨x, hx⟩ : ∃ x, l[k]? = some x := ⟨_, List.getElem?_eq_getElem hlt⟩
      obtain ⟨g, off, rfl, hFg, hgl, hfz, hown, hcell, hset⟩ := hs.at_ (j := k) (by omega)
      obtain ⟨gb, offb, rfl, hFgb, hgbl, _, _, hcellb, _⟩ := (hb6.chg hchg dab).at_ (j := k) (by omega)
      have hca := hcell k _ ((get_of_drop hdr).trans (iCells_get hx))
      have hcb := hcellb k _ (iCells_get hx)
      clear hcell hcellb
      go_wp2_with (refine wp_region_free (by kernel_rfl) (fun _ _ => ?_))
      exact ⟨⟨rfl, k + 1, by omega, by simp, ⟨_, (hset _).keep (fun _ _ _ => rfl), drop_set_next hdr _⟩, (hchg.setCell ⟨g, off + k, none⟩ _ (fun _ => hFg)).drew⟩, by simp [intOf]; omega⟩
    · obtain rfl : k = l.length := by omega
      have hsA := hs
      have hc6 := hcc6.chg hchg (fun j h1 h2 => by have := (hFc j h1).1; have := (hFa j h2).2; omega)
      have hd6 := hd.chg hchg (fun j h1 h2 => by have := (hFd j h1).1; have := (hFa j h2).2; omega)
      have dcd : ∀ j, Fd j → ¬ Fc j := fun j h1 h2 => by have := (hFd j h1).1; have := (hFc j h2).2; omega
      obtain ⟨wA, rfl⟩ : ∃ wA : World, wA = wr := ⟨_, rfl⟩
      go_wp2
      go_loopw [11, 13] (fun ok i wr => ok = .bool true ∧ ∃ k : Nat, k ≤ rs.length ∧ i = .int .i64 k ∧ RowR 72 wr (.slice Ac rs.length cc) rs k Fc ∧ Chg Fc wA wr) (fun _ i _ => rs.length - (intOf i).toNat)
      case atStart => exact ⟨rfl, 0, by omega, rfl, ⟨_, hc6, rfl⟩, Chg.refl _ _⟩
      case round =>
        obtain ⟨rfl, k, hk, rfl, ⟨xs2, hs2, hdr2⟩, hchg2⟩ := hrel
        by_cases hlt : k < rs.length
        · obtain ⟨x, hx⟩ : ∃ x, rs[k]? = some x := ⟨_, List.getElem?_eq_getElem hlt⟩
          obtain ⟨hx1, hx2⟩ := rCells_at rs k x hx
          rw [Nat.mul_comm] at hx1 hx2
          obtain ⟨g, off, rfl, hFg, hgl, hfz, hown, hcell, hset⟩ := hs2.at_ (j := k * 2) (by omega)
          obtain ⟨gb, offb, rfl, hFgb, hgbl, _, _, hcellb, _⟩ := (hd6.chg hchg2 dcd).at_ (j := k * 2) (by omega)
          have hca := hcell _ _ ((get_of_drop hdr2).trans hx1)
          have hca2 := hcell _ _ ((get_of_drop2 hdr2).trans hx2)
          have hcb := hcellb _ _ hx1
          have hcb2 := hcellb _ _ hx2
          rw [← Nat.add_assoc] at hca2 hcb2
          obtain ⟨x1, x2⟩ := x
          have hcv := conv_byte wr k
          clear hcell hcellb hx1 hx2
          go_wp2_with (refine wp_region_free (by kernel_rfl) (fun _ _ => ?_))
          exact ⟨⟨rfl, k + 1, by omega, by simp, ⟨_, ((hs2.set2 hlt _ _).keep (w' := World.alloc _ _) fun j hj _ => heap_alloc_old _ _ hj).keep (fun _ _ _ => rfl), drop_set_next2 hdr2 _ _⟩, (((hchg2.setCell ⟨g, off + k * 2, none⟩ _ (fun _ => hFg)).setCell ⟨g, off + k * 2 + 1, none⟩ _ (fun _ => hFg)).alloc _).drew⟩, by simp [intOf]; omega⟩
        · obtain rfl : k = rs.length := by omega
          have hsC := hs2.own
          have hsA2 := (hsA.chg hchg2 (fun j h1 h2 => by have := (hFa j h1).2; have := (hFc j h2).1; omega)).own
          have hz7 := hchg.size
          obtain ⟨wB, rfl⟩ : ∃ wB : World, wB = wr := ⟨_, rfl⟩
          have hz8 := hchg2.size
          have hpair : GrowPair wB (fun j => Fa j ∨ Fc j) l.length rs.length (.slice Aa l.length ca) (.slice Ac rs.length cc) wB :=
            ⟨_, _, hsA2, fun j hj => .inl (.inl (hsA2.own_mem hj |> fun _ => (hsA.own_mem hj).1)), hsC, fun j hj => .inl (.inr (hs2.own_mem hj).1), Chg.refl _ _⟩
          go_wp2
          go_loopw [5, 8, 14] (fun va vc i wr => ∃ k : Nat, k ≤ 70 ∧ i = .int .i64 k ∧ GrowPair wB (fun j => Fa j ∨ Fc j) (l.length + k) (rs.length + k) va vc wr) (fun _ _ i _ => 70 - (intOf i).toNat)
          case atStart => exact ⟨0, by omega, rfl, hpair⟩
          case round =>
            obtain ⟨k, hk, rfl, xa, xc, hA, ia, hC, ic, hx⟩ := hrel
            by_cases hlt : k < 70
            · obtain ⟨Aa1, ca1, rfl, _, _⟩ := hA.shape
              obtain ⟨Ac1, cc1, rfl, _, _⟩ := hC.shape
              go_wp2_with (at_builtin; go_loud (first
                | (refine wpList_append_sl _ rfl (.tmp 123) (.tmp 124) 37 rfl 3 i0 _ 1 8 Try.underlying37 hi0 hzz0 hzz1 hzz2 rfl (by omega) _ _ _ _ rfl (hA.chg ((Chg.refl (fun _ => False) _).alloc _) (fun _ _ f => f)) _ _ 1 1 [.int .i64 (-99)] rfl (reads_new _ _ _) (by intro u hu; simp at hu; subst hu; rfl) (by simp only [maxLen]; omega) (by omega) ?_; intro v1' w3 F3 hs3 hc3 hf3 hnz; obtain ⟨hA3, ia3, hC3, hx3⟩ := pair_step (by decide) hA hC ia hx ((Chg.refl (fun _ => False) _).alloc _) hs3 hc3 hf3)
                | (refine wpList_append_sl _ rfl (.tmp 126) (.tmp 128) 52 rfl 72 j0 _ 2 32 Try.underlying52 hj0 hjz0 hjz1 hjz2 rfl (by omega) _ _ _ _ rfl (hC3.chg ((Chg.refl (fun _ => False) _).alloc _) (fun _ _ f => f)) _ _ 1 1 [.string _, .string _] rfl (reads_new2 _ _ _ _) (by intro u hu; simp at hu; rcases hu with rfl | rfl <;> rfl) (by simp only [maxLen]; omega) (by omega) ?_; intro v2' w4 F4 hs4 hc4 hf4 hnz4; obtain ⟨hC4, ic4, hA4, hx4⟩ := pair_step (by decide) hC3 hA3 ic hx3 ((Chg.refl (fun _ => False) _).alloc _) hs4 hc4 hf4)))
              exact ⟨⟨k + 1, by omega, by simp, _, _, hA4, ia3, hC4, ic4, hx4⟩, by simp [intOf]; omega⟩
            · obtain rfl : k = 70 := by omega
              have h6C : Chg (fun j => Fa j ∨ Fc j) w6 wr := ((hchg.mono fun _ _ h => .inl h).trans hchg2 (fun _ _ h => .inr h)).trans hx (fun _ _ h => h)
              have hz9 := hx.size
              have ha2C := ha26.chg h6C (fun j h1 h2 => by rcases h2 with h2 | h2 <;> (have := hFa2 j h1; first | (have := hFa j h2; omega) | (have := hFc j h2; omega)))
              have hbC := hb6.chg h6C (fun j h1 h2 => by rcases h2 with h2 | h2 <;> (have := hFb j h1; first | (have := hFa j h2; omega) | (have := hFc j h2; omega)))
              have hc2C := hcc26.chg h6C (fun j h1 h2 => by rcases h2 with h2 | h2 <;> (have := hFc2 j h1; first | (have := hFa j h2; omega) | (have := hFc j h2; omega)))
              have hdC := hd.chg h6C (fun j h1 h2 => by rcases h2 with h2 | h2 <;> (have := hFd j h1; first | (have := hFa j h2; omega) | (have := hFc j h2; omega)))
              have dba2 : ∀ j, Fb j → ¬ Fa2 j := fun j h1 h2 => by have := (hFb j h1).1; have := (hFa2 j h2).2; omega
              have dc2a2 : ∀ j, Fc2 j → ¬ Fa2 j := fun j h1 h2 => by have := (hFc2 j h1).1; have := (hFa2 j h2).2; omega
              have dda2 : ∀ j, Fd j → ¬ Fa2 j := fun j h1 h2 => by have := (hFd j h1).1; have := (hFa2 j h2).2; omega
              have ddc2 : ∀ j, Fd j → ¬ Fc2 j := fun j h1 h2 => by have := (hFd j h1).1; have := (hFc2 j h2).2; omega
              have hwC : Chg (fun _ => False) w wr := hcall.trans h6C (fun j hj h => by rcases h with h | h; exact absurd (hFa j h).1 (by omega); exact absurd (hFc j h).1 (by omega))
              have dwa2 : ∀ j, j < w.heap.size → Fa2 j → False := fun j hj h => by have := (hFa2 j h).1; omega
              have dwc2 : ∀ j, j < w.heap.size → Fc2 j → False := fun j hj h => by have := (hFc2 j h).1; omega
              clear hA ia hC ic hx hchg hchg2 h6C hpair hsA hsA2 hsC hs hs2 hdr hdr2 ha26 hb6 hcc26 hd hc6 hd6 hFa hFa2 hFb hFc hFc2 hFd hz1 hz2 hz3 hz4 hz5 hz6 hz7 hz8 hz9 dab dcd
              obtain ⟨wC, rfl⟩ : ∃ wC : World, wC = wr := ⟨_, rfl⟩
              go_wp2
              go_loopw [11, 15] (fun ok i wr => ok = .bool true ∧ ∃ k : Nat, k ≤ l.length ∧ i = .int .i64 k ∧ RowI wr (.slice Aa2 l.length ca2) l k Fa2 ∧ Chg Fa2 wC wr) (fun _ i _ => l.length - (intOf i).toNat)
              case atStart => exact ⟨rfl, 0, by omega, rfl, ⟨_, ha2C, rfl⟩, Chg.refl _ _⟩
              case round =>
                obtain ⟨rfl, k, hk, rfl, ⟨xs, hs, hdr⟩, hchg⟩ := hrel
                by_cases hlt : k < l.length
                · obtain ⟨x, hx⟩ : ∃ x, l[k]? = some x := ⟨_, List.getElem?_eq_getElem hlt⟩
                  obtain ⟨g, off, rfl, hFg, hgl, hfz, hown, hcell, hset⟩ := hs.at_ (j := k) (by omega)
                  obtain ⟨gb, offb, rfl, hFgb, hgbl, _, _, hcellb, _⟩ := (hbC.chg hchg dba2).at_ (j := k) (by omega)
                  have hca := hcell k _ ((get_of_drop hdr).trans (iCells_get hx))
                  have hcb := hcellb k _ (iCells_get hx)
                  clear hcell hcellb
                  go_wp2_with (refine wp_region_free (by kernel_rfl) (fun _ _ => ?_))
                  exact ⟨⟨rfl, k + 1, by omega, by simp, ⟨_, (hset _).keep (fun _ _ _ => rfl), drop_set_next hdr _⟩, (hchg.setCell ⟨g, off + k, none⟩ _ (fun _ => hFg)).drew⟩, by simp [intOf]; omega⟩
                · obtain rfl : k = l.length := by omega
                  have hc2D := hc2C.chg hchg dc2a2
                  have hdD := hdC.chg hchg dda2
                  have hwD := hwC.trans hchg (fun j hj h => dwa2 j hj h)
                  clear hs hdr hchg ha2C hbC hc2C hdC hwC
                  obtain ⟨wD, rfl⟩ : ∃ wD : World, wD = wr := ⟨_, rfl⟩
                  go_wp2
                  go_loopw [11, 16] (fun ok i wr => ok = .bool true ∧ ∃ k : Nat, k ≤ rs.length ∧ i = .int .i64 k ∧ RowR 72 wr (.slice Ac2 rs.length cc2) rs k Fc2 ∧ Chg Fc2 wD wr) (fun _ i _ => rs.length - (intOf i).toNat)
                  case atStart => exact ⟨rfl, 0, by omega, rfl, ⟨_, hc2D, rfl⟩, Chg.refl _ _⟩
                  case round =>
                    obtain ⟨rfl, k, hk, rfl, ⟨xs2, hs2, hdr2⟩, hchg2⟩ := hrel
                    by_cases hlt : k < rs.length
                    · obtain ⟨x, hx⟩ : ∃ x, rs[k]? = some x := ⟨_, List.getElem?_eq_getElem hlt⟩
                      obtain ⟨hx1, hx2⟩ := rCells_at rs k x hx
                      rw [Nat.mul_comm] at hx1 hx2
                      obtain ⟨g, off, rfl, hFg, hgl, hfz, hown, hcell, hset⟩ := hs2.at_ (j := k * 2) (by omega)
                      obtain ⟨gb, offb, rfl, hFgb, hgbl, _, _, hcellb, _⟩ := (hdD.chg hchg2 ddc2).at_ (j := k * 2) (by omega)
                      have hca := hcell _ _ ((get_of_drop hdr2).trans hx1)
                      have hca2 := hcell _ _ ((get_of_drop2 hdr2).trans hx2)
                      have hcb := hcellb _ _ hx1
                      have hcb2 := hcellb _ _ hx2
                      rw [← Nat.add_assoc] at hca2 hcb2
                      obtain ⟨x1, x2⟩ := x
                      clear hcell hcellb hx1 hx2
                      go_wp2_with (refine wp_region_free (by kernel_rfl) (fun _ _ => ?_))
                      exact ⟨⟨rfl, k + 1, by omega, by simp, ⟨_, (hs2.set2 hlt _ _).keep (fun _ _ _ => rfl), drop_set_next2 hdr2 _ _⟩, ((hchg2.setCell ⟨g, off + k * 2, none⟩ _ (fun _ => hFg)).setCell ⟨g, off + k * 2 + 1, none⟩ _ (fun _ => hFg)).drew⟩, by simp [intOf]; omega⟩
                    · obtain rfl : k = rs.length := by omega
                      have hwE := hwD.trans hchg2 (fun j hj h => dwc2 j hj h)
                      go_wp2
                      go_ret
                      exact ⟨rfl, hwE⟩
end Go.Proofs.Ytflinpnmpkdopaa
