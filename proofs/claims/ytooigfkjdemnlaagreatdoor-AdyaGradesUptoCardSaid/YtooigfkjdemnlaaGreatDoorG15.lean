/- Own texts of this claim, joined in build order: W3. -/
import Derived.Test.YtooigfkjdemnlaaGreatDoorG06
set_option linter.all false
namespace Go.Proofs.YtooigfkjdemnlaaGreatDoor
open Go.RowKit Xw

def tellV (r : Option Wrote) : Value := .tuple #[.agg (wroteC (r.getD wrote0)).toArray, .bool r.isSome]

set_option maxHeartbeats 2000000 in
set_option maxRecDepth 100000 in
theorem tellable_ {w : World} {B lp : Nat} {h : List HTx} (hl : Led w B lp h) (t : Nat) (x : HTx) (hx : h[t]? = some x) (i : Nat) (v : HVer) :
    Calls Tryz.prog 115 #[.pointer (some ⟨lp, 0, none⟩), .int .i64 t, .int .i64 i, .agg #[.string v.key, .int .i64 v.frm, .int .i64 v.nth]] w fun e w' => e = .returned (tellV (tellable h t x i v)) ∧ Below w.heap.size w w' := by
  have hle := hl.le
  have hlp := hl.lt
  obtain ⟨tv, wv, ob, kv, ty, h1, h2, h3, h4, h5⟩ := hl.ex
  have l0 := (cells_of h1).1 0
  have l1 := (cells_of h1).1 1
  obtain ⟨A0, c0, rfl, hn0, hm0⟩ := Rows.shape h2
  have hlw : lp < w.heap.size := by omega
  simp only [maxLen] at hm0
  obtain ⟨k, f, n⟩ := v
  dsimp only
  obtain ⟨r, hr⟩ : ∃ r, r = tellable h t x i ⟨k, f, n⟩ := ⟨_, rfl⟩
  rw [← hr]
  unfold tellable at hr
  dsimp only at hr
  have hbox : ∀ W : World, (W.alloc (.cells #[.string k, .int .i64 f, .int .i64 n] 56)).alloc (.cells #[.int .i64 0, .bool false, .string ⟨#[]⟩] 129) = (W.alloc (.cells #[.string k, .int .i64 f, .int .i64 n] 56)).alloc (.cells #[.int .i64 0, .bool false, .string ⟨#[]⟩] 129) := fun _ => rfl
  clear hbox
  by_cases hf0 : f < 0
  · rw [if_neg (by omega)] at hr
    dsimp only at hr
    have HR := Lib.hid hr; clear hr
    clear h1 h2 h3 h4 h5
    go_enter Tryz.func115, Tryz.ntmps115
    go_wp2_with (with_reducible refine wp_region_free (by kernel_rfl) (fun _ _ => ?_))
    refine ret_ct (vs := [.int .i64 0, .bool false, .string ⟨#[]⟩]) Tryz.results115 ⟨_, Tryz.underlying129⟩ (by kernel_rfl) rfl rfl (by (repeat rw [heap_drew]); exact top_al _ _ (by simp)) ⟨by rw [HR.out]; rfl, ?_⟩
    exact (bel2 w _ _).drew
  · obtain ⟨f, rfl⟩ := Int.eq_ofNat_of_zero_le (show 0 ≤ f by omega)
    rw [if_pos (by omega), Int.toNat_natCast] at hr
    by_cases hf1 : h.length ≤ f
    · rw [List.getElem?_eq_none hf1] at hr
      dsimp only at hr
      have HR := Lib.hid hr; clear hr
      have hf2 : (h.length : Int) ≤ f := by omega
      clear h1 h2 h3 h4 h5
      go_enter Tryz.func115, Tryz.ntmps115
      go_wp2_with (with_reducible refine wp_region_free (by kernel_rfl) (fun _ _ => ?_))
      refine ret_ct (vs := [.int .i64 0, .bool false, .string ⟨#[]⟩]) Tryz.results115 ⟨_, Tryz.underlying129⟩ (by kernel_rfl) rfl rfl (by (repeat rw [heap_drew]); exact top_al _ _ (by simp)) ⟨by rw [HR.out]; rfl, ?_⟩
      exact (bel2 w _ _).drew
    · obtain ⟨y, hy⟩ : ∃ y, h[f]? = some y := ⟨_, List.getElem?_eq_getElem (by omega)⟩
      rw [hy] at hr
      dsimp only at hr
      have hf2 : (f : Int) < h.length := by omega
      obtain ⟨b, o, c, mb, L, rfl, hb, pm, hmb, hL, hlk⟩ := wr_get h3 hy (wr := w) (fun _ _ => rfl)
      have hrw := hlk k
      obtain ⟨A, cp, hsh, hn, hm⟩ := hrw.shape
      have HU := Lib.hid hsh.symm
      rw [hsh] at hrw
      clear hsh
      obtain ⟨_, _, he, hc1, hc2⟩ := h3.shape
      cases he
      simp only [maxLen] at hm hc2
      have hbw : b < w.heap.size := by omega
      have hmw : mb < w.heap.size := by omega
      have hL1 : KMap Value.string (((w.alloc (.cells #[.string k, .int .i64 f, .int .i64 n] 56)).alloc (.cells #[.int .i64 0, .bool false, .string ⟨#[]⟩] 129))) mb L := hL.below (bel2 _ _ _) hmw
      clear h1 h2 h3 h4 h5 hlk hL
      by_cases hn0 : n < 1
      · rw [if_neg (by omega)] at hr
        dsimp only at hr
        have HR := Lib.hid hr; clear hr
        go_enter Tryz.func115, Tryz.ntmps115
        go_wp2_with (first
          | (with_reducible refine wp_region_free (by kernel_rfl) (fun _ _ => ?_))
          | (at_lookup; go_loud (refine wpList_lookup_k kString (.tmp 35) (.tmp 37) _ 160 rfl rfl Tryz.underlying159 (.slice none 0 0) zero_slice_wrote mb k rfl rfl (hL1.keep rfl) ?_; rw [← HU.out])))
        refine ret_ct (vs := [.int .i64 0, .bool false, .string ⟨#[]⟩]) Tryz.results115 ⟨_, Tryz.underlying129⟩ (by kernel_rfl) rfl rfl (by (repeat rw [heap_drew]); exact top_al _ _ (by simp)) ⟨by rw [HR.out]; rfl, ?_⟩
        exact (bel2 w _ _).drew.drew
      · obtain ⟨m, rfl⟩ : ∃ m : Nat, n = (m : Int) + 1 := ⟨(n - 1).toNat, by omega⟩
        rw [if_pos (by omega), show ((m : Int) + 1).toNat - 1 = m by omega] at hr
        by_cases hn1 : (writes y k).length < m + 1
        · rw [List.getElem?_eq_none (by omega)] at hr
          dsimp only at hr
          have HR := Lib.hid hr; clear hr
          have hn2 : ((writes y k).length : Int) < (m : Int) + 1 := by omega
          go_enter Tryz.func115, Tryz.ntmps115
          go_wp2_with (first
            | (with_reducible refine wp_region_free (by kernel_rfl) (fun _ _ => ?_))
            | (at_lookup; go_loud (refine wpList_lookup_k kString (.tmp 35) (.tmp 37) _ 160 rfl rfl Tryz.underlying159 (.slice none 0 0) zero_slice_wrote mb k rfl rfl (hL1.keep rfl) ?_; rw [← HU.out])))
          refine ret_ct (vs := [.int .i64 0, .bool false, .string ⟨#[]⟩]) Tryz.results115 ⟨_, Tryz.underlying129⟩ (by kernel_rfl) rfl rfl (by (repeat rw [heap_drew]); exact top_al _ _ (by simp)) ⟨by rw [HR.out]; rfl, ?_⟩
          exact (bel2 w _ _).drew.drew
        · obtain ⟨u, hu⟩ : ∃ u, (writes y k)[m]? = some u := ⟨_, List.getElem?_eq_getElem (by omega)⟩
          rw [hu] at hr
          dsimp only at hr
          have hn2 : (m : Int) + 1 ≤ (writes y k).length := by omega
          have hn3 : (m : Int) < (writes y k).length := by omega
          obtain ⟨b2, o2, c2, he, hb2, p0, p1, p2⟩ := hrw.get3 hu (wr := w) (fun _ _ => rfl) rfl
          cases he
          have hb2w : b2 < w.heap.size := by omega
          have HUU := Lib.hid hu; clear hu
          cases hd : u.dead
          · rw [hd, if_neg (by simp)] at hr
            have HD := Lib.hid hd
            rw [hd] at p1
            clear hd
            obtain ⟨N, hN⟩ : ∃ N, N = (aheadL x k i).length := ⟨_, rfl⟩
            rw [← hN] at hr
            have HN := Lib.hid hN; clear hN
            have hbe : Below w.heap.size w ((((w.alloc (.cells #[.string k, .int .i64 f, .int .i64 ((m : Int) + 1)] 56)).alloc (.cells #[.int .i64 0, .bool false, .string ⟨#[]⟩] 129)).drew).drew) := (bel2 _ _ _).drew.drew
            have hl2 := hl.below hbe hle
            have htop : ((((w.alloc (.cells #[.string k, .int .i64 f, .int .i64 ((m : Int) + 1)] 56)).alloc (.cells #[.int .i64 0, .bool false, .string ⟨#[]⟩] 129)).drew).drew).heap[w.heap.size + 1]? = some (.cells #[.int .i64 0, .bool false, .string ⟨#[]⟩] 129) := top_al _ _ (by simp)
            have hsz2 : ((((w.alloc (.cells #[.string k, .int .i64 f, .int .i64 ((m : Int) + 1)] 56)).alloc (.cells #[.int .i64 0, .bool false, .string ⟨#[]⟩] 129)).drew).drew).heap.size = w.heap.size + 2 := by simp
            have hbox : ((((w.alloc (.cells #[.string k, .int .i64 f, .int .i64 ((m : Int) + 1)] 56)).alloc (.cells #[.int .i64 0, .bool false, .string ⟨#[]⟩] 129)).drew).drew).heap[w.heap.size]? = some (.cells #[.string k, .int .i64 f, .int .i64 ((m : Int) + 1)] 56) := (heap_alloc_lt (by simp)).trans (heap_alloc_new _ _)
            have hmi : (0 : Int) ≤ m := by omega
            go_enter Tryz.func115, Tryz.ntmps115
            go_wp2_with (first
              | (with_reducible refine wp_region_free (by kernel_rfl) (fun _ _ => ?_))
              | (at_lookup; go_loud (refine wpList_lookup_k kString (.tmp 35) (.tmp 37) _ 160 rfl rfl Tryz.underlying159 (.slice none 0 0) zero_slice_wrote mb k rfl rfl (hL1.keep rfl) ?_; rw [← HU.out])))
            refine (ahead_ hl2 t x hx k i).mono ?_
            rintro e w1 ⟨rfl, hB1⟩
            rw [← HN.out]
            rw [hsz2] at hB1
            have hz1 := hB1.size
            rw [hsz2] at hz1
            have htop1 := (hB1.block _ (by omega)).trans htop
            have hbox1 := (hB1.block _ (by omega)).trans hbox
            have hBw := hbe.trans (hB1.mono (by omega))
            have hl3 := (hl.below hBw hle).below (bel1 w1 (.cells (wroteC ((aheadL x k i).getLastD wrote0)).toArray 129)) (by omega)
            have k0 := ((bcell hBw).1 _ _ hb2w).trans p0
            have k1 := ((bcell hBw).1 _ _ hb2w).trans p1
            have k2 := ((bcell hBw).1 _ _ hb2w).trans p2
            have hb2x : b2 < w1.heap.size := by omega
            have hwx : w.heap.size < w1.heap.size := by omega
            have hwx1 : w.heap.size + 1 < w1.heap.size := by omega
            obtain ⟨vq, vqf⟩ := cells_of (cs := [.string k, .int .i64 f, .int .i64 ((m : Int) + 1)]) hbox1
            have v0 := vq 0
            have v1 := vq 1
            have v2 := vq 2
            obtain ⟨wq, wqf⟩ := cells_of (cs := [.int .i64 0, .bool false, .string ⟨#[]⟩]) htop1
            have t0 := wq 0
            have t1 := wq 1
            have t2 := wq 2
            have s0 := wqf 0
            have s1 := wqf 1
            have s2 := wqf 2
            obtain ⟨LW, hLW⟩ : ∃ LW, LW = (aheadL x k i).getLastD wrote0 := ⟨_, rfl⟩
            rw [← hLW] at hl3 ⊢
            simp only [wroteC] at hl3 ⊢
            clear vq vqf wq wqf p0 p1 p2 hB1 htop hbox hl2 hbe hsz2 hL1 hLW
            go_wp2_with (go_at_call 20; refine (committed_ hl3 t x hx).mono ?_; rintro e w2 ⟨rfl, rfl⟩)
            all_goals first
              | (have hrn : r = none := by
                  rw [hr, if_pos]
                  refine ⟨by assumption, ?_, ?_⟩
                  · first | (right; assumption) | (left; omega)
                  · first | (left; assumption) | (right; omega) | (right; apply bne_iff_ne.1; assumption) | (right; simp_all <;> omega)
                 refine ret_ct (vs := [.int .i64 0, .bool false, .string ⟨#[]⟩]) Tryz.results115 ⟨_, Tryz.underlying129⟩ (by kernel_rfl) rfl rfl ((heap_alloc_lt (by simp; omega)).trans (heap_set3 htop1)) ⟨by rw [hrn]; rfl, ?_⟩
                 exact (((hBw.setCell (p := ⟨w.heap.size + 1, 0, none⟩) (by simp) _).setCell (p := ⟨w.heap.size + 1, 1, none⟩) (by simp) _).setCell (p := ⟨w.heap.size + 1, 2, none⟩) (by simp) _).alloc (by simp; omega) _)
              | (have hrn : r = some u := by
                  rw [hr, if_neg]
                  rintro ⟨g1, g2, g3⟩
                  first | (exact absurd g1 (by assumption)) | (simp_all; omega) | simp_all
                 refine ret_ct (vs := [.int .i64 u.op, .bool false, .string u.value]) Tryz.results115 ⟨_, Tryz.underlying129⟩ (by kernel_rfl) rfl rfl ((heap_alloc_lt (by simp; omega)).trans (heap_set3 htop1)) ⟨by rw [hrn]; simp [tellV, wroteC, HD.out], ?_⟩
                 exact (((hBw.setCell (p := ⟨w.heap.size + 1, 0, none⟩) (by simp) _).setCell (p := ⟨w.heap.size + 1, 1, none⟩) (by simp) _).setCell (p := ⟨w.heap.size + 1, 2, none⟩) (by simp) _).alloc (by simp; omega) _)
          · rw [hd, if_pos rfl] at hr
            have HR := Lib.hid hr; clear hr
            have HD := Lib.hid hd
            rw [hd] at p1
            clear hd
            go_enter Tryz.func115, Tryz.ntmps115
            go_wp2_with (first
              | (with_reducible refine wp_region_free (by kernel_rfl) (fun _ _ => ?_))
              | (at_lookup; go_loud (refine wpList_lookup_k kString (.tmp 35) (.tmp 37) _ 160 rfl rfl Tryz.underlying159 (.slice none 0 0) zero_slice_wrote mb k rfl rfl (hL1.keep rfl) ?_; rw [← HU.out])))
            refine ret_ct (vs := [.int .i64 0, .bool false, .string ⟨#[]⟩]) Tryz.results115 ⟨_, Tryz.underlying129⟩ (by kernel_rfl) rfl rfl (by (repeat rw [heap_drew]); exact top_al _ _ (by simp)) ⟨by rw [HR.out]; rfl, ?_⟩
            exact (bel2 w _ _).drew.drew
end Go.Proofs.YtooigfkjdemnlaaGreatDoor
