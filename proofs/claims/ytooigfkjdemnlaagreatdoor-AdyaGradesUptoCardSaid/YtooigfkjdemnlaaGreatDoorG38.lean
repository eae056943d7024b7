/- Own texts of this claim, joined in build order: F10. -/
import Derived.Test.YtooigfkjdemnlaaGreatDoorG37
set_option linter.all false
namespace Go.Proofs.YtooigfkjdemnlaaGreatDoor
set_option maxRecDepth 100000
open Go.RowKit Go.Lib Go.Sort Go.Shelf Xw

theorem zero_state (w : World) : (zeroValue 87).run Tryz.prog w = .ok (.map none) w := by kernel_rfl
theorem zero_ints (w : World) : (zeroValue 34).run Tryz.prog w = .ok (.slice none 0 0) w := by kernel_rfl
theorem RunI.re {W0 wr : World} {nb sn si N N' : Nat} {nst nst' : KSt} {act act' : Int → Prop} {snap snap' : Int → KSt} {f f' : Int → List Int} {Ls Lsi : List (Int × Value)} {sb : Int → Nat} {Cs : Nat → Prop} (R : RunI W0 wr nb sn si nst N act snap f none Ls Lsi sb Cs)
    (hN : N ≤ N') (hn : nst = nst') (ha : ∀ k, act k ↔ act' k) (hs : ∀ k, act' k → snap k = snap' k) (hf : ∀ k, f k = f' k) : RunI W0 wr nb sn si nst' N' act' snap' f' none Ls Lsi sb Cs := by
  obtain rfl : f = f' := funext hf
  subst hn
  refine ⟨R.ord, R.now.more hN, R.snm, fun k => (R.keys k).trans (ha k), fun k v hk => ?_, fun k k' h1 h2 => R.inj k k' ((ha k).2 h1) ((ha k').2 h2), R.sin, R.col⟩
  obtain ⟨h1, h2, h3, h4, h5⟩ := R.snp k v hk
  exact ⟨h1, h2, h3, h4, fun he => by rw [← hs k ((ha k).1 ((R.keys k).1 (mem_of_kget hk)))]; exact (h5 he).more hN⟩
theorem actB_not {h : List HTx} {l : List Pt} {p : Nat} {q : Pt} (W : WfPts h l) (hq : l[p]? = some q) (hc : q.cm = false) : ¬ actB l p q.txn = true := fun ha => by
  unfold actB at ha
  rw [Bool.and_eq_true] at ha
  obtain ⟨b, r, hb, hr, h1, h2⟩ := begB_iff.1 ha.1
  have := W.inj hr hq (by omega) (by rw [h2, hc])
  omega
set_option maxHeartbeats 16000000 in
theorem run_ {w : World} {B Bp lp : Nat} {h : List HTx} {v : Value} {l c : List Pt} (hl : Led w B lp h) (H : Fine h) (W : WfPts h l) (hsame : SamePts l c) (hr : Rows w Bp 3 (Flat ptC) v c) (hBp : Bp ≤ w.heap.size) (hll : l.length ≤ 512) :
    Calls Tryz.prog 37 #[.pointer (some ⟨lp, 0, none⟩), v] w fun e w' => Below w.heap.size w w' ∧ ∃ n : Int, e = .returned (.int .i64 n) ∧ Hid (n = 0 ↔ RunOK h l) := by
  have hmk : ∀ (t : TypeId) (w : World), (Instr.makeMap t none).run Tryz.prog w = .ok (.map (some w.heap.size)) (w.alloc (.map #[] 0)) := fun _ _ => rfl
  have hmf : ∀ (fn : Fn) (first cap : Array Value) (w : World), (Instr.makeFunc fn first cap).run Tryz.prog w = .ok (.func fn first cap) w := fun _ _ _ _ => rfl
  obtain ⟨ii, zi, jj0, jj1, jj2, jj3, jj4⟩ := info_of int_info
  obtain ⟨A, cp, rfl, hca, hcb⟩ := hr.shape
  have hcl := hsame.1
  have hle := hl.le
  rw [hcl] at hca ⊢
  simp only [maxLen] at hcb
  obtain ⟨W0, hW0⟩ : ∃ W0, W0 = (((w.alloc (.cells #[.pointer (some ⟨lp, 0, none⟩)] 78)).alloc (.map #[] 0)).alloc (.map #[] 0)).alloc (.map #[] 0) := ⟨_, rfl⟩
  have hz0 : W0.heap.size = w.heap.size + 4 := by rw [hW0]; simp
  have hB0 : Below w.heap.size w W0 := by rw [hW0]; exact bel4 _ _ _ _ _
  have hlb0 : W0.heap[w.heap.size]? = some (.cells #[.pointer (some ⟨lp, 0, none⟩)] 78) := by rw [hW0, heap_alloc_lt (by simp; omega), heap_alloc_lt (by simp; omega), heap_alloc_lt (by simp)]; exact heap_alloc_new _ _
  have hn0 : StM W0 (w.heap.size + 1) (fun _ => none) 0 := by
    have := StM.made (w.alloc (.cells #[.pointer (some ⟨lp, 0, none⟩)] 78))
    rw [World.size_alloc] at this
    rw [hW0]
    exact (this.keep (heap_alloc_lt (by simp))).keep (heap_alloc_lt (by simp))
  have hs0 : KMap kInt.enc W0 (w.heap.size + 1 + 1) [] := by
    have := KMap.made kInt.enc ((w.alloc (.cells #[.pointer (some ⟨lp, 0, none⟩)] 78)).alloc (.map #[] 0))
    rw [World.size_alloc, World.size_alloc] at this
    rw [hW0]
    exact this.keep (heap_alloc_lt (by simp))
  have hi0 : KMap kInt.enc W0 (w.heap.size + 1 + 1 + 1) [] := by
    have := KMap.made kInt.enc (((w.alloc (.cells #[.pointer (some ⟨lp, 0, none⟩)] 78)).alloc (.map #[] 0)).alloc (.map #[] 0))
    rw [World.size_alloc, World.size_alloc, World.size_alloc] at this
    rw [hW0]
    exact this
  have hR0 : RunI W0 W0 (w.heap.size + 1) (w.heap.size + 1 + 1) (w.heap.size + 1 + 1 + 1) (nowAt h l 0) (256 * 0) (fun k => actB l 0 k = true) (fun k => nowAt h l (begAt l k 0)) (sinceF l 0) none [] [] (fun _ => 0) (fun j => j = w.heap.size + 1 + 1 + 1) :=
    ⟨⟨by omega, by omega, by omega, Nat.le_refl _⟩, hn0, hs0, fun k => by simp [actB, begB], fun k v hk => by simp [kget] at hk, fun k k' h1 => by simp [actB, begB] at h1, ⟨rfl, hi0, fun k hk => absurd rfl hk, fun _ _ => False, fun k => by simpa [kget, sinceF] using Sl.nil _ _ _ _, fun _ _ f => f.elim, fun _ _ _ f => f.elim⟩, fun j hj => .inl hj⟩
  have HR0 := Lib.hid hR0
  have HW0 := Lib.hid hW0
  have HLB := Lib.hid hlb0
  have HR := Lib.hid hr
  have HL := Lib.hid hl
  have HSM := Lib.hid hsame
  have HZ0 := Lib.hid hz0
  have hzw : w.heap.size ≤ W0.heap.size := hB0.size
  clear hW0 hR0 hn0 hs0 hi0 hlb0 hr hl hsame hz0 hcl
  obtain ⟨si, hsi⟩ : ∃ si, si = w.heap.size + 1 + 1 + 1 := ⟨_, rfl⟩
  obtain ⟨sn, hsn⟩ : ∃ sn, sn = w.heap.size + 1 + 1 := ⟨_, rfl⟩
  obtain ⟨nb, hnb⟩ : ∃ nb, nb = w.heap.size + 1 := ⟨_, rfl⟩
  rw [← hsi, ← hsn, ← hnb] at HR0
  go_enter Tryz.func37, Tryz.ntmps37
  go_upto_region 4 with (fail)
  rw [← HW0.out, ← hsi, ← hsn, ← hnb]
  have hwn : w.heap.size < nb := by omega
  have hns : nb < sn := by omega
  have hss : sn < si := by omega
  have hsw : si < W0.heap.size := by have := HZ0.out; omega
  clear hsi hsn hnb
  go_wp2
  go_loopw [9, 10, 11, 12, 18] (fun _ _ _ _ i' wr => ∃ (p : Nat) (Ls Lsi : List (Int × Value)) (sb : Int → Nat) (Cs : Nat → Prop), p ≤ l.length ∧ i' = .int .i64 p ∧ Hid (RunI W0 wr nb sn si (nowAt h l p) (256 * p) (fun k => actB l p k = true) (fun k => nowAt h l (begAt l k p)) (sinceF l p) none Ls Lsi sb Cs) ∧ Hid (∀ p' < p, StepOK h l p') ∧ Below w.heap.size w wr ∧ Hid (wr.heap[w.heap.size]? = W0.heap[w.heap.size]?) ∧ W0.heap.size ≤ wr.heap.size) (fun _ _ _ _ i' _ => l.length - (intOf i').toNat)
  case atStart => exact ⟨0, [], [], _, _, by omega, rfl, HR0, Lib.hid (fun p hp => by omega), hB0, Lib.hid rfl, Nat.le_refl _⟩
  case round =>
    obtain ⟨p, Ls, Lsi, sb, Cs, hp, rfl, HRI, HOK, hB, HB2, hzr⟩ := hrel
    by_cases hlt : p < l.length
    · obtain ⟨q, hq⟩ : ∃ q, l[p]? = some q := ⟨_, List.getElem?_eq_getElem hlt⟩
      obtain ⟨a, hca'⟩ := HSM.out.2 p q hq
      obtain ⟨b, o, c2, hqq, hb, p0, p1, p2⟩ : ∃ b o c2, Value.slice A c.length cp = .slice (some ⟨b, o, none⟩) c.length c2 ∧ b < Bp ∧ wr.cell? ⟨b, o + p * 3, none⟩ = some (.int .i64 q.txn) ∧ wr.cell? ⟨b, o + p * 3 + 1, none⟩ = some (.bool q.cm) ∧ wr.cell? ⟨b, o + p * 3 + 2, none⟩ = some (.int .i64 a) := by
        have hcl := HSM.out.1
        have hr' := HR.out
        obtain ⟨b, o, c2, cs, hv, hb, -, -, -, he, hc⟩ := Rows.at_ hr' hca'
        have hc' : ∀ j u, (ptC ⟨q.txn, q.cm, a⟩)[j]? = some u → wr.cell? ⟨b, o + p * 3 + j, none⟩ = some u := fun j u hu => (World.cell?_of_block (hB.block b (by omega))).trans (hc j u (by rw [he]; exact hu))
        exact ⟨b, o, c2, hv, hb, hc' 0 _ rfl, hc' 1 _ rfl, hc' 2 _ rfl⟩
      rw [HSM.out.1] at hqq
      cases hqq
      have hbr : b < wr.heap.size := by have := hB.size; omega
      have hpi : (p : Int) < l.length := by omega
      obtain ⟨W9, hW9⟩ : ∃ W9, W9 = (wr.alloc (.cells #[.int .i64 q.txn, .bool q.cm, .int .i64 a] 112)).alloc (.cells #[.int .i64 q.txn] 3) := ⟨_, rfl⟩
      have hB9 : Below wr.heap.size wr W9 := by rw [hW9]; exact bel2 _ _ _
      have hz9 : W9.heap.size = wr.heap.size + 2 := by rw [hW9]; simp
      have hc9 : Chg (fun _ => False) wr W9 := ⟨hB9.tape, hB9.os, hB9.output, hB9.size, fun b hb _ => hB9.block b hb⟩
      have hbx : W9.heap[wr.heap.size]? = some (.cells #[.int .i64 q.txn, .bool q.cm, .int .i64 a] 112) := by rw [hW9, heap_alloc_lt (by simp)]; exact heap_alloc_new _ _
      have hbt : W9.heap[wr.heap.size + 1]? = some (.cells #[.int .i64 q.txn] 3) := by rw [hW9]; exact top_al _ _ (by simp)
      have hlb9 := (hB9.block w.heap.size (by omega)).trans (HB2.out.trans HLB.out)
      have hB9w : Below w.heap.size w W9 := hB.trans (hB9.mono hB.size)
      have HR9 := Lib.hid (HRI.out.quiet hc9)
      have HL9 := Lib.hid (HL.out.below hB9w hle)
      have HW9 := Lib.hid hW9
      have HX := Lib.hid (And.intro hq (And.intro hbx (And.intro hbt (And.intro hlb9 hB9w))))
      have HZ9 := Lib.hid hz9
      have m1 := (cells_of (cs := [.int .i64 q.txn, .bool q.cm, .int .i64 a]) hbx).1 1
      have t0 := (cells_of (cs := [.int .i64 q.txn]) hbt).1 0
      have i1 : wr.heap.size < W9.heap.size := by omega
      clear hW9 hq hca' hbx hbt hlb9 hB9w
      go_upto_region 8 with (fail)
      rw [← HW9.out]
      obtain ⟨tb, htb⟩ : ∃ tb, tb = wr.heap.size + 1 := ⟨_, rfl⟩
      rw [← htb] at t0 ⊢
      have i2 : tb < W9.heap.size := by omega
      have i3 : wr.heap.size < tb := by omega
      have HTB := Lib.hid htb
      clear htb hz9 p0 p1 p2
      cases hcm : q.cm with
      | false =>
        rw [hcm] at m1
        have HCM := Lib.hid hcm
        obtain ⟨nk, hnk⟩ : ∃ nk, nk = W9.heap.size := ⟨_, rfl⟩
        have hcln : Calls Tryz.prog 78 #[.map (some nb)] W9.drew fun e w' => e = .returned (.map (some nk)) ∧ Chg (fun _ => False) W9 w' ∧ StM w' nk (nowAt h l p) (256 * p) ∧ nk < w'.heap.size := by
          refine (cloneSt_ (HR9.out.now.keep (w' := W9.drew) rfl)).mono ?_
          rintro e w' ⟨rfl, o, rfl, hS⟩
          refine ⟨by rw [hnk]; rfl, ((Chg.refl _ _).drew).alloc _, by rw [hnk]; exact hS, ?_⟩
          rw [World.size_alloc, hnk]; exact Nat.lt_succ_self _
        have HCL := Lib.hid hcln
        have HNK := Lib.hid hnk
        clear hcln hnk hcm
        go_upto_region 9 with (fail)
        go_region_held3 (fun w' => w'.cell? ⟨tb, 0, none⟩ = some (.int .i64 q.txn)) (first | exact t0 | exact r0 | exact s0 | go_keep)
          (first
            | (go_at_call 78; with_reducible refine HCL.out.mono ?_
               rintro e w2 ⟨rfl, hc2, hS2, hnk2⟩
               have hz2 := hc2.size
               obtain ⟨w3, hrun3, hk3, hc3⟩ := run_store_kmap kInt Tryz.underlying153 (HR9.out.snm.chg hc2 (fun f => f)) (q.txn : Int) (.map (some nk))
               have hrun3' : (Instr.mapUpdate 153 (.map (some sn)) (.int .i64 q.txn) (.map (some nk))).run Tryz.prog w2 = .ok () w3 := hrun3
               have hz3 := hc3.size
               have r0 := (World.cell?_of_block (a := ⟨tb, 0, none⟩) (hc2.block tb i2 (fun f => f))).trans t0
               have s0 := (World.cell?_of_block (a := ⟨tb, 0, none⟩) (hc3.block tb (by omega) (by omega))).trans r0
               have HC23 := Lib.hid (And.intro hc2 (And.intro hS2 (And.intro hk3 hc3)))
               clear hrun3 hc2 hS2 hk3 hc3))
        all_goals (
          obtain ⟨hc2, hS2, hk3, hc3⟩ := HC23.out
          have hsiK : KMap kInt.enc w3 si Lsi := ((HR9.out.sin.2.1).chg hc2 (fun f => f)).chg hc3 (by omega)
          obtain ⟨w4, hrun4, hk4, hc4⟩ := run_store_kmap kInt Tryz.underlying154 hsiK (q.txn : Int) (.slice none 0 0)
          have hrun4' : (Instr.mapUpdate 154 (.map (some si)) (.int .i64 q.txn) (.slice none 0 0)).run Tryz.prog w3 = .ok () w4 := hrun4
          have hnb9 : W9.heap.size ≤ nk := by rw [HNK.out]; exact Nat.le_refl _
          obtain ⟨Cs2, hR2⟩ := HR9.out.add (actB_not W HX.out.1 HCM.out) hc2 hnb9 hnk2 hS2 hk3 hc3 hk4 hc4
          have HR2 := Lib.hid hR2
          have HC4 := Lib.hid hc4
          have hi9 : tb < w3.heap.size := by omega
          clear hrun4 hc2 hS2 hk3 hc3 hsiK hk4 hc4 hR2
          go_wp2
          obtain ⟨hc2, hS2, hk3, hc3⟩ := HC23.out
          have hc4 := HC4.out
          have hz4 := hc4.size
          have hBe : Below w.heap.size w w4 := ((HX.out.2.2.2.2.trans (hc2.below (B := w.heap.size) (fun _ f => f.elim) HX.out.2.2.2.2.size)).trans (hc3.below (fun j hj => by omega) (by omega))).trans (hc4.below (fun j hj => by omega) (by omega))
          have hnow : nowAt h l (p + 1) = nowAt h l p := by simp only [nowAt, HX.out.1, HCM.out]; rfl
          refine ⟨⟨p + 1, _, _, _, _, by omega, by simp, Lib.hid (HR2.out.re (by omega) hnow.symm (fun k => (actB_begin W HX.out.1 HCM.out k).symm) (fun k _ => ?_) (fun k => ?_)), Lib.hid (fun p' hp' => ?_), hBe, Lib.hid ?_, by omega⟩, by simp [intOf]; omega⟩
          · by_cases hk : k = (q.txn : Int)
            · rw [if_pos hk]
              have : begAt l k (p + 1) = p := by simp only [begAt, HX.out.1]; rw [if_pos ⟨hk.symm, HCM.out⟩]
              rw [this]
            · rw [if_neg hk]
              have : begAt l k (p + 1) = begAt l k p := by simp only [begAt, HX.out.1]; rw [if_neg (fun h => hk h.1.symm)]
              rw [this]
          · simp only [sinceF, HX.out.1, HCM.out]
            rfl
          · by_cases hpp : p' = p
            · subst hpp
              intro q' x hq' hc' _ _
              rw [HX.out.1] at hq'; cases hq'
              rw [HCM.out] at hc'; cases hc'
            · exact HOK.out p' (by omega)
          · have h9 : W9.heap[w.heap.size]? = wr.heap[w.heap.size]? := hc9.block w.heap.size (by omega) (fun f => f)
            exact (hc4.block w.heap.size (by omega) (by omega)).trans ((hc3.block w.heap.size (by omega) (by omega)).trans ((hc2.block w.heap.size (by omega) (fun f => f)).trans (h9.trans HB2.out))))
      | true =>
        rw [hcm] at m1
        have HCM := Lib.hid hcm
        obtain ⟨x, hx, hfx⟩ := com_iff.1 (W.cm q (List.mem_of_getElem? HX.out.1))
        obtain ⟨tv, wv, ob, kv, tyl, l1, l2, l3, l4, l5⟩ := HL9.out.ex
        have hlp := HL9.out.lt
        have q0 := (cells_of l1).1 0
        obtain ⟨b3, p3, c3, ov3, he3, hb3, ⟨x0, x1, x2, x3, x4, x5, x6, x7, x8⟩, hro⟩ := HistV.get l2 hx (wr := W9) (fun _ _ => rfl)
        cases he3
        obtain ⟨_, _, hth, ht1, ht2⟩ := Rows.shape l2
        cases hth
        simp only [maxLen] at ht2
        have hti : (q.txn : Int) < h.length := by have := (List.getElem?_eq_some_iff.1 hx).1; omega
        have b0 := (cells_of (cs := [.pointer (some ⟨lp, 0, none⟩)]) HX.out.2.2.2.1).1 0
        have hb9 := HX.out.2.2.2.2.size
        have i4 : lp < W9.heap.size := by omega
        have i5 : b3 < W9.heap.size := by omega
        have i6 : w.heap.size < W9.heap.size := by omega
        have hact := actB_self W HX.out.1 HCM.out
        obtain ⟨sv, hsv⟩ := kget_of_mem ((HR9.out.keys q.txn).2 hact) HR9.out.snm.nodup
        obtain ⟨rfl, s1, s2, s3, s4⟩ := HR9.out.snp q.txn sv hsv
        have s5 : sb q.txn < wr.heap.size := (HRI.out.snp q.txn _ hsv).2.2.1
        have hopx := H.ops q.txn x hx
        have HXX := Lib.hid (And.intro hx (And.intro hact (And.intro hsv (And.intro (s4 (by simp)) hopx))))
        have htbC : ¬ Cs tb := fun h => by have := HRI.out.col tb h; omega
        have HTC := Lib.hid htbC
        clear l1 l2 l3 l4 l5 hro hx hact hsv s4 hcm hopx htbC hfx
        by_cases hiso : x.iso = 1
        case' pos =>
          have hib : (x.iso != 1) = false := by simp [hiso]
          have HSTEP : Hid (StepOK h l p) := Lib.hid (fun q' x' hq' _ hx' hi' => by
            rw [HX.out.1] at hq'; cases hq'
            rw [HXX.out.1] at hx'; cases hx'
            exact absurd hiso hi')
          clear hiso
          go_upto_region 17 with (with_reducible refine wp_region_free (by kernel_rfl) (fun _ _ => ?_))
          obtain ⟨wx, hwx⟩ : ∃ wx, wx = W9.drew := ⟨_, rfl⟩
          rw [← hwx]
          have hcx : Chg (fun j => j = sb q.txn) W9 wx := by rw [hwx]; exact (Chg.refl _ _).drew
          have hzx : W9.heap.size ≤ wx.heap.size := hcx.size
          have HRX : Hid (∃ ex, (ex = none ∨ ex = some (q.txn : Int)) ∧ RunI W0 wx nb sn si (nowAt h l p) (256 * p) (fun k => actB l p k = true) (fun k => nowAt h l (begAt l k p)) (sinceF l p) ex Ls Lsi sb Cs) := Lib.hid ⟨none, .inl rfl, HR9.out.quiet (by rw [hwx]; exact (Chg.refl _ _).drew)⟩
          clear hwx
        case' neg =>
          have hib : (x.iso != 1) = true := by simp [hiso]
          go_upto_region 12 with (with_reducible refine wp_region_free (by kernel_rfl) (fun _ _ => ?_))
          obtain ⟨W10, hW10⟩ : ∃ W10, W10 = W9.drew := ⟨_, rfl⟩
          rw [← hW10]
          have hc10 : Chg (fun _ => False) W9 W10 := by rw [hW10]; exact (Chg.refl _ _).drew
          have hz10 : W9.heap.size ≤ W10.heap.size := hc10.size
          have hR10 := HR9.out.quiet hc10
          obtain ⟨F12, hsl12, _, _⟩ := hR10.app (u := (q.txn : Int))
          have hrow12 := Rows.of_sl (enc := intC) (size := 1) (fun _ => rfl) hsl12 (Nat.le_refl _)
          obtain ⟨V12, hV12⟩ : ∃ V12, V12 = (kget Lsi (q.txn : Int)).getD (.slice none 0 0) := ⟨_, rfl⟩
          rw [← hV12] at hrow12
          have lk12 : (Instr.lookup 154 (.map (some si)) (.int .i64 q.txn) false).run Tryz.prog W10 = .ok V12 W10 := by
            have := run_lookup_kmap kInt Tryz.underlying154 (zero_ints W10) hR10.sin.2.1 (q.txn : Int) false
            rw [hV12]
            exact this
          have hl10 : Led W10 B lp h := HL9.out.keep (fun j hj => hc10.block j (by omega) (fun f => f)) hz10
          have hlb10 := (hc10.block w.heap.size (by omega) (fun f => f)).trans HX.out.2.2.2.1
          have htb10 : W10.heap[tb]? = some (.cells #[.int .i64 q.txn] 3) := by
            rw [HTB.out] at *
            exact (hc10.block _ (by omega) (fun f => f)).trans HX.out.2.2.1
          have hcont := Lib.hid (containsI_ hrow12 (Nat.le_refl _) 80 #[.pointer (some ⟨w.heap.size, 0, none⟩), .pointer (some ⟨tb, 0, none⟩)] (fun u => ∃ u' : Nat, u = u' ∧ ClashP h q.txn u') (enters_of Tryz.func80 (by kernel_rfl) rfl)
            (fun u W' hu hW' => by
              obtain ⟨q', hq', rfl⟩ := sinceF_mem l p _ u hu
              obtain ⟨y, hy, _⟩ := com_iff.1 (W.cm q' hq')
              refine (clash1_ (hl10.below hW' hl10.le) ((hW'.block w.heap.size (by omega)).trans hlb10) q.txn q'.txn ((hW'.block tb (by omega)).trans htb10) x y HXX.out.1 hy).mono ?_
              rintro e w' ⟨h1, b, h2, h3⟩
              refine ⟨h1, b, h2, Lib.hid ⟨fun hb => ⟨q'.txn, rfl, h3.out.1 hb⟩, fun ⟨u', he, hc⟩ => h3.out.2 ?_⟩⟩
              obtain rfl : q'.txn = u' := by omega
              exact hc))
          have b10 := (World.cell?_of_block (a := ⟨w.heap.size, 0, none⟩) (hc10.block w.heap.size (by omega) (fun f => f))).trans b0
          have t10 := (World.cell?_of_block (a := ⟨tb, 0, none⟩) (hc10.block tb (by omega) (fun f => f))).trans t0
          have k1 : w.heap.size < W10.heap.size := by omega
          have k2 : tb < W10.heap.size := by omega
          obtain ⟨V12A, V12c, rfl, _, _⟩ := hrow12.shape
          have HR10 := Lib.hid hR10
          have HHL10 := Lib.hid hl10
          have HC10 := Lib.hid hc10
          have HIS := Lib.hid hiso
          have HZ10 := Lib.hid hW10
          clear hW10 hR10 hsl12 hrow12 hV12 hl10 hlb10 htb10 hc10 hiso
          rcases Classical.em (∃ u ∈ sinceF l p q.txn, ∃ u' : Nat, u = u' ∧ ClashP h q.txn u') with hP | hP
          · have HP := Lib.hid hP
            clear hP
            go_wp2_with (go_at_call 79; with_reducible refine hcont.out.mono ?_; rintro e w11 ⟨hB11, b, rfl, HBP⟩
                         obtain rfl : b = true := HBP.out.2 HP.out)
            go_ret
            have hBw : Below w.heap.size w w11 := (HX.out.2.2.2.2.trans (HC10.out.below (B := w.heap.size) (fun _ f => f.elim) (by omega))).trans (hB11.mono (by omega))
            refine ⟨hBw, 147, rfl, Lib.hid ⟨fun h => absurd h (by decide), fun hR => ?_⟩⟩
            obtain ⟨u, hu, u', rfl, hcl⟩ := HP.out
            exact absurd hcl ((hR p q x HX.out.1 HCM.out HXX.out.1 HIS.out).1 u' hu)
          have HP := Lib.hid hP
          clear hP
          go_upto_region 14 with (go_at_call 79; with_reducible refine hcont.out.mono ?_; rintro e w11 ⟨hB11, b, rfl, HBP⟩
                                  obtain rfl : b = false := by
                                    cases b
                                    · rfl
                                    · exact absurd (HBP.out.1 rfl) HP.out)
          have hc11 : Chg (fun _ => False) W10 w11 := ⟨hB11.tape, hB11.os, hB11.output, hB11.size, fun b hb _ => hB11.block b hb⟩
          have hz11 := hc11.size
          have hR11 := HR10.out.quiet hc11
          have lk14 : (Instr.lookup 153 (.map (some sn)) (.int .i64 q.txn) false).run Tryz.prog w11 = .ok (.map (some (sb q.txn))) w11 := by
            have := run_lookup_kmap kInt Tryz.underlying153 (zero_state w11) hR11.snm (q.txn : Int) false
            rw [HXX.out.2.2.1] at this
            exact this
          have hl11 : Led w11 B lp h := HHL10.out.below hB11 (by omega)
          have hS11 := (HXX.out.2.2.2.1.keep ((hc11.block (sb q.txn) (by omega) (fun f => f)).trans (HC10.out.block (sb q.txn) s2 (fun f => f))))
          have hap14 := Lib.hid (apply_ hl11 (by omega : B ≤ sb q.txn) hS11 q.txn x HXX.out.1 HXX.out.2.2.2.2 (by omega) 22 #[.map (some (sb q.txn))] #[] (fun i o => SameP (applyN x q.txn (nowAt h l (begAt l q.txn p)) i) o) (enters_of Tryz.func22 (by kernel_rfl) rfl)
            (fun i o sv W' hi _ hS hr hB => same_ hS (by have h1 := HXX.out.2.2.2.2; have h2 := (List.getElem?_eq_some_iff.1 hi).1; omega) hr hB))
          have b11 := (World.cell?_of_block (a := ⟨w.heap.size, 0, none⟩) (hc11.block w.heap.size (by omega) (fun f => f))).trans b10
          have t11 := (World.cell?_of_block (a := ⟨tb, 0, none⟩) (hc11.block tb (by omega) (fun f => f))).trans t10
          have k3 : w.heap.size < w11.heap.size := by omega
          have k4 : tb < w11.heap.size := by omega
          have HR11 := Lib.hid hR11
          have HC11 := Lib.hid hc11
          clear hR11 hl11 hS11 hc11 b10 t10 lk12
          rcases Classical.em (∀ i o, x.ops[i]? = some o → o.kind ≠ 2 → SameP (applyN x q.txn (nowAt h l (begAt l q.txn p)) i) o) with hall | hall
          rotate_left
          · have HALL := Lib.hid hall
            clear hall
            go_wp2_with (go_at_call 21; refine hap14.out.mono ?_; rintro e w12 ⟨hc12, hres⟩
                         obtain rfl : e = .returned (.bool false) := by
                           rcases hres with ⟨_, _, h2⟩ | ⟨h1, _⟩
                           · exact absurd h2 HALL.out
                           · exact h1)
            go_ret
            have hBw : Below w.heap.size w w12 := ((HX.out.2.2.2.2.trans (HC10.out.below (B := w.heap.size) (fun _ f => f.elim) (by omega))).trans (hB11.mono (by omega))).trans (hc12.below (fun j hj => by omega) (by omega))
            exact ⟨hBw, 146, rfl, Lib.hid ⟨fun h => absurd h (by decide), fun hR => absurd ((hR p q x HX.out.1 HCM.out HXX.out.1 HIS.out).2) HALL.out⟩⟩
          have HALL := Lib.hid hall
          clear hall
          have HSTEP : Hid (StepOK h l p) := Lib.hid (fun q' x' hq' _ hx' _ => by
            rw [HX.out.1] at hq'; cases hq'
            rw [HXX.out.1] at hx'; cases hx'
            exact ⟨fun u hu hcl => HP.out ⟨u, hu, u, rfl, hcl⟩, HALL.out⟩)
          go_upto_region 17 with (go_at_call 21; refine hap14.out.mono ?_; rintro e w12 ⟨hc12, hres⟩
                                  obtain rfl : e = .returned (.bool true) := by
                                    rcases hres with ⟨h1, _, _⟩ | ⟨_, i, o, h1, h2, h3⟩
                                    · exact h1
                                    · exact absurd (HALL.out i o h1 h2) h3)
          obtain ⟨wx, hwx⟩ : ∃ wx, wx = w12 := ⟨_, rfl⟩
          rw [← hwx] at hc12 ⊢
          have hcx : Chg (fun j => j = sb q.txn) W9 wx := ((HC10.out.trans HC11.out (fun _ _ f => f)).mono (G := fun j => j = sb q.txn) (fun _ _ f => f.elim)).trans hc12 (fun _ _ h => h)
          have hzx : W9.heap.size ≤ wx.heap.size := hcx.size
          have HRX : Hid (∃ ex, (ex = none ∨ ex = some (q.txn : Int)) ∧ RunI W0 wx nb sn si (nowAt h l p) (256 * p) (fun k => actB l p k = true) (fun k => nowAt h l (begAt l k p)) (sinceF l p) ex Ls Lsi sb Cs) := Lib.hid ⟨some q.txn, .inr rfl, HR11.out.use HXX.out.2.1 hc12⟩
          clear hwx hc12 b11 t11 lk14 hres
        all_goals (
          have hlx : Led wx B lp h := HL9.out.keep (fun j hj => hcx.block j (by omega) (by omega)) hzx
          have bx := (World.cell?_of_block (a := ⟨w.heap.size, 0, none⟩) (hcx.block w.heap.size (by omega) (by omega))).trans b0
          have tx := (World.cell?_of_block (a := ⟨tb, 0, none⟩) (hcx.block tb (by omega) (by omega))).trans t0
          obtain ⟨ex, hex, hRx⟩ := HRX.out
          have hap := Lib.hid (apply_ hlx (by omega : B ≤ nb) hRx.now q.txn x HXX.out.1 HXX.out.2.2.2.2 (by omega) 82 #[] #[] (fun _ _ => True) (enters_of Tryz.func82 (by kernel_rfl) rfl) (fun i o sv W _ _ _ _ _ => always_ sv o W))
          have HRX2 := Lib.hid hRx
          have j1 : w.heap.size < wx.heap.size := by omega
          have j2 : tb < wx.heap.size := by omega
          clear hlx hRx HRX b0 t0 m1 x0 x1 x2 x3 x4 x5 x6 x7 x8 q0
          go_upto_region 18 with (go_at_call 21; refine hap.out.mono ?_; rintro e w13 ⟨hc13, hres⟩
                                  obtain ⟨rfl, hS13⟩ : e = .returned (.bool true) ∧ StM w13 nb (applyN x q.txn (nowAt h l p) x.ops.length) (256 * p + x.ops.length) := by
                                    rcases hres with ⟨h1, h2, _⟩ | ⟨_, _, _, _, _, h3⟩
                                    · exact ⟨h1, h2⟩
                                    · exact absurd trivial h3
                                  clear hres)
          have R13 := HRX2.out.nowc (N' := 256 * (p + 1)) (by omega) hc13 (hS13.more (by have := HXX.out.2.2.2.2; omega))
          obtain ⟨w14, hrun14, hk14, hc14⟩ := run_delete_kmap kInt Tryz.underlying153 R13.snm (q.txn : Int) 0 #[153, 3] rfl
          have hdel : ∀ ty, (Builtin.delete_ #[153, 3] ty #[.map (some sn), .int .i64 q.txn]).run Tryz.prog w13 = .ok (.tuple #[]) w14 := fun ty => hrun14
          have hz13 := hc13.size
          have hz14 := hc14.size
          have R14 := R13.del hex hk14 hc14
          have t13 := (World.cell?_of_block (a := ⟨tb, 0, none⟩) (hc13.block tb (by omega) (by omega))).trans tx
          have t14 := (World.cell?_of_block (a := ⟨tb, 0, none⟩) (hc14.block tb (by omega) (by omega))).trans t13
          have j3 : tb < w13.heap.size := by omega
          have HR14 := Lib.hid R14
          have hkm14 := R14.snm
          have HC14 := Lib.hid (And.intro hc13 (And.intro hc14 hcx))
          clear R13 R14 hrun14 hk14 hc13 hc14 hcx tx bx hS13
          go_upto_region 19 with (fail)
          go_wp2_with (at_range; refine wpList_range_k _ _ _ _ rfl rfl Tryz.underlying153 _ rfl hkm14 ?_; intro o' hit0)
          go_frame
          have hsbl : ∀ k, actB l p k = true ∧ k ≠ (q.txn : Int) → sb k < w14.heap.size := fun k hk => by
            obtain ⟨v', hv'⟩ := kget_of_mem ((HR14.out.keys k).2 hk) HR14.out.snm.nodup
            exact (HR14.out.snp k v' hv').2.2.1
          have HSBL := Lib.hid hsbl
          have hz0w : W0.heap.size ≤ w14.heap.size := HR14.out.ord.2.2.2
          have hcol14 := Lib.hid HR14.out.col
          have hcsi : Cs si := HR14.out.sin.1
          have hnd14 : ((kdel Ls (q.txn : Int)).map (·.1)).Nodup := hkm14.nodup
          have HND := Lib.hid hnd14
          have HCSI := Lib.hid hcsi
          clear hsbl hnd14 hkm14 hcsi
          go_loopw [12] (fun _ wr2 => ∃ (rem Lsi2 : List (Int × Value)) (Cs2 : Nat → Prop), MIter kInt.enc wr2 w14.heap.size sn (kdel Ls (q.txn : Int)) rem ∧ Hid (RunI W0 wr2 nb sn si (applyN x q.txn (nowAt h l p) x.ops.length) (256 * (p + 1)) (fun k => actB l p k = true ∧ k ≠ (q.txn : Int)) (fun k => nowAt h l (begAt l k p)) (fun k => if k ∈ (kdel Ls (q.txn : Int)).map (·.1) ∧ k ∉ rem.map (·.1) then sinceF l p k ++ [(q.txn : Int)] else sinceF l p k) none (kdel Ls (q.txn : Int)) Lsi2 sb Cs2) ∧
            Hid (∀ j, Cs2 j → Cs j ∨ w14.heap.size < j) ∧ Hid (Chg Cs w14 wr2) ∧ w14.heap.size < wr2.heap.size) (fun _ wr2 => wr2.rangeLeft sn w14.heap.size)
          case' atStart =>
            refine ⟨kdel Ls (q.txn : Int), Lsi, Cs, hit0, Lib.hid ((HR14.out.quiet ((Chg.refl _ _).alloc _)).re (Nat.le_refl _) rfl (fun _ => Iff.rfl) (fun _ _ => rfl) (fun k => by rw [if_neg (fun h => h.2 h.1)])), Lib.hid (fun j hj => .inl hj), Lib.hid ((Chg.refl _ _).alloc _), by simp⟩
          case' round =>
            obtain ⟨rem, Lsi2, Cs2, hit, HRI2, HCS, HC2, hzz⟩ := hrel
            have HLEFT := Lib.hid hit.left
            have HSUB := Lib.hid hit.sub
            have HNR := Lib.hid hit.nodup
            go_wp2_with (at_next; refine wpList_next_k _ rfl rfl rfl hit ?_ ?_)
            · intro h0r
              subst h0r
              go_wp2
              obtain ⟨g1, g2, g3⟩ := HC14.out
              have hnow : nowAt h l (p + 1) = applyN x q.txn (nowAt h l p) x.ops.length := by simp only [nowAt, HX.out.1, HCM.out, HXX.out.1]; rfl
              have hCsw : ∀ j, Cs j → w.heap.size < j := fun j hj => by
                rcases hcol14.out j hj with h | h <;> omega
              have hBe : Below w.heap.size w wr := (((HX.out.2.2.2.2.trans (g3.below (fun j hj => by omega) (by omega))).trans (g1.below (fun j hj => by omega) (by omega))).trans (g2.below (fun j hj => by omega) (by omega))).trans (HC2.out.below (fun j hj => Nat.le_of_lt (hCsw j hj)) (by omega))
              refine ⟨⟨p + 1, _, _, _, _, by omega, by simp, Lib.hid (HRI2.out.re (Nat.le_refl _) hnow.symm (fun k => (actB_commit HX.out.1 HCM.out k).symm) (fun k _ => ?_) (fun k => ?_)), Lib.hid (fun p' hp' => ?_), hBe, Lib.hid ?_, by omega⟩, by simp [intOf]; omega⟩
              · have : begAt l k (p + 1) = begAt l k p := by simp only [begAt, HX.out.1]; rw [if_neg (fun h => by rw [HCM.out] at h; exact absurd h.2 (by decide))]
                rw [this]
              · simp only [sinceF, HX.out.1, HCM.out, if_true]
                have hk := HR14.out.keys k
                by_cases hka : actB l p k = true ∧ k ≠ (q.txn : Int)
                · rw [if_pos ⟨hk.2 hka, by simp⟩, if_pos hka]
                · rw [if_neg (fun h => hka (hk.1 h.1)), if_neg hka]
              · by_cases hpp : p' = p
                · subst hpp; exact HSTEP.out
                · exact HOK.out p' (by omega)
              · have h9 := hc9.block w.heap.size (by have := hB.size; omega) (fun f => f)
                have e1 := g3.block w.heap.size (by omega) (by omega)
                have e2 := g1.block w.heap.size (by omega) (by omega)
                have e3 := g2.block w.heap.size (by omega) (by omega)
                have e4 := HC2.out.block w.heap.size (by omega) (fun h => by have := hCsw _ h; omega)
                exact e4.trans (e3.trans (e2.trans (e1.trans (h9.trans HB2.out))))
            · intro pk pv hp2 w2 hit2 hc2 hz2 hen
              have hrC : ¬ Cs2 w14.heap.size := fun hh => by
                rcases HCS.out _ hh with h | h
                · have := hcol14.out _ h; omega
                · omega
              have R2 := HRI2.out.far hc2 (fun j hj => by subst hj; exact ⟨hz0w, hrC⟩) (fun k hk e => by have := HSBL.out k hk; omega)
              obtain ⟨F, hSl, hF, hstep⟩ := R2.app (u := pk)
              have hpkr : pk ∈ rem.map (·.1) := List.mem_map_of_mem (f := (·.1)) hp2
              have hpkK : pk ∈ (kdel Ls (q.txn : Int)).map (·.1) := List.mem_map_of_mem (f := (·.1)) (HSUB.out.subset hp2)
              simp only [if_neg (fun h : pk ∈ (kdel Ls (q.txn : Int)).map (·.1) ∧ pk ∉ rem.map (·.1) => h.2 hpkr)] at hSl
              have hsl := sinceF_len l p pk
              obtain ⟨sl, hsl'⟩ : ∃ sl, sl = sinceF l p pk := ⟨_, rfl⟩
              rw [← hsl'] at hSl hsl
              obtain ⟨V, hV⟩ : ∃ V, V = (kget Lsi2 pk).getD (.slice none 0 0) := ⟨_, rfl⟩
              rw [← hV] at hSl
              have hkm2 : KMap kInt.enc w2 si Lsi2 := R2.sin.2.1
              have lk22 : (Instr.lookup 154 (.map (some si)) (kInt.enc pk) false).run Tryz.prog w2 = .ok V w2 := by
                have := run_lookup_kmap kInt Tryz.underlying154 (zero_ints w2) hkm2 pk false
                rw [hV]
                exact this
              have hCsn : ∀ j, Cs2 j → W0.heap.size ≤ j ∨ j = si := fun j hj => by
                rcases HRI2.out.col j hj with h | h
                · exact .inr h
                · exact .inl h.1
              have htb2 : w2.cell? ⟨tb, 0, none⟩ = some (.int .i64 q.txn) := by
                refine (World.cell?_of_block (a := ⟨tb, 0, none⟩) (hc2.block tb (by omega) (by omega))).trans ((World.cell?_of_block (a := ⟨tb, 0, none⟩) (HC2.out.block tb (by omega) HTC.out)).trans t14)
              have htbF : ¬ F tb := fun hh => by
                rcases HCS.out _ (hF tb hh).1 with h | h
                · exact HTC.out h
                · omega
              have j9 : tb < w2.heap.size := by omega
              obtain ⟨VA, vc, rfl, hva, hvb⟩ := hSl.shape
              have HST := Lib.hid (And.intro hF hstep)
              have HSl := Lib.hid hSl
              have HSLE := Lib.hid hsl'
              have HPK := Lib.hid (And.intro hp2 (And.intro hpkr hpkK))
              have HHC2 := Lib.hid hc2
              have HVE := Lib.hid hV
              have HZ2 := Lib.hid hz2
              clear R2 hSl hF hstep hsl' hV hp2 hpkr hpkK hc2 hz2 t14
              go_wp2_with (
                refine wpList_append_sl _ rfl (.tmp 74) (.tmp 76) 34 rfl 3 ii zi 1 8 Tryz.underlying34 jj0 jj1 jj2 jj3 jj4 (by omega) _ _ _ _ rfl (HSl.out.chg ((Chg.refl (fun _ => False) _).alloc _) (fun _ _ f => f)) _ _ 1 1 [.int .i64 q.txn] rfl (reads_new _ _ 1 rfl _) (by intro u hu; simp at hu; subst hu; rfl) (by simp only [maxLen]; omega) (by omega) ?_
                intro v4 w4 F4 hs4 hc4 hf4 hnz4
                have HN4 := Lib.hid hnz4
                have hal4 : Chg F w2 w4 := (((Chg.refl (fun _ => False) w2).alloc _).mono (G := F) (fun _ _ f => f.elim)).trans hc4 (fun _ _ h => h)
                obtain ⟨w5, hrun5, hk5, hc5⟩ := run_store_kmap kInt Tryz.underlying154 (hkm2.chg hal4 (fun hh => (HST.out.1 _ hh).2 rfl)) pk v4
                have H45 := Lib.hid (And.intro hs4 (And.intro hf4 (And.intro hal4 (And.intro hk5 hc5))))
                clear hnz4 hs4 hf4 hal4 hk5 hc5)
              obtain ⟨hs4, hf4, hal4, hk5, hc5⟩ := H45.out
              have hc2 := HHC2.out
              have hz2 := HZ2.out
              have hz4 := hal4.size
              have hz5 := hc5.size
              have hF4 : ∀ j, F4 j → F j ∨ (w2.heap.size ≤ j ∧ j < w4.heap.size) := fun j hj => by
                rcases hf4 j hj with hh | ⟨hh, hh'⟩
                · exact .inl hh
                · rw [World.size_alloc] at hh
                  exact .inr ⟨by omega, hh'⟩
              have R5 := HST.out.2 w4 w5 v4 (sl ++ [(q.txn : Int)]) F4 (by rw [List.length_append, List.flatMap_append]; simpa [intC] using hs4) hF4 hal4 hk5 hc5
              have hFlo : ∀ j, F j → W0.heap.size ≤ j ∧ Cs2 j := fun j hj => by
                obtain ⟨k1, k2⟩ := HST.out.1 j hj
                rcases hCsn j k1 with hh | hh
                · exact ⟨hh, k1⟩
                · exact absurd hh k2
              have hit5 := (hit2.chg hal4 (fun hh => by have := hFlo _ hh; omega) (fun hh => hrC (hFlo _ hh).2)).chg hc5 (by omega) (by omega)
              refine ⟨⟨kdel rem pk, _, _, hit5, Lib.hid (R5.re (Nat.le_refl _) rfl (fun _ => Iff.rfl) (fun _ _ => rfl) (fun k => ?_)), Lib.hid (fun j hj => ?_), Lib.hid (((HC2.out.trans hc2 (fun j hj e => by omega)).trans hal4 (fun j hj hh => ?_)).trans hc5 (fun j hj e => by rw [e]; exact HCSI.out)), by omega⟩, ?_⟩
              · by_cases hk : k = pk
                · rw [if_pos hk, hk, if_pos ⟨HPK.out.2.2, fun hh => ((keys_kdel rem pk pk).1 hh).2 rfl⟩, HSLE.out]
                · rw [if_neg hk]
                  have hiff : k ∉ (kdel rem pk).map (·.1) ↔ k ∉ rem.map (·.1) := by rw [keys_kdel]; simp [hk]
                  by_cases hkr : k ∈ (kdel Ls (q.txn : Int)).map (·.1) ∧ k ∉ rem.map (·.1)
                  · rw [if_pos hkr, if_pos ⟨hkr.1, hiff.2 hkr.2⟩]
                  · rw [if_neg hkr, if_neg (fun hh => hkr ⟨hh.1, hiff.1 hh.2⟩)]
              · rcases hj with hh | ⟨hh, _⟩
                · exact HCS.out j hh
                · exact .inr (by omega)
              · rcases HCS.out j (hFlo j hh).2 with h' | h'
                · exact h'
                · omega
              · rw [hit5.left, HLEFT.out]
                have := kdel_len HNR.out HPK.out.1
                dsimp only at this
                omega)
    · obtain rfl : p = l.length := by omega
      go_wp2
      go_ret
      refine ⟨hB, 0, rfl, Lib.hid ⟨fun _ p' q x hq hc hx hi => ?_, fun _ => rfl⟩⟩
      exact HOK.out p' (List.getElem?_eq_some_iff.1 hq).1 q x hq hc hx hi
end Go.Proofs.YtooigfkjdemnlaaGreatDoor
