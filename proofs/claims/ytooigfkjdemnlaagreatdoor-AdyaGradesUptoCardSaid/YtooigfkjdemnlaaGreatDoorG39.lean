/- Own texts of this claim, joined in build order: F11, Sq1, Gt1, Gt2, J0. -/
import Derived.Test.YtooigfkjdemnlaaGreatDoorG38
import Derived.Test.YtooigfkjdemnlaaGreatDoorG36
import Derived.Test.YtooigfkjdemnlaaGreatDoorG32
set_option linter.all false
namespace Go.Proofs.YtooigfkjdemnlaaGreatDoor
set_option maxRecDepth 100000
open Go.RowKit Go.Lib Go.Sort Go.Shelf Xw

theorem ptsRaw_nodup (h : List HTx) : ∀ n, ((ptsRaw h n).map fun p => (p.txn, p.cm)).Nodup
  | 0 => by simp [ptsRaw]
  | n + 1 => by
    have ih := ptsRaw_nodup h n
    unfold ptsRaw
    split
    · rw [List.map_append]
      refine List.nodup_append.2 ⟨ih, by simp, fun a ha b hb => ?_⟩
      obtain ⟨p, hp, rfl⟩ := List.mem_map.1 ha
      have hlt := ((mem_ptsRaw n).1 hp).1
      simp only [List.map_cons, List.map_nil, List.mem_cons, List.not_mem_nil, or_false] at hb
      rcases hb with rfl | rfl
      · intro e; injection e with e1 e2; omega
      · intro e; injection e with e1 e2; omega
    · exact ih
theorem com_bgn {h : List HTx} (H : Fine h) {t : Nat} {x : HTx} (hx : h[t]? = some x) (hc : com h t = true) : x.bgn ≤ x.fin := by
  have hs := H.shaped t x hx
  unfold shaped at hs
  rw [hc] at hs
  simp only [Bool.not_true, Bool.false_or, Bool.and_eq_true] at hs
  have := hs.2.2
  unfold shaped3 at this
  simp only [Bool.and_eq_true, decide_eq_true_eq] at this
  exact this.1.1.1
theorem Moments.len {h : List HTx} {l : List Pt} (M : Moments h l) : l.length ≤ 2 * h.length := by
  rw [M.1.length_eq]; exact ptsRaw_len h _
theorem Moments.mem {h : List HTx} {l : List Pt} (M : Moments h l) {p : Pt} : p ∈ l ↔ p.txn < h.length ∧ com h p.txn = true ∧ p.pat = 0 := by
  rw [M.1.mem_iff, mem_ptsRaw]
theorem Moments.wf {h : List HTx} {l : List Pt} (H : Fine h) (M : Moments h l) : WfPts h l := by
  refine ⟨(M.1.map _).nodup_iff.2 (ptsRaw_nodup h _), fun p q hq hc => ?_, fun q hq => (M.mem.1 hq).2.1⟩
  obtain ⟨m1, m2, m3⟩ := M.mem.1 (List.mem_of_getElem? hq)
  obtain ⟨b, hb⟩ := List.mem_iff_getElem?.1 ((M.mem (p := ⟨q.txn, false, 0⟩)).2 ⟨m1, m2, rfl⟩)
  refine ⟨b, _, ?_, hb, rfl, rfl⟩
  rcases Nat.lt_trichotomy b p with h1 | h1 | h1
  · exact h1
  · exfalso
    subst h1
    rw [hq] at hb
    have := congrArg Pt.cm (Option.some.inj hb)
    rw [hc] at this
    cases this
  · exfalso
    obtain ⟨l1, e1⟩ := List.getElem?_eq_some_iff.1 hq
    obtain ⟨l2, e2⟩ := List.getElem?_eq_some_iff.1 hb
    have := List.pairwise_iff_getElem.1 M.2 p b l1 l2 h1
    rw [e1, e2] at this
    obtain ⟨x, hx, _⟩ := com_iff.1 m2
    have hbf := com_bgn H hx m2
    unfold ptLt rank1 rank2 at this
    simp only [hx, hc, decide_eq_false_iff_not] at this
    apply this
    by_cases he : x.bgn = x.fin
    · right; simp [he]
    · left; simp; omega
def EmbedR (w : World) (ob : Nat) (h : List HTx) (e : Ending) (w' : World) : Prop :=
  ∃ f, e = faultEnd (.tuple #[]) f ∧ Chg (fun j => j = ob) w w' ∧ ∃ A n c, w'.heap[ob]? = some (.cells #[.slice A n c] 44) ∧ ∃ l, Moments h l ∧ ((f = none ∧ n = l.length ∧ FitsN h l l.length ∧ RunOK h l) ∨ (∃ m, f = some (m, 0, 0) ∧ m ≠ 0 ∧ ¬ (FitsN h l l.length ∧ RunOK h l)))
set_option maxHeartbeats 4000000 in
theorem embed1_ {w : World} {lp ob : Nat} {h : List HTx} (hl : Led w w.heap.size lp h) (H : Fine h) (hob : w.heap[ob]? = some (.cells #[.slice none 0 0] 44)) :
    Calls Tryz.prog 34 #[.pointer (some ⟨lp, 0, none⟩), .pointer (some ⟨ob, 0, none⟩)] w (EmbedR w ob h) := by
  have hol := lt_of_heap hob
  have hmo := Lib.hid (moments_ hl H.n)
  have HL := Lib.hid hl
  have HOB := Lib.hid hob
  clear hl hob
  go_enter Tryz.func34, Tryz.ntmps34
  go_upto_region 1 with (go_at_call 35; with_reducible refine hmo.out.mono ?_; rintro e w1 ⟨hB1, v, l, F, rfl, HM, hs1, hF1⟩)
  have hz1 := hB1.size
  have hW := HM.out.wf H
  have hlen := HM.out.len
  have hn := H.n
  obtain ⟨A, c, rfl, hca, hcb⟩ := hs1.shape
  have hpl := Lib.hid (place_ (HL.out.below hB1 (Nat.le_refl _)) (fun p hp => (HM.out.mem.1 hp).1) (SamePts.refl l) hs1 (fun j hj => (hF1 j hj).1))
  have HW := Lib.hid hW
  clear hs1 hW
  rcases Classical.em (FitsN h l l.length) with hfit | hfit
  rotate_left
  · have HFT := Lib.hid hfit
    clear hfit
    go_wp2_with (go_at_call 36; refine hpl.out.mono ?_; rintro e w2 ⟨hc2, b, c2, rfl, HB, HSP, hs2⟩
                 obtain rfl : b = false := by
                   cases b
                   · rfl
                   · exact absurd (HB.out.1 rfl) HFT.out)
    have hc02 : Chg (fun j => j = ob) w w2 := ((Chg.of_below hB1).mono (G := fun j => j = ob) (fun j hj h => absurd h (by omega))).trans (hc2.mono (G := fun j => w.heap.size ≤ j) (fun j _ h => (hF1 j h).1)) (fun j hj h => absurd h (by omega))
    have ho2 : w2.heap[ob]? = some (.cells #[.slice none 0 0] 44) := (hc2.block ob (by omega) (fun h => by have := hF1 _ h; omega)).trans ((hB1.block ob hol).trans HOB.out)
    exact ⟨rfl, some (145, 0, 0), rfl, hc02, none, 0, 0, ho2, l, HM.out, .inr ⟨145, rfl, by decide, fun h => HFT.out h.1⟩⟩
  have HFT := Lib.hid hfit
  clear hfit
  go_upto_region 3 with (go_at_call 36; refine hpl.out.mono ?_; rintro e w2 ⟨hc2, b, c2, rfl, HB, HSP, hs2⟩
                         obtain rfl : b = true := HB.out.2 HFT.out)
  have hz2 := hc2.size
  have hc02 : Chg (fun j => j = ob) w w2 := ((Chg.of_below hB1).mono (G := fun j => j = ob) (fun j hj h => absurd h (by omega))).trans (hc2.mono (G := fun j => w.heap.size ≤ j) (fun j _ h => (hF1 j h).1)) (fun j hj h => absurd h (by omega))
  have ho2 : w2.heap[ob]? = some (.cells #[.slice none 0 0] 44) := (hc2.block ob (by omega) (fun h => by have := hF1 _ h; omega)).trans ((hB1.block ob hol).trans HOB.out)
  have hl2 : Led w2 w.heap.size lp h := (HL.out.below hB1 (Nat.le_refl _)).keep (fun j hj => hc2.block j (by omega) (fun h => by have := hF1 _ h; omega)) hz2
  have hrun := Lib.hid (run_ hl2 H HW.out HSP.out (Rows.of_sl (enc := ptC) (size := 3) (fun _ => rfl) hs2 (Nat.le_refl _)) (Nat.le_refl _) (by omega))
  have HC02 := Lib.hid hc02
  have HO2 := Lib.hid ho2
  clear hs2 hc02 ho2 hl2 hpl
  rcases Classical.em (RunOK h l) with hok | hok
  · have HOK := Lib.hid hok
    clear hok
    go_wp2_with (go_at_call 37; refine hrun.out.mono ?_; rintro e w3 ⟨hB3, n, rfl, HN⟩
                 obtain rfl : n = 0 := HN.out.2 HOK.out
                 have ho3 := (hB3.block ob (by omega)).trans HO2.out
                 have g0 := (cells_of (cs := [.slice none 0 0]) ho3).1 0
                 have g1 := (cells_of (cs := [.slice none 0 0]) ho3).2 0
                 have hi3 : ob < w3.heap.size := lt_of_heap ho3
                 have HO3 := Lib.hid ho3
                 clear ho3)
    go_end0
    have hset : Chg (fun j => j = ob) w3 (w3.setCell ⟨ob, 0, none⟩ (.slice A l.length c)) := (Chg.refl _ _).setCell _ _ (fun _ => rfl)
    refine ⟨none, rfl, (HC02.out.trans (Chg.of_below hB3) (fun j hj h => absurd h (by omega))).trans hset (fun _ _ h => h), A, l.length, c, by simpa using heap_setCell_same (i := 0) (v := .slice A l.length c) HO3.out, l, HM.out, .inl ⟨rfl, rfl, HFT.out, HOK.out⟩⟩
  · have HOK := Lib.hid hok
    clear hok
    obtain ⟨nn, hnn⟩ : ∃ nn : Bool, nn = true := ⟨_, rfl⟩
    go_upto_region 4 with (go_at_call 37; refine hrun.out.mono ?_; rintro e w3 ⟨hB3, n, rfl, HN⟩)
    have hn0 : n ≠ 0 := fun h => HOK.out (HN.out.1 h)
    have hnb : (n != 0) = true := by simp [hn0]
    have HN0 := Lib.hid hn0
    clear hn0
    go_wp2
    exact ⟨rfl, some (n, 0, 0), rfl, HC02.out.trans (Chg.of_below hB3) (fun j hj h => absurd h (by omega)), none, 0, 0, (hB3.block ob (by omega)).trans HO2.out, l, HM.out, .inr ⟨n, rfl, HN0.out, fun h => HOK.out h.2⟩⟩
def EmbedA (w : World) (h : List HTx) (e : Ending) (w' : World) : Prop :=
  Below w.heap.size w w' ∧ ∃ A k c n, e = .returned (.tuple #[.slice A k c, .int .i64 n]) ∧ ((histFault h ≠ none ∧ n = errOf (histFault h)) ∨ (histFault h = none ∧ ∃ l, Moments h l ∧ ((n = 0 ∧ k = l.length ∧ FitsN h l l.length ∧ RunOK h l) ∨ (n ≠ 0 ∧ ¬ (FitsN h l l.length ∧ RunOK h l)))))
set_option maxHeartbeats 4000000 in
theorem embed_ {w : World} {B : Nat} {h : List HTx} {tv : Value} (hh : HistV w B tv h) (hB : B ≤ w.heap.size) (hops : ∀ x ∈ h, x.ops.length ≤ 1048576) :
    Calls Tryz.prog 13 #[.agg #[tv]] w (EmbedA w h) := by
  obtain ⟨A, c, rfl, hn0, hm0⟩ := Rows.shape hh
  obtain ⟨W2, hW2⟩ : ∃ W2, W2 = (w.alloc (.cells #[.slice A h.length c] 28)).alloc (.cells #[.slice none 0 0] 44) := ⟨_, rfl⟩
  have hz2 : W2.heap.size = w.heap.size + 2 := by rw [hW2]; simp
  have hB2 : Below w.heap.size w W2 := by rw [hW2]; exact bel2 _ _ _
  have hob : W2.heap[w.heap.size + 1]? = some (.cells #[.slice none 0 0] 44) := by rw [hW2]; exact top_al _ _ (by simp)
  have hg := guarded_ (hh.keep (fun j hj => hB2.block j (by omega))) (show B ≤ W2.heap.size by omega) hops 34 #[.pointer (some ⟨w.heap.size + 1, 0, none⟩)] (enters_of Tryz.func34 (by kernel_rfl) rfl)
    (fun f w' => Below w.heap.size w w' ∧ ∃ A k c, w'.heap[w.heap.size + 1]? = some (.cells #[.slice A k c] 44) ∧ ((histFault h ≠ none ∧ f = histFault h) ∨ (histFault h = none ∧ ∃ l, Moments h l ∧ ((f = none ∧ k = l.length ∧ FitsN h l l.length ∧ RunOK h l) ∨ (∃ m, f = some (m, 0, 0) ∧ m ≠ 0 ∧ ¬ (FitsN h l l.length ∧ RunOK h l))))))
    (fun lp w1 hl hb hsz hf => by
      refine (embed1_ hl (fine_of hf) ((hb.block (w.heap.size + 1) (by omega)).trans hob)).mono ?_
      rintro e w2 ⟨f, rfl, h2, A', n', c', h1, l, hM, h3⟩
      refine ⟨f, rfl, ⟨?_, A', n', c', h1, .inr ⟨hf, l, hM, h3⟩⟩, h2.block _ hsz (by omega)⟩
      exact (hB2.trans (hb.mono (by omega))).trans (h2.below (fun j hj => by omega) (by have := hb.size; omega)))
    (fun f w2 w3 ⟨h1, A', k', c', h3, h4⟩ hc => ⟨h1.trans (hc.below (fun j hj => by omega) h1.size), A', k', c', (hc.block _ (lt_of_heap h3) (by omega)).trans h3, h4⟩)
    (fun f w3 hf hb => ⟨hB2.trans (hb.mono (by omega)), _, _, _, (hb.block _ (by omega)).trans hob, .inl ⟨by rw [hf]; simp, hf.symm⟩⟩)
  have HG := Lib.hid hg
  have HW2 := Lib.hid hW2
  clear hg hW2 hh
  have hmf : ∀ (fn : Fn) (first cap : Array Value) (w : World), (Instr.makeFunc fn first cap).run Tryz.prog w = .ok (.func fn first cap) w := fun _ _ _ _ => rfl
  go_enter Tryz.func13, Tryz.ntmps13
  go_wp2_with (first
    | (with_reducible refine wp_region_free (by kernel_rfl) (fun _ _ => ?_))
    | (go_at_call 18; rw [← HW2.out]; refine HG.out.mono ?_
       rintro e w1 ⟨f, rfl, hb1, A', k', c', hv, hrows⟩
       rw [faultRes_eq]
       have q0 := (heap_cell hv).1
       have hol := lt_of_heap hv
       have HV := Lib.hid (And.intro hb1 hrows)
       clear hv hrows
       obtain ⟨E, hE⟩ : ∃ E, E = errOf f := ⟨_, rfl⟩
       obtain ⟨T, hT⟩ : ∃ T, T = txnOf f := ⟨_, rfl⟩
       obtain ⟨O, hO⟩ : ∃ O, O = opOf f := ⟨_, rfl⟩
       rw [← hT, ← hO, ← hE]
       have HE := Lib.hid hE
       clear hT hO hE))
  refine bodyPost_ret (results_tmp2 rfl _ _ _) rfl ?_
  obtain ⟨h2, h4⟩ := HV.out
  refine ⟨(h2.alloc h2.size _).drew, A', k', c', E, rfl, ?_⟩
  rcases h4 with ⟨h5, h6⟩ | ⟨h5, l, hM, h6⟩
  · exact .inl ⟨h5, by rw [HE.out, h6]⟩
  · refine .inr ⟨h5, l, hM, ?_⟩
    rcases h6 with ⟨h7, h8⟩ | ⟨m, h7, h8, h9⟩
    · exact .inl ⟨by rw [HE.out, h7]; rfl, h8⟩
    · exact .inr ⟨by rw [HE.out, h7]; exact h8, h9⟩
end Go.Proofs.YtooigfkjdemnlaaGreatDoor

namespace Go.Proofs.YtooigfkjdemnlaaGreatDoor
instance : DecidableEq Pt := fun a b =>
  if h : a.txn = b.txn ∧ a.cm = b.cm ∧ a.pat = b.pat then .isTrue (by cases a; cases b; obtain ⟨h1, h2, h3⟩ := h; simp only at h1 h2 h3; rw [h1, h2, h3])
  else .isFalse (fun e => h (by subst e; exact ⟨rfl, rfl, rfl⟩))
def comsOf (h : List HTx) (n : Nat) : List Nat := (List.range n).filter (com h)
theorem mem_comsOf {h : List HTx} {t : Nat} : t ∈ comsOf h h.length ↔ com h t = true := by
  unfold comsOf
  rw [List.mem_filter, List.mem_range]
  exact ⟨fun h => h.2, fun h => ⟨com_lt h, h⟩⟩
theorem comsOf_succ (h : List HTx) (n : Nat) : comsOf h (n + 1) = if com h n = true then comsOf h n ++ [n] else comsOf h n := by
  unfold comsOf
  rw [List.range_succ, List.filter_append]
  by_cases hc : com h n = true
  · rw [if_pos hc]; simp [hc]
  · rw [if_neg hc]; simp [hc]
theorem ptsRaw_count (h : List HTx) : ∀ n, (ptsRaw h n).length = 2 * (comsOf h n).length
  | 0 => rfl
  | n + 1 => by
    have ih := ptsRaw_count h n
    rw [comsOf_succ]
    unfold ptsRaw
    by_cases hc : com h n = true
    · rw [if_pos hc, if_pos hc]; simp; omega
    · rw [if_neg hc, if_neg hc]; exact ih
def leftP (h : List HTx) (P : List Pt) (t : Nat) : Nat := if com h t = true then (if (⟨t, false, 0⟩ : Pt) ∈ P then (if (⟨t, true, 0⟩ : Pt) ∈ P then 0 else 1) else 2) else 0
structure Part (h : List HTx) (P : List Pt) : Prop where
  wf : WfPts h P
  zero : ∀ p ∈ P, p.pat = 0
section
variable {h : List HTx} {P : List Pt}
theorem Pt.mk_of {p : Pt} (h0 : p.pat = 0) : p = ⟨p.txn, p.cm, 0⟩ := by cases p; simp only at h0; rw [h0]
theorem Part.nil : Part h [] := ⟨⟨by simp, fun p q hq => by simp at hq, fun q hq => by simp at hq⟩, fun p hp => by simp at hp⟩
theorem Part.begun (K : Part h P) {t : Nat} (ht : (⟨t, true, 0⟩ : Pt) ∈ P) : (⟨t, false, 0⟩ : Pt) ∈ P := by
  obtain ⟨p, hp⟩ := List.mem_iff_getElem?.1 ht
  obtain ⟨b, r, h1, h2, h3, h4⟩ := K.wf.beg p _ hp rfl
  have hr := List.mem_of_getElem? h2
  have := Pt.mk_of (K.zero r hr)
  rw [h3, h4] at this
  rw [← this]; exact hr
theorem Part.add (K : Part h P) {t : Nat} (hl : leftP h P t ≠ 0) : Part h (P ++ [⟨t, decide (leftP h P t - 1 = 0), 0⟩]) := by
  unfold leftP at hl ⊢
  by_cases hc : com h t = true
  · rw [if_pos hc] at hl ⊢
    by_cases hb : (⟨t, false, 0⟩ : Pt) ∈ P
    · rw [if_pos hb] at hl ⊢
      by_cases hm : (⟨t, true, 0⟩ : Pt) ∈ P
      · rw [if_pos hm] at hl; exact absurd rfl hl
      · rw [if_neg hm]
        simp only [Nat.sub_self, decide_true]
        refine ⟨⟨?_, fun p q hq hqc => ?_, fun q hq => ?_⟩, fun p hp => ?_⟩
        · rw [List.map_append, List.nodup_append]
          refine ⟨K.wf.nd, by simp, fun a ha b hb2 => ?_⟩
          simp at hb2
          subst hb2
          obtain ⟨r, hr, he⟩ := List.mem_map.1 ha
          intro e
          have h1 := Pt.mk_of (K.zero r hr)
          rw [← he] at e
          injection e with e1 e2
          rw [e1, e2] at h1
          rw [h1] at hr
          exact hm hr
        · by_cases hp : p < P.length
          · rw [List.getElem?_append_left hp] at hq
            obtain ⟨b, r, h1, h2, h3, h4⟩ := K.wf.beg p q hq hqc
            exact ⟨b, r, h1, by rw [List.getElem?_append_left (by omega)]; exact h2, h3, h4⟩
          · have hpl := (List.getElem?_eq_some_iff.1 hq).1
            simp at hpl
            rw [List.getElem?_append_right (by omega), show p - P.length = 0 by omega] at hq
            cases hq
            obtain ⟨b, hb'⟩ := List.mem_iff_getElem?.1 hb
            have hbl := (List.getElem?_eq_some_iff.1 hb').1
            exact ⟨b, ⟨t, false, 0⟩, by omega, by rw [List.getElem?_append_left hbl]; exact hb', rfl, rfl⟩
        · rcases List.mem_append.1 hq with h1 | h1
          · exact K.wf.cm q h1
          · simp at h1; subst h1; exact hc
        · rcases List.mem_append.1 hp with h1 | h1
          · exact K.zero p h1
          · simp at h1; subst h1; rfl
    · rw [if_neg hb]
      have hm : (⟨t, true, 0⟩ : Pt) ∉ P := fun h => hb (K.begun h)
      simp only [show ((2 : Nat) - 1 = 0) = False by simp, decide_false]
      refine ⟨⟨?_, fun p q hq hqc => ?_, fun q hq => ?_⟩, fun p hp => ?_⟩
      · rw [List.map_append, List.nodup_append]
        refine ⟨K.wf.nd, by simp, fun a ha b hb2 => ?_⟩
        simp at hb2
        subst hb2
        obtain ⟨r, hr, he⟩ := List.mem_map.1 ha
        intro e
        have h1 := Pt.mk_of (K.zero r hr)
        rw [← he] at e
        injection e with e1 e2
        rw [e1, e2] at h1
        rw [h1] at hr
        exact hb hr
      · by_cases hp : p < P.length
        · rw [List.getElem?_append_left hp] at hq
          obtain ⟨b, r, h1, h2, h3, h4⟩ := K.wf.beg p q hq hqc
          exact ⟨b, r, h1, by rw [List.getElem?_append_left (by omega)]; exact h2, h3, h4⟩
        · have hpl := (List.getElem?_eq_some_iff.1 hq).1
          simp at hpl
          rw [List.getElem?_append_right (by omega), show p - P.length = 0 by omega] at hq
          cases hq
          cases hqc
      · rcases List.mem_append.1 hq with h1 | h1
        · exact K.wf.cm q h1
        · simp at h1; subst h1; exact hc
      · rcases List.mem_append.1 hp with h1 | h1
        · exact K.zero p h1
        · simp at h1; subst h1; rfl
  · rw [if_neg hc] at hl; exact absurd rfl hl
theorem Part.left (K : Part h P) {t : Nat} (hl : leftP h P t ≠ 0) (u : Nat) : leftP h (P ++ [⟨t, decide (leftP h P t - 1 = 0), 0⟩]) u = if u = t then leftP h P t - 1 else leftP h P u := by
  by_cases hu : u = t
  · subst hu
    rw [if_pos rfl]
    unfold leftP at hl ⊢
    by_cases hc : com h u = true
    · rw [if_pos hc] at hl ⊢
      by_cases hb : (⟨u, false, 0⟩ : Pt) ∈ P
      · rw [if_pos hb] at hl ⊢
        by_cases hm : (⟨u, true, 0⟩ : Pt) ∈ P
        · rw [if_pos hm] at hl; exact absurd rfl hl
        · rw [if_neg hm]
          simp [hc, hb]
      · rw [if_neg hb]
        have hm : (⟨u, true, 0⟩ : Pt) ∉ P := fun h => hb (K.begun h)
        simp [hc, hb, hm]
    · rw [if_neg hc] at hl; exact absurd rfl hl
  · rw [if_neg hu]
    have e : ∀ c : Bool, ((⟨u, c, 0⟩ : Pt) ∈ P ++ [⟨t, decide (leftP h P t - 1 = 0), 0⟩]) ↔ (⟨u, c, 0⟩ : Pt) ∈ P := fun c => by simp [hu]
    generalize (⟨t, decide (leftP h P t - 1 = 0), 0⟩ : Pt) = q at e ⊢
    unfold leftP
    simp only [e]
theorem next_of {L : List Pt} (KL : Part h L) (hp : P <+: L) (hlt : P.length < L.length) : ∃ t, com h t = true ∧ leftP h P t ≠ 0 ∧ P ++ [⟨t, decide (leftP h P t - 1 = 0), 0⟩] <+: L := by
  obtain ⟨q, hq⟩ : ∃ q, L[P.length]? = some q := ⟨_, List.getElem?_eq_getElem hlt⟩
  have hqm := List.mem_of_getElem? hq
  have hc := KL.wf.cm q hqm
  have hq0 := Pt.mk_of (KL.zero q hqm)
  obtain ⟨S, hS⟩ := hp
  have hPS : ∀ i, i < P.length → L[i]? = P[i]? := fun i hi => by rw [← hS, List.getElem?_append_left hi]
  have hin : ∀ r : Pt, r ∈ P ↔ ∃ i, i < P.length ∧ L[i]? = some r := fun r => by
    constructor
    · intro hr
      obtain ⟨i, hi⟩ := List.mem_iff_getElem?.1 hr
      have := (List.getElem?_eq_some_iff.1 hi).1
      exact ⟨i, this, by rw [hPS i this]; exact hi⟩
    · rintro ⟨i, hi, hr⟩
      rw [hPS i hi] at hr
      exact List.mem_of_getElem? hr
  have hnot : ∀ r : Pt, r.txn = q.txn → r.cm = q.cm → r ∉ P := fun r h1 h2 hr => by
    obtain ⟨i, hi, hi2⟩ := (hin r).1 hr
    have := KL.wf.inj hi2 hq h1 h2
    omega
  have hpre : P ++ [q] <+: L := by
    rw [List.prefix_iff_eq_take]
    have h1 : P = L.take P.length := by rw [← hS]; simp
    rw [List.length_append, List.length_singleton, List.take_add_one, hq, ← h1]
    rfl
  refine ⟨q.txn, hc, ?_⟩
  cases hcm : q.cm with
  | false =>
    have hb : (⟨q.txn, false, 0⟩ : Pt) ∉ P := hnot _ rfl hcm.symm
    have hl : leftP h P q.txn = 2 := by unfold leftP; rw [if_pos hc, if_neg hb]
    rw [hl]
    refine ⟨by omega, ?_⟩
    rw [hcm] at hq0
    have : (⟨q.txn, decide (2 - 1 = 0), 0⟩ : Pt) = q := by rw [hq0]; rfl
    rw [this]; exact hpre
  | true =>
    have hm : (⟨q.txn, true, 0⟩ : Pt) ∉ P := hnot _ rfl hcm.symm
    have hb : (⟨q.txn, false, 0⟩ : Pt) ∈ P := by
      obtain ⟨b, r, h1, h2, h3, h4⟩ := KL.wf.beg _ q hq hcm
      have hr := Pt.mk_of (KL.zero r (List.mem_of_getElem? h2))
      rw [h3, h4] at hr
      rw [← hr]
      exact (hin r).2 ⟨b, h1, h2⟩
    have hl : leftP h P q.txn = 1 := by unfold leftP; rw [if_pos hc, if_pos hb, if_neg hm]
    rw [hl]
    refine ⟨by omega, ?_⟩
    rw [hcm] at hq0
    have : (⟨q.txn, decide (1 - 1 = 0), 0⟩ : Pt) = q := by rw [hq0]; rfl
    rw [this]; exact hpre
theorem moments_part (H : Fine h) {L : List Pt} (M : Moments h L) : Part h L := ⟨M.wf H, fun p hp => (M.mem.1 hp).2.2⟩
theorem moments_len {L : List Pt} (M : Moments h L) : L.length = 2 * (comsOf h h.length).length := by rw [M.1.length_eq, ptsRaw_count]
theorem fits_prefix {L : List Pt} (hp : P <+: L) (hf : FitsN h L L.length) : FitsN h P P.length := by
  obtain ⟨S, hS⟩ := hp
  have hnow : ∀ n, n ≤ P.length → nowP h L n = nowP h P n := by
    intro n
    induction n with
    | zero => intro _; rfl
    | succ n ih =>
      intro hn
      simp only [nowP]
      rw [← hS, List.getElem?_append_left (by omega), hS, ih (by omega)]
  intro i p hi hpi
  have hL : L[i]? = some p := by rw [← hS, List.getElem?_append_left hi]; exact hpi
  have := hf i p (List.getElem?_eq_some_iff.1 hL).1 hL
  rw [hnow (i + 1) (by omega)] at this
  exact this
end
end Go.Proofs.YtooigfkjdemnlaaGreatDoor

namespace Go.Proofs.YtooigfkjdemnlaaGreatDoor
section
variable {h : List HTx} {l : List Pt}
theorem pt_before (M : Moments h l) {a b : Nat} {p q : Pt} (ha : l[a]? = some p) (hb : l[b]? = some q) (hlt : ptLt h p q = true) : a < b := by
  refine Classical.byContradiction fun hn => ?_
  rcases Nat.lt_or_ge b a with h1 | h1
  · have := List.pairwise_iff_getElem.1 M.2 b a (List.getElem?_eq_some_iff.1 hb).1 (List.getElem?_eq_some_iff.1 ha).1 h1
    rw [(List.getElem?_eq_some_iff.1 hb).2, (List.getElem?_eq_some_iff.1 ha).2, hlt] at this
    cases this
  · have : a = b := by omega
    subst this
    rw [ha] at hb
    cases hb
    unfold ptLt at hlt
    rw [decide_eq_true_iff] at hlt
    omega
theorem begin_at (M : Moments h l) {t : Nat} (ht : com h t = true) : ∃ b : Nat, l[b]? = some (⟨t, false, 0⟩ : Pt) := List.mem_iff_getElem?.1 ((M.mem (p := ⟨t, false, 0⟩)).2 ⟨com_lt ht, ht, rfl⟩)
theorem commit_at (M : Moments h l) {t : Nat} (ht : com h t = true) : ∃ b : Nat, l[b]? = some (⟨t, true, 0⟩ : Pt) := List.mem_iff_getElem?.1 ((M.mem (p := ⟨t, true, 0⟩)).2 ⟨com_lt ht, ht, rfl⟩)
theorem commit_begin (H : Fine h) (M : Moments h l) {u t a b : Nat} {x y : HTx} (hx : h[u]? = some x) (hy : h[t]? = some y) (hfx : x.fate = 1) (hfy : y.fate = 1) (hne : u ≠ t) (ha : l[a]? = some ⟨u, true, 0⟩) (hb : l[b]? = some ⟨t, false, 0⟩) : a < b ↔ x.fin ≤ y.bgn := by
  have hends : x.fin ≠ y.fin := fun e => hne (ends_inj H hy hx hfy hfx e)
  constructor
  · intro hab
    refine Classical.byContradiction fun hn => ?_
    have := pt_before M hb ha (by
      unfold ptLt rank1
      rw [decide_eq_true_iff]
      simp only [hx, hy]
      left
      simp
      omega)
    omega
  · intro hle
    refine pt_before M ha hb ?_
    unfold ptLt rank1 rank2
    rw [decide_eq_true_iff]
    simp only [hx, hy]
    by_cases he : x.fin = y.bgn
    · right
      refine ⟨by simpa using he, .inl ?_⟩
      have hb2 : y.bgn ≠ y.fin := fun e => hends (he.trans e)
      simp [hb2]
    · left
      simp
      omega
theorem commit_commit (M : Moments h l) {u t a b : Nat} {x y : HTx} (hx : h[u]? = some x) (hy : h[t]? = some y) (ha : l[a]? = some ⟨u, true, 0⟩) (hb : l[b]? = some ⟨t, true, 0⟩) (hlt : x.fin < y.fin) : a < b := by
  refine pt_before M ha hb ?_
  unfold ptLt rank1
  rw [decide_eq_true_iff]
  simp only [hx, hy]
  left
  simpa using hlt
theorem nowAt_last (hl : ∀ q ∈ l, ∃ x, h[q.txn]? = some x) (k : ByteArray) : ∀ p, p ≤ l.length →
    (nowAt h l p k = none ∧ ∀ a q x, a < p → l[a]? = some q → q.cm = true → h[q.txn]? = some x → writes x k = []) ∨
    ∃ a q x w, a < p ∧ l[a]? = some q ∧ q.cm = true ∧ h[q.txn]? = some x ∧ (writes x k).getLast? = some w ∧ (∀ a' q' x', a < a' → a' < p → l[a']? = some q' → q'.cm = true → h[q'.txn]? = some x' → writes x' k = []) ∧ nowAt h l p k = if w.dead then none else some ⟨k, q.txn, (writes x k).length⟩
  | 0, _ => .inl ⟨rfl, fun a _ _ ha => absurd ha (by omega)⟩
  | p + 1, hp => by
    obtain ⟨q, hq⟩ : ∃ q, l[p]? = some q := ⟨_, List.getElem?_eq_getElem (by omega)⟩
    obtain ⟨x, hx⟩ := hl q (List.mem_of_getElem? hq)
    have ih := nowAt_last hl k p (by omega)
    cases hc : q.cm with
    | false =>
      have hs : nowAt h l (p + 1) k = nowAt h l p k := by simp only [nowAt, hq, hc]; rfl
      rw [hs]
      have hno : ∀ q', l[p]? = some q' → q'.cm = true → False := fun q' h1 h2 => by rw [hq] at h1; cases h1; rw [hc] at h2; cases h2
      rcases ih with ⟨h1, h2⟩ | ⟨a, q1, x1, w, h1, h2, h3, h4, h5, h6, h7⟩
      · refine .inl ⟨h1, fun a q' x' ha h3 h4 h5 => ?_⟩
        by_cases e : a = p
        · subst e; exact (hno q' h3 h4).elim
        · exact h2 a q' x' (by omega) h3 h4 h5
      · refine .inr ⟨a, q1, x1, w, by omega, h2, h3, h4, h5, fun a' q' x' g1 g2 g3 g4 g5 => ?_, h7⟩
        by_cases e : a' = p
        · subst e; exact (hno q' g3 g4).elim
        · exact h6 a' q' x' g1 (by omega) g3 g4 g5
    | true =>
      have hs : nowAt h l (p + 1) k = applyN x q.txn (nowAt h l p) x.ops.length k := by simp only [nowAt, hq, hc, hx]; rfl
      rw [hs, applyN_all]
      cases hw : (writes x k).getLast? with
      | some w => exact .inr ⟨p, q, x, w, by omega, hq, hc, hx, hw, fun a' _ _ h1 h2 => by omega, rfl⟩
      | none =>
        have hw0 : writes x k = [] := List.getLast?_eq_none_iff.1 hw
        have hq' : ∀ q' x', l[p]? = some q' → h[q'.txn]? = some x' → writes x' k = [] := fun q' x' h1 h2 => by
          rw [hq] at h1; cases h1
          rw [hx] at h2; cases h2
          exact hw0
        rcases ih with ⟨h1, h2⟩ | ⟨a, q1, x1, w, h1, h2, h3, h4, h5, h6, h7⟩
        · refine .inl ⟨h1, fun a q' x' ha h3 h4 h5 => ?_⟩
          by_cases e : a = p
          · subst e; exact hq' q' x' h3 h5
          · exact h2 a q' x' (by omega) h3 h4 h5
        · refine .inr ⟨a, q1, x1, w, by omega, h2, h3, h4, h5, fun a' q' x' g1 g2 g3 g4 g5 => ?_, h7⟩
          by_cases e : a' = p
          · subst e; exact hq' q' x' g3 g5
          · exact h6 a' q' x' g1 (by omega) g3 g4 g5
theorem begAt_eq (W : WfPts h l) {t b : Nat} {q : Pt} (hb : l[b]? = some q) (hq : q.txn = t) (hc : q.cm = false) : ∀ p, b < p → p ≤ l.length → begAt l (t : Int) p = b
  | 0, h1, _ => by omega
  | p + 1, h1, h2 => by
    obtain ⟨r, hr⟩ : ∃ r, l[p]? = some r := ⟨_, List.getElem?_eq_getElem (by omega)⟩
    simp only [begAt, hr]
    by_cases e : (r.txn : Int) = t ∧ r.cm = false
    · rw [if_pos e]
      exact W.inj hr hb (by omega) (by rw [e.2, hc])
    · rw [if_neg e]
      by_cases hbp : b = p
      · subst hbp
        rw [hb] at hr; cases hr
        exact absurd ⟨by omega, hc⟩ e
      · exact begAt_eq W hb hq hc p (by omega) (by omega)
theorem sinceF_in (W : WfPts h l) {t b a : Nat} {q r : Pt} (hb : l[b]? = some q) (hq : q.txn = t) (hc : q.cm = false) (ha : l[a]? = some r) (hrc : r.cm = true) (hne : r.txn ≠ t) (hab : b < a) : ∀ p, a < p → p ≤ l.length → (∀ c s, c < p → l[c]? = some s → s.txn = t → s.cm = false) → (r.txn : Int) ∈ sinceF l p (t : Int)
  | 0, h1, _, _ => by omega
  | p + 1, h1, h2, h3 => by
    obtain ⟨s, hs⟩ : ∃ s, l[p]? = some s := ⟨_, List.getElem?_eq_getElem (by omega)⟩
    simp only [sinceF, hs]
    by_cases hap : a = p
    · subst hap
      rw [ha] at hs; cases hs
      rw [if_pos hrc]
      have hact : actB l a (t : Int) = true := by
        unfold actB
        rw [Bool.and_eq_true, Bool.not_eq_true']
        refine ⟨begB_iff.2 ⟨b, q, hab, hb, by omega, hc⟩, ?_⟩
        cases hcm : cmB l a (t : Int) with
        | false => rfl
        | true =>
          obtain ⟨c, s, e1, e2, e3, e4⟩ := cmB_iff.1 hcm
          have := h3 c s (by omega) e2 (by omega)
          rw [this] at e4; cases e4
      rw [if_pos ⟨hact, by omega⟩]
      exact List.mem_append_right _ (by simp)
    · have ih := sinceF_in W hb hq hc ha hrc hne hab p (by omega) (by omega) (fun c s hc1 => h3 c s (by omega))
      split
      · split
        · exact List.mem_append_left _ ih
        · exact ih
      · split
        · rename_i e1 e2
          exfalso
          have hsc : s.cm = false := by simpa using e1
          have := W.inj hs hb (by omega) (by rw [hsc, hc])
          omega
        · exact ih
end
end Go.Proofs.YtooigfkjdemnlaaGreatDoor

namespace Go.Proofs.YtooigfkjdemnlaaGreatDoor
def SnapC (h : List HTx) : Prop := ∀ (t : Nat) (x : HTx), h[t]? = some x → com h t = true → ∀ o ∈ x.ops, x.iso ≠ 1 ∧ (o.kind = 3 → o.at_ = x.bgn)
section
variable {h : List HTx} {l : List Pt}
theorem com_fate {t : Nat} {x : HTx} (hx : h[t]? = some x) (hc : com h t = true) : x.fate = 1 := by
  obtain ⟨y, hy, hf⟩ := com_iff.1 hc
  rw [hx] at hy; cases hy
  exact hf
theorem bgn_fin (H : Fine h) {t : Nat} {x : HTx} (hx : h[t]? = some x) (hc : com h t = true) : x.bgn ≤ x.fin := by
  have := H.shaped t x hx
  unfold shaped shaped3 at this
  rw [hc] at this
  simp only [Bool.and_eq_true, Bool.not_true, Bool.false_or, decide_eq_true_eq] at this
  exact this.2.2.1.1.1
structure Snap (h : List HTx) (t : Nat) (x : HTx) (s : KSt) : Prop where
  told : ∀ (i : Nat) (o : HOpr), x.ops[i]? = some o → o.kind ≠ 2 → SameP (applyN x t s i) o
  some_ : ∀ k v, s k = some v → ∃ (u : Nat) (y : HTx) (w : Wrote), u ≠ t ∧ h[u]? = some y ∧ com h u = true ∧ y.fin ≤ x.bgn ∧ (writes y k).getLast? = some w ∧ w.dead = false ∧ v = ⟨k, u, (writes y k).length⟩ ∧ ∀ (u' : Nat) (y' : HTx), u' ≠ t → h[u']? = some y' → com h u' = true → y'.fin ≤ x.bgn → writes y' k ≠ [] → y'.fin ≤ y.fin
  apart : ∀ (u : Nat) (y : HTx) (k : ByteArray), u ≠ t → h[u]? = some y → com h u = true → x.bgn < y.fin → y.fin < x.fin → writes x k ≠ [] → writes y k ≠ [] → False
theorem snap_of (H : Fine h) (M : Moments h l) (R : RunOK h l) {t : Nat} {x : HTx} (hx : h[t]? = some x) (hc : com h t = true) (hiso : x.iso ≠ 1) : ∃ s, Snap h t x s := by
  have W := M.wf H
  obtain ⟨b, hb⟩ := begin_at M hc
  obtain ⟨p, hp⟩ := commit_at M hc
  have hfx := com_fate hx hc
  have hpl := (List.getElem?_eq_some_iff.1 hp).1
  have hbp : b < p := by
    obtain ⟨b', r, h1, h2, h3, h4⟩ := W.beg p _ hp rfl
    have := W.inj h2 hb h3 h4
    omega
  have hR := R p ⟨t, true, 0⟩ x hp rfl hx hiso
  have hbeg : begAt l (t : Int) p = b := begAt_eq W hb rfl rfl p hbp (by omega)
  simp only [hbeg] at hR
  have hlx : ∀ q ∈ l, ∃ x, h[q.txn]? = some x := fun q hq => by
    obtain ⟨y, hy, _⟩ := com_iff.1 (W.cm q hq)
    exact ⟨y, hy⟩
  refine ⟨nowAt h l b, hR.2, fun k v hv => ?_, fun u y k hne hy hcu h1 h2 hwx hwy => ?_⟩
  · rcases nowAt_last hlx k b (by omega) with ⟨h1, _⟩ | ⟨a, q, y, w, h1, h2, h3, h4, h5, h6, h7⟩
    · rw [h1] at hv; cases hv
    · rw [h7] at hv
      cases hd : w.dead with
      | true => rw [hd] at hv; simp at hv
      | false =>
        rw [hd] at hv
        simp at hv
        have hcq := W.cm q (List.mem_of_getElem? h2)
        have hqe : q = ⟨q.txn, true, 0⟩ := by
          have := (M.mem.1 (List.mem_of_getElem? h2)).2.2
          cases q
          simp only at h3 this
          rw [h3, this]
        have hqt : q.txn ≠ t := fun e => by
          have : a = p := W.inj h2 hp e (by rw [h3])
          omega
        have hfy := com_fate h4 hcq
        have ha : l[a]? = some ⟨q.txn, true, 0⟩ := by rw [← hqe]; exact h2
        refine ⟨q.txn, y, w, hqt, h4, hcq, (commit_begin H M h4 hx hfy hfx hqt ha hb).1 h1, h5, hd, hv.symm, fun u' y' hne' hy' hc' hle' hw' => ?_⟩
        obtain ⟨a', ha'⟩ := commit_at M hc'
        have hfy' := com_fate hy' hc'
        have hab' := (commit_begin H M hy' hx hfy' hfx hne' ha' hb).2 hle'
        refine Classical.byContradiction fun hn => ?_
        have := commit_commit M h4 hy' ha ha' (by omega)
        exact hw' (h6 a' _ y' this hab' ha' rfl hy')
  · obtain ⟨a, ha⟩ := commit_at M hcu
    have hfy := com_fate hy hcu
    have hab : b < a := by
      refine Classical.byContradiction fun hn => ?_
      have : a ≠ b := fun e => by subst e; rw [ha] at hb; cases hb
      have := (commit_begin H M hy hx hfy hfx hne ha hb).1 (by omega)
      omega
    have hap := commit_commit M hy hx ha hp h2
    have hin := sinceF_in W hb rfl rfl ha rfl hne hab p hap (by omega) (fun c s hcp hs hst => by
      cases hsc : s.cm with
      | false => rfl
      | true =>
        have := W.inj hs hp hst hsc
        omega)
    exact hR.1 u hin ⟨x, y, k, hx, hy, hwx, hwy⟩
theorem Snap.seen (H : Fine h) {t : Nat} {x : HTx} {s : KSt} (S : Snap h t x s) (hx : h[t]? = some x) {i : Nat} {o : HOpr} (ho : x.ops[i]? = some o) {v : HVer} (hv : v ∈ seenOf o) : (s v.key = some v ∧ aheadL x v.key i = []) ∨ v.frm = t := by
  have hi : i ≤ x.ops.length := by have := (List.getElem?_eq_some_iff.1 ho).1; omega
  have key : ∀ k, applyN x t s i k = some v → (s v.key = some v ∧ aheadL x v.key i = []) ∨ v.frm = t := by
    intro k hk
    rw [applyN_spec x t s k i hi] at hk
    cases hw : (wrUpto x i k).getLast? with
    | some w =>
      rw [hw] at hk
      simp only at hk
      cases hd : w.dead with
      | true => rw [hd] at hk; simp at hk
      | false =>
        rw [hd] at hk
        simp at hk
        subst hk
        exact .inr rfl
    | none =>
      rw [hw] at hk
      simp only at hk
      obtain ⟨u, y, w, _, _, _, _, _, _, he, _⟩ := S.some_ k v hk
      have hvk : v.key = k := by rw [he]
      rw [hvk]
      exact .inl ⟨hk, by rw [aheadL_wrUpto hi]; exact List.getLast?_eq_none_iff.1 hw⟩
  have h0 := H.op t x hx i o ho
  unfold seenOf at hv
  rcases op_kind h0 with h1 | h1 | h1
  · rw [if_pos h1] at hv
    simp at hv
    have hs := S.told i o ho (by omega)
    unfold SameP at hs
    rw [if_pos h1, ← hv] at hs
    cases hk : applyN x t s i v.key with
    | none =>
      rw [hk] at hs
      simp only [Option.getD_none] at hs
      obtain ⟨u, hu, _⟩ := op_read h0 h1
      obtain ⟨f, y, n, _, hn, _⟩ := tellable_spec hu
      rw [← hv, ← hs] at hn
      simp [hver0] at hn
      omega
    | some z =>
      rw [hk] at hs
      simp only [Option.getD_some] at hs
      subst hs
      exact key _ hk
  · rw [if_neg (by omega), if_pos h1] at hv; cases hv
  · rw [if_neg (by omega), if_neg (by omega)] at hv
    have hs := S.told i o ho (by omega)
    unfold SameP at hs
    rw [if_neg (by omega)] at hs
    obtain ⟨ks, _, hks, hse⟩ := hs
    rw [hse] at hv
    obtain ⟨k, hk, rfl⟩ := List.mem_map.1 hv
    have hne := (hks k).1 (List.mem_filter.1 hk).1
    cases hz : applyN x t s i k with
    | none => exact absurd hz hne
    | some z =>
      have := key k (by rw [hz]; simp)
      rw [hz] at this
      simpa using this
theorem Snap.later (H : Fine h) {t : Nat} {x : HTx} {s : KSt} (S : Snap h t x s) {k : ByteArray} {v : HVer} (hv : s k = some v) : ∃ st : Nat, standing h v = st ∧ (∀ i u, i < st + 1 → (order h k)[i]? = some u → u.fin ≤ x.bgn) ∧ ∀ i u, st + 1 ≤ i → (order h k)[i]? = some u → u.txn ≠ t → x.bgn < u.fin := by
  obtain ⟨f, y, w, hne, hy, hc, hle, hw, hd, rfl, hmax⟩ := S.some_ k v hv
  obtain ⟨st, h1, h2⟩ := standing_at (h := h) (f := f) (y := y) (v := ⟨k, f, (writes y k).length⟩) (w := w) rfl hy hc rfl hw
  refine ⟨st, h1, fun i u hi hu => ?_, fun i u hi hu hut => ?_⟩
  · have := order_sorted h k hu h2 (by omega)
    simp only at this
    omega
  · refine Classical.byContradiction fun hn => ?_
    obtain ⟨z, w', b1, b2, b3, b4⟩ := mem_order.1 (List.mem_of_getElem? hu)
    have hcu := com_order hu
    have hf : u.fin = z.fin := by rw [b4]
    have hm := hmax u.txn z hut b1 hcu (by omega) (last_ne b3)
    have hs := order_sorted h k h2 hu (by omega)
    simp only at hs
    have := ends_inj H b1 hy b2 (com_fate hy hc) (by omega)
    have := order_inj h2 hu (by simpa using this)
    omega
def EdgeS (h : List HTx) (e : Edge) : Prop := ∃ (u t : Nat) (x y : HTx), e.frm = u ∧ e.to = t ∧ h[u]? = some x ∧ h[t]? = some y ∧ com h u = true ∧ com h t = true ∧ u ≠ t ∧ e.kind ≠ 0 ∧ (flowK e.kind = true → x.fin ≤ y.bgn) ∧ (antiK e.kind = true → x.bgn < y.fin)
theorem edge_snap (H : Fine h) (M : Moments h l) (R : RunOK h l) (C : SnapC h) {e : Edge} (he : e ∈ edgesOf h) : EdgeS h e := by
  obtain ⟨u, t, eu, et, cu, ct, hut⟩ := edge_com H he
  obtain ⟨x, hx, hfx⟩ := com_iff.1 cu
  obtain ⟨y, hy, hfy⟩ := com_iff.1 ct
  refine ⟨u, t, x, y, eu, et, hx, hy, cu, ct, hut, ?_⟩
  have mk : ∀ {t : Nat} {x : HTx}, h[t]? = some x → com h t = true → ∀ o ∈ x.ops, ∃ s, Snap h t x s := fun hx hc o ho => snap_of H M R hx hc (C _ _ hx hc o ho).1
  rcases mem_edgesOf.1 he with ⟨k, _, i, a, b, h1, h2, h3, rfl⟩ | ⟨t', x', i, o, hx', hc', ho, hq⟩
  · simp only at eu et
    have hau : a.txn = u := by omega
    have hbt : b.txn = t := by omega
    refine ⟨by simp, fun _ => ?_, fun h => by simp [antiK] at h⟩
    obtain ⟨z1, w1, a1, a2, a3, a4⟩ := mem_order.1 (List.mem_of_getElem? h1)
    obtain ⟨z2, w2, b1, b2, b3, b4⟩ := mem_order.1 (List.mem_of_getElem? h2)
    rw [hau, hx] at a1; cases a1
    rw [hbt, hy] at b1; cases b1
    have hs := order_sorted h k h1 h2 (by omega)
    have e1 : a.fin = x.fin := by rw [a4]
    have e2 : b.fin = y.fin := by rw [b4]
    have hne : x.fin ≠ y.fin := fun e => hut (ends_inj H hy hx hfy hfx e)
    obtain ⟨o, ho, _⟩ := wr_val (List.mem_of_getLast? b3)
    obtain ⟨s, S⟩ := mk hy ct o ho
    refine Classical.byContradiction fun hn => ?_
    exact S.apart u x k hut hx cu (by omega) (by omega) (last_ne b3) (last_ne a3)
  · have hom := List.mem_of_getElem? ho
    obtain ⟨s, S⟩ := mk hx' hc' o hom
    have item : ∀ v ∈ seenOf o, QItem h t' v e → e.kind ≠ 0 ∧ (flowK e.kind = true → x.fin ≤ y.bgn) ∧ (antiK e.kind = true → x.bgn < y.fin) := by
      intro v hv ⟨q1, q2, q3⟩
      rcases S.seen H hx' ho hv with ⟨hs, _⟩ | hs
      · obtain ⟨st, g1, g2, g3⟩ := S.later H hs
        rcases q3 with rfl | ⟨z, r1, r2, r3, rfl⟩
        · simp only at eu et
          have : t' = t := by omega
          subst this
          rw [hy] at hx'; cases hx'
          refine ⟨by simp, fun _ => ?_, fun h => by simp [antiK] at h⟩
          obtain ⟨f, y', w, hne, hy', hc, hle, hw, hd, hve, hmax⟩ := S.some_ _ v hs
          have hfu : f = u := by rw [hve] at eu; simp only at eu; omega
          subst hfu
          rw [hx] at hy'; cases hy'
          exact hle
        · simp only at eu et
          have h1 : t' = u := by omega
          subst h1
          rw [hx] at hx'; cases hx'
          have h2 : z.txn = t := by omega
          refine ⟨by simp, fun h => by simp [flowK] at h, fun _ => ?_⟩
          rw [g1, show ((st : Int) + 1).toNat = st + 1 by omega] at r2
          have := g3 (st + 1) z (by omega) r2 (by omega)
          obtain ⟨z1, w1, a1, a2, a3, a4⟩ := mem_order.1 (List.mem_of_getElem? r2)
          rw [h2, hy] at a1; cases a1
          rw [a4] at this
          exact this
      · exact absurd hs q1
    rcases hq with ⟨hk, hq⟩ | ⟨hk, ⟨v, hv, hq⟩ | ⟨k, _, q0, qc, qn, qe⟩⟩
    · exact item _ (by unfold seenOf; rw [if_pos hk]; simp) hq
    · exact item v (by unfold seenOf; rw [if_neg (by omega), if_neg (by omega)]; exact hv) hq
    · have hat : o.at_ = x'.bgn := (C _ _ hx' hc' o hom).2 hk
      have hcut : (∀ i z, i < scanN h t' o k → (order h k)[i]? = some z → z.fin ≤ x'.bgn) ∧ ∀ i z, scanN h t' o k ≤ i → (order h k)[i]? = some z → z.txn ≠ t' → x'.bgn < z.fin := by
        unfold scanN
        cases hv : tellsAt o k with
        | none =>
          simp only
          unfold chosen
          generalize hC : chosenUpto t' o.at_ (order h k) (order h k).length = c
          refine ⟨fun i z hi hz => ?_, fun i z hi hz hzt => ?_⟩
          · cases c with
            | zero => omega
            | succ c =>
              obtain ⟨v, hv1, hv2, hv3⟩ := chosenUpto_at hC
              have := order_sorted h k hz hv1 (by omega)
              omega
          · have := chosenUpto_all (by rw [hC]; exact hi) (List.getElem?_eq_some_iff.1 hz).1 hz
            refine Classical.byContradiction fun hn => this ⟨hzt, by omega⟩
        | some v =>
          simp only
          have hvm : v ∈ o.seen := List.mem_of_find?_eq_some hv
          have hvk : v.key = k := by have := List.find?_some hv; simpa using this
          have hi : i ≤ x'.ops.length := by have := (List.getElem?_eq_some_iff.1 ho).1; omega
          have hah : aheadL x' k i = [] := List.eq_nil_of_length_eq_zero q0
          rcases S.seen H hx' ho (v := v) (by unfold seenOf; rw [if_neg (by omega), if_neg (by omega)]; exact hvm) with ⟨hs, _⟩ | hs
          · obtain ⟨st, g1, g2, g3⟩ := S.later H hs
            rw [hvk] at g2 g3
            rw [g1, show ((st : Int) + 1).toNat = st + 1 by omega]
            exact ⟨g2, g3⟩
          · exfalso
            obtain ⟨_, hso, _⟩ := op_scan (H.op t' x' hx' i o ho) hk
            obtain ⟨m, hm⟩ := List.mem_iff_getElem?.1 hvm
            obtain ⟨hsome, _⟩ := seenOk_all hso m v (List.getElem?_eq_some_iff.1 hm).1 hm
            obtain ⟨w, hw⟩ := Option.isSome_iff_exists.1 hsome
            obtain ⟨f, y', n, g1, _, _, _, _, g6⟩ := tellable_spec hw
            have := (g6 hc').2 (by rw [hvk, hah]; rfl)
            omega
      rcases qe with ⟨j, z, r1, r2, r3, rfl⟩ | ⟨j, z, r1, r2, r3, rfl⟩
      · simp only at eu et
        have h1 : t' = t := by omega
        subst h1
        rw [hy] at hx'; cases hx'
        refine ⟨by simp, fun _ => ?_, fun h => by simp [antiK] at h⟩
        have := hcut.1 j z (downTurn_some r1).1 r2
        obtain ⟨z1, w1, a1, a2, a3, a4⟩ := mem_order.1 (List.mem_of_getElem? r2)
        rw [show z.txn = u by omega, hx] at a1; cases a1
        rw [a4] at this
        exact this
      · simp only at eu et
        have h1 : t' = u := by omega
        subst h1
        rw [hx] at hx'; cases hx'
        refine ⟨by simp, fun h => by simp [flowK] at h, fun _ => ?_⟩
        have := hcut.2 j z (upTurn_some r1).1 r2 (by omega)
        obtain ⟨z1, w1, a1, a2, a3, a4⟩ := mem_order.1 (List.mem_of_getElem? r2)
        rw [show z.txn = t by omega, hy] at a1; cases a1
        rw [a4] at this
        exact this
end
end Go.Proofs.YtooigfkjdemnlaaGreatDoor

namespace Go.Proofs.YtooigfkjdemnlaaGreatDoor
set_option maxRecDepth 100000
open Go.RowKit Go.Lib Go.Sort Go.Shelf Xw

theorem num_ (n : Int) (w : World) : Calls Tryz.prog 8 #[.int .i64 n] w fun e w' => e = .returned (.int .i64 n) ∧ w = w' := by
  go_enter Tryz.func8, Tryz.ntmps8
  go_wp2
  go_ret
  exact ⟨rfl, rfl⟩
end Go.Proofs.YtooigfkjdemnlaaGreatDoor
