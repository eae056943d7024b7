/- Own texts of this claim, joined in build order: F11, J0. -/
import Derived.Test.YtooigfkjdemnlaaGreatDoorL43
import Derived.Test.YtooigfkjdemnlaaGreatDoorL41
set_option linter.all false
namespace Go.Proofs.YtooigfkjdemnlaaGreatDoor
set_option maxRecDepth 100000
open Go.RowKit Go.Lib Go.Sort Go.Shelf Xw

theorem ptsRaw_nodup (h : List HTx) : ∀ n, ((ptsRaw h n).map fun p => (p.txn, p.cm)).Nodup
  | 0 => by simp [ptsRaw]
  | n + 1 => by
    have ih := ptsRaw_nodup h n
    unfold ptsRaw
    split
    · rw [List.map_append]
      refine List.nodup_append.2 ⟨ih, by simp, fun a ha b hb => ?_⟩
      obtain ⟨p, hp, rfl⟩ := List.mem_map.1 ha
      have hlt := ((mem_ptsRaw n).1 hp).1
      simp only [List.map_cons, List.map_nil, List.mem_cons, List.not_mem_nil, or_false] at hb
      rcases hb with rfl | rfl
      · intro e; injection e with e1 e2; omega
      · intro e; injection e with e1 e2; omega
    · exact ih
theorem com_bgn {h : List HTx} (H : Fine h) {t : Nat} {x : HTx} (hx : h[t]? = some x) (hc : com h t = true) : x.bgn ≤ x.fin := by
  have hs := H.shaped t x hx
  unfold shaped at hs
  rw [hc] at hs
  simp only [Bool.not_true, Bool.false_or, Bool.and_eq_true] at hs
  have := hs.2.2
  unfold shaped3 at this
  simp only [Bool.and_eq_true, decide_eq_true_eq] at this
  exact this.1.1.1
theorem Moments.len {h : List HTx} {l : List Pt} (M : Moments h l) : l.length ≤ 2 * h.length := by
  rw [M.1.length_eq]; exact ptsRaw_len h _
theorem Moments.mem {h : List HTx} {l : List Pt} (M : Moments h l) {p : Pt} : p ∈ l ↔ p.txn < h.length ∧ com h p.txn = true ∧ p.pat = 0 := by
  rw [M.1.mem_iff, mem_ptsRaw]
theorem Moments.wf {h : List HTx} {l : List Pt} (H : Fine h) (M : Moments h l) : WfPts h l := by
  refine ⟨(M.1.map _).nodup_iff.2 (ptsRaw_nodup h _), fun p q hq hc => ?_, fun q hq => (M.mem.1 hq).2.1⟩
  obtain ⟨m1, m2, m3⟩ := M.mem.1 (List.mem_of_getElem? hq)
  obtain ⟨b, hb⟩ := List.mem_iff_getElem?.1 ((M.mem (p := ⟨q.txn, false, 0⟩)).2 ⟨m1, m2, rfl⟩)
  refine ⟨b, _, ?_, hb, rfl, rfl⟩
  rcases Nat.lt_trichotomy b p with h1 | h1 | h1
  · exact h1
  · exfalso
    subst h1
    rw [hq] at hb
    have := congrArg Pt.cm (Option.some.inj hb)
    rw [hc] at this
    cases this
  · exfalso
    obtain ⟨l1, e1⟩ := List.getElem?_eq_some_iff.1 hq
    obtain ⟨l2, e2⟩ := List.getElem?_eq_some_iff.1 hb
    have := List.pairwise_iff_getElem.1 M.2 p b l1 l2 h1
    rw [e1, e2] at this
    obtain ⟨x, hx, _⟩ := com_iff.1 m2
    have hbf := com_bgn H hx m2
    unfold ptLt rank1 rank2 at this
    simp only [hx, hc, decide_eq_false_iff_not] at this
    apply this
    by_cases he : x.bgn = x.fin
    · right; simp [he]
    · left; simp; omega
def EmbedR (w : World) (ob : Nat) (h : List HTx) (e : Ending) (w' : World) : Prop :=
  ∃ f, e = faultEnd (.tuple #[]) f ∧ Chg (fun j => j = ob) w w' ∧ ∃ A n c, w'.heap[ob]? = some (.cells #[.slice A n c] 44) ∧ ∃ l, Moments h l ∧ ((f = none ∧ n = l.length ∧ FitsN h l l.length ∧ RunOK h l) ∨ (∃ m, f = some (m, 0, 0) ∧ m ≠ 0 ∧ ¬ (FitsN h l l.length ∧ RunOK h l)))
set_option maxHeartbeats 4000000 in
theorem embed1_ {w : World} {lp ob : Nat} {h : List HTx} (hl : Led w w.heap.size lp h) (H : Fine h) (hob : w.heap[ob]? = some (.cells #[.slice none 0 0] 44)) :
    Calls Tryz.prog 34 #[.pointer (some ⟨lp, 0, none⟩), .pointer (some ⟨ob, 0, none⟩)] w (EmbedR w ob h) := by
  have hol := lt_of_heap hob
  have hmo := Lib.hid (moments_ hl H.n)
  have HL := Lib.hid hl
  have HOB := Lib.hid hob
  clear hl hob
  go_enter Tryz.func34, Tryz.ntmps34
  go_upto_region 1 with (go_at_call 35; with_reducible refine hmo.out.mono ?_; rintro e w1 ⟨hB1, v, l, F, rfl, HM, hs1, hF1⟩)
  have hz1 := hB1.size
  have hW := HM.out.wf H
  have hlen := HM.out.len
  have hn := H.n
  obtain ⟨A, c, rfl, hca, hcb⟩ := hs1.shape
  have hpl := Lib.hid (place_ (HL.out.below hB1 (Nat.le_refl _)) (fun p hp => (HM.out.mem.1 hp).1) (SamePts.refl l) hs1 (fun j hj => (hF1 j hj).1))
  have HW := Lib.hid hW
  clear hs1 hW
  rcases Classical.em (FitsN h l l.length) with hfit | hfit
  rotate_left
  · have HFT := Lib.hid hfit
    clear hfit
    go_wp2_with (go_at_call 36; refine hpl.out.mono ?_; rintro e w2 ⟨hc2, b, c2, rfl, HB, HSP, hs2⟩
                 obtain rfl : b = false := by
                   cases b
                   · rfl
                   · exact absurd (HB.out.1 rfl) HFT.out)
    have hc02 : Chg (fun j => j = ob) w w2 := ((Chg.of_below hB1).mono (G := fun j => j = ob) (fun j hj h => absurd h (by omega))).trans (hc2.mono (G := fun j => w.heap.size ≤ j) (fun j _ h => (hF1 j h).1)) (fun j hj h => absurd h (by omega))
    have ho2 : w2.heap[ob]? = some (.cells #[.slice none 0 0] 44) := (hc2.block ob (by omega) (fun h => by have := hF1 _ h; omega)).trans ((hB1.block ob hol).trans HOB.out)
    exact ⟨rfl, some (145, 0, 0), rfl, hc02, none, 0, 0, ho2, l, HM.out, .inr ⟨145, rfl, by decide, fun h => HFT.out h.1⟩⟩
  have HFT := Lib.hid hfit
  clear hfit
  go_upto_region 3 with (go_at_call 36; refine hpl.out.mono ?_; rintro e w2 ⟨hc2, b, c2, rfl, HB, HSP, hs2⟩
                         obtain rfl : b = true := HB.out.2 HFT.out)
  have hz2 := hc2.size
  have hc02 : Chg (fun j => j = ob) w w2 := ((Chg.of_below hB1).mono (G := fun j => j = ob) (fun j hj h => absurd h (by omega))).trans (hc2.mono (G := fun j => w.heap.size ≤ j) (fun j _ h => (hF1 j h).1)) (fun j hj h => absurd h (by omega))
  have ho2 : w2.heap[ob]? = some (.cells #[.slice none 0 0] 44) := (hc2.block ob (by omega) (fun h => by have := hF1 _ h; omega)).trans ((hB1.block ob hol).trans HOB.out)
  have hl2 : Led w2 w.heap.size lp h := (HL.out.below hB1 (Nat.le_refl _)).keep (fun j hj => hc2.block j (by omega) (fun h => by have := hF1 _ h; omega)) hz2
  have hrun := Lib.hid (run_ hl2 H HW.out HSP.out (Rows.of_sl (enc := ptC) (size := 3) (fun _ => rfl) hs2 (Nat.le_refl _)) (Nat.le_refl _) (by omega))
  have HC02 := Lib.hid hc02
  have HO2 := Lib.hid ho2
  clear hs2 hc02 ho2 hl2 hpl
  rcases Classical.em (RunOK h l) with hok | hok
  · have HOK := Lib.hid hok
    clear hok
    go_wp2_with (go_at_call 37; refine hrun.out.mono ?_; rintro e w3 ⟨hB3, n, rfl, HN⟩
                 obtain rfl : n = 0 := HN.out.2 HOK.out
                 have ho3 := (hB3.block ob (by omega)).trans HO2.out
                 have g0 := (cells_of (cs := [.slice none 0 0]) ho3).1 0
                 have g1 := (cells_of (cs := [.slice none 0 0]) ho3).2 0
                 have hi3 : ob < w3.heap.size := lt_of_heap ho3
                 have HO3 := Lib.hid ho3
                 clear ho3)
    go_end0
    have hset : Chg (fun j => j = ob) w3 (w3.setCell ⟨ob, 0, none⟩ (.slice A l.length c)) := (Chg.refl _ _).setCell _ _ (fun _ => rfl)
    refine ⟨none, rfl, (HC02.out.trans (Chg.of_below hB3) (fun j hj h => absurd h (by omega))).trans hset (fun _ _ h => h), A, l.length, c, by simpa using heap_setCell_same (i := 0) (v := .slice A l.length c) HO3.out, l, HM.out, .inl ⟨rfl, rfl, HFT.out, HOK.out⟩⟩
  · have HOK := Lib.hid hok
    clear hok
    obtain ⟨nn, hnn⟩ : ∃ nn : Bool, nn = true := ⟨_, rfl⟩
    go_upto_region 4 with (go_at_call 37; refine hrun.out.mono ?_; rintro e w3 ⟨hB3, n, rfl, HN⟩)
    have hn0 : n ≠ 0 := fun h => HOK.out (HN.out.1 h)
    have hnb : (n != 0) = true := by simp [hn0]
    have HN0 := Lib.hid hn0
    clear hn0
    go_wp2
    exact ⟨rfl, some (n, 0, 0), rfl, HC02.out.trans (Chg.of_below hB3) (fun j hj h => absurd h (by omega)), none, 0, 0, (hB3.block ob (by omega)).trans HO2.out, l, HM.out, .inr ⟨n, rfl, HN0.out, fun h => HOK.out h.2⟩⟩
def EmbedA (w : World) (h : List HTx) (e : Ending) (w' : World) : Prop :=
  Below w.heap.size w w' ∧ ∃ A k c n, e = .returned (.tuple #[.slice A k c, .int .i64 n]) ∧ ((histFault h ≠ none ∧ n = errOf (histFault h)) ∨ (histFault h = none ∧ ∃ l, Moments h l ∧ ((n = 0 ∧ k = l.length ∧ FitsN h l l.length ∧ RunOK h l) ∨ (n ≠ 0 ∧ ¬ (FitsN h l l.length ∧ RunOK h l)))))
set_option maxHeartbeats 4000000 in
theorem embed_ {w : World} {B : Nat} {h : List HTx} {tv : Value} (hh : HistV w B tv h) (hB : B ≤ w.heap.size) (hops : ∀ x ∈ h, x.ops.length ≤ 1048576) :
    Calls Tryz.prog 13 #[.agg #[tv]] w (EmbedA w h) := by
  obtain ⟨A, c, rfl, hn0, hm0⟩ := Rows.shape hh
  obtain ⟨W2, hW2⟩ : ∃ W2, W2 = (w.alloc (.cells #[.slice A h.length c] 28)).alloc (.cells #[.slice none 0 0] 44) := ⟨_, rfl⟩
  have hz2 : W2.heap.size = w.heap.size + 2 := by rw [hW2]; simp
  have hB2 : Below w.heap.size w W2 := by rw [hW2]; exact bel2 _ _ _
  have hob : W2.heap[w.heap.size + 1]? = some (.cells #[.slice none 0 0] 44) := by rw [hW2]; exact top_al _ _ (by simp)
  have hg := guarded_ (hh.keep (fun j hj => hB2.block j (by omega))) (show B ≤ W2.heap.size by omega) hops 34 #[.pointer (some ⟨w.heap.size + 1, 0, none⟩)] (enters_of Tryz.func34 (by kernel_rfl) rfl)
    (fun f w' => Below w.heap.size w w' ∧ ∃ A k c, w'.heap[w.heap.size + 1]? = some (.cells #[.slice A k c] 44) ∧ ((histFault h ≠ none ∧ f = histFault h) ∨ (histFault h = none ∧ ∃ l, Moments h l ∧ ((f = none ∧ k = l.length ∧ FitsN h l l.length ∧ RunOK h l) ∨ (∃ m, f = some (m, 0, 0) ∧ m ≠ 0 ∧ ¬ (FitsN h l l.length ∧ RunOK h l))))))
    (fun lp w1 hl hb hsz hf => by
      refine (embed1_ hl (fine_of hf) ((hb.block (w.heap.size + 1) (by omega)).trans hob)).mono ?_
      rintro e w2 ⟨f, rfl, h2, A', n', c', h1, l, hM, h3⟩
      refine ⟨f, rfl, ⟨?_, A', n', c', h1, .inr ⟨hf, l, hM, h3⟩⟩, h2.block _ hsz (by omega)⟩
      exact (hB2.trans (hb.mono (by omega))).trans (h2.below (fun j hj => by omega) (by have := hb.size; omega)))
    (fun f w2 w3 ⟨h1, A', k', c', h3, h4⟩ hc => ⟨h1.trans (hc.below (fun j hj => by omega) h1.size), A', k', c', (hc.block _ (lt_of_heap h3) (by omega)).trans h3, h4⟩)
    (fun f w3 hf hb => ⟨hB2.trans (hb.mono (by omega)), _, _, _, (hb.block _ (by omega)).trans hob, .inl ⟨by rw [hf]; simp, hf.symm⟩⟩)
  have HG := Lib.hid hg
  have HW2 := Lib.hid hW2
  clear hg hW2 hh
  have hmf : ∀ (fn : Fn) (first cap : Array Value) (w : World), (Instr.makeFunc fn first cap).run Tryz.prog w = .ok (.func fn first cap) w := fun _ _ _ _ => rfl
  go_enter Tryz.func13, Tryz.ntmps13
  go_wp2_with (first
    | (with_reducible refine wp_region_free (by kernel_rfl) (fun _ _ => ?_))
    | (go_at_call 18; rw [← HW2.out]; refine HG.out.mono ?_
       rintro e w1 ⟨f, rfl, hb1, A', k', c', hv, hrows⟩
       rw [faultRes_eq]
       have q0 := (heap_cell hv).1
       have hol := lt_of_heap hv
       have HV := Lib.hid (And.intro hb1 hrows)
       clear hv hrows
       obtain ⟨E, hE⟩ : ∃ E, E = errOf f := ⟨_, rfl⟩
       obtain ⟨T, hT⟩ : ∃ T, T = txnOf f := ⟨_, rfl⟩
       obtain ⟨O, hO⟩ : ∃ O, O = opOf f := ⟨_, rfl⟩
       rw [← hT, ← hO, ← hE]
       have HE := Lib.hid hE
       clear hT hO hE))
  refine bodyPost_ret (results_tmp2 rfl _ _ _) rfl ?_
  obtain ⟨h2, h4⟩ := HV.out
  refine ⟨(h2.alloc h2.size _).drew, A', k', c', E, rfl, ?_⟩
  rcases h4 with ⟨h5, h6⟩ | ⟨h5, l, hM, h6⟩
  · exact .inl ⟨h5, by rw [HE.out, h6]⟩
  · refine .inr ⟨h5, l, hM, ?_⟩
    rcases h6 with ⟨h7, h8⟩ | ⟨m, h7, h8, h9⟩
    · exact .inl ⟨by rw [HE.out, h7]; rfl, h8⟩
    · exact .inr ⟨by rw [HE.out, h7]; exact h8, h9⟩
end Go.Proofs.YtooigfkjdemnlaaGreatDoor

namespace Go.Proofs.YtooigfkjdemnlaaGreatDoor
set_option maxRecDepth 100000
open Go.RowKit Go.Lib Go.Sort Go.Shelf Xw

theorem num_ (n : Int) (w : World) : Calls Tryz.prog 8 #[.int .i64 n] w fun e w' => e = .returned (.int .i64 n) ∧ w = w' := by
  go_enter Tryz.func8, Tryz.ntmps8
  go_wp2
  go_ret
  exact ⟨rfl, rfl⟩
end Go.Proofs.YtooigfkjdemnlaaGreatDoor
