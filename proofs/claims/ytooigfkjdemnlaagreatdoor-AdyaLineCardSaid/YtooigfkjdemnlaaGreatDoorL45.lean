/- Own texts of this claim, joined in build order: V5, J2. -/
import Derived.Test.YtooigfkjdemnlaaGreatDoorL41
import Derived.Test.YtooigfkjdemnlaaGreatDoorL35
set_option linter.all false
namespace Go.Proofs.YtooigfkjdemnlaaGreatDoor
set_option maxRecDepth 100000
open Go.RowKit Go.Lib Go.Sort Go.Shelf Xw

def ReplayA (w : World) (h : List HTx) (ord : List Int) (e : Ending) (w' : World) : Prop :=
  Below w.heap.size w w' ∧ ∃ b n, e = .returned (.tuple #[.bool b, .int .i64 n]) ∧ ((histFault h ≠ none ∧ n = errOf (histFault h)) ∨ (histFault h = none ∧ n = 144 ∧ ¬ ∃ l, OrderL h ord l) ∨ (histFault h = none ∧ n = 0 ∧ ∃ l, OrderL h ord l ∧ (b = true ↔ ReplayOK h l)))
set_option maxHeartbeats 4000000 in
theorem replay_ {w : World} {B : Nat} {h : List HTx} {tv ov : Value} {ord : List Int} (hh : HistV w B tv h) (hB : B ≤ w.heap.size) (hro : Rows w B 1 (Flat intC) ov ord) (hops : ∀ x ∈ h, x.ops.length ≤ 1048576) :
    Calls Tryz.prog 9 #[.agg #[tv], ov] w (ReplayA w h ord) := by
  obtain ⟨A, c, rfl, hn0, hm0⟩ := Rows.shape hh
  obtain ⟨OA, oc, rfl, hoc1, hoc2⟩ := hro.shape
  obtain ⟨W2, hW2⟩ : ∃ W2, W2 = ((w.alloc (.cells #[.slice A h.length c] 28)).alloc (.cells #[.slice OA ord.length oc] 34)).alloc (.cells #[.bool true] 4) := ⟨_, rfl⟩
  have hz2 : W2.heap.size = w.heap.size + 3 := by rw [hW2]; simp
  have hB2 : Below w.heap.size w W2 := by rw [hW2]; exact bel3 _ _ _ _
  have hob : W2.heap[w.heap.size + 2]? = some (.cells #[.bool true] 4) := by rw [hW2]; exact top_al _ _ (by simp)
  have hocb : W2.heap[w.heap.size + 1]? = some (.cells #[.slice OA ord.length oc] 34) := by rw [hW2, heap_alloc_lt (by simp)]; exact top_al _ _ (by simp)
  have hg := guarded_ (hh.keep (fun j hj => hB2.block j (by omega))) (show B ≤ W2.heap.size by omega) hops 19 #[.pointer (some ⟨w.heap.size + 1, 0, none⟩), .pointer (some ⟨w.heap.size + 2, 0, none⟩)] (enters_of Tryz.func19 (by kernel_rfl) rfl)
    (fun f w' => Below w.heap.size w w' ∧ ∃ b, w'.heap[w.heap.size + 2]? = some (.cells #[.bool b] 4) ∧ ((f ≠ none ∧ f = histFault h) ∨ (f = some (144, 0, 0) ∧ histFault h = none ∧ ¬ ∃ l, OrderL h ord l) ∨ (f = none ∧ histFault h = none ∧ ∃ l, OrderL h ord l ∧ (b = true ↔ ReplayOK h l))))
    (fun lp w1 hl hb hsz hf => by
      refine (replay1_ hl (fine_of hf) ((hb.block (w.heap.size + 1) (by omega)).trans hocb) ((hro.flat (fun j hj => (hb.block j (by omega)).trans (hB2.block j (by omega)))).flatMore (by omega)) ((hb.block (w.heap.size + 2) (by omega)).trans hob)).mono ?_
      rintro e w2 ⟨f, rfl, h2, v, h1, h3⟩
      refine ⟨f, rfl, ⟨?_, v, h1, ?_⟩, h2.block _ hsz (by omega)⟩
      · exact (hB2.trans (hb.mono (by omega))).trans (h2.below (fun j hj => by omega) (by have := hb.size; omega))
      · rcases h3 with ⟨rfl, h4⟩ | ⟨rfl, h4⟩
        · exact .inr (.inl ⟨rfl, hf, h4⟩)
        · exact .inr (.inr ⟨rfl, hf, h4⟩))
    (fun f w2 w3 ⟨h1, v, h3, h4⟩ hc => ⟨h1.trans (hc.below (fun j hj => by omega) h1.size), v, (hc.block _ (lt_of_heap h3) (by omega)).trans h3, h4⟩)
    (fun f w3 hf hb => ⟨hB2.trans (hb.mono (by omega)), _, (hb.block _ (by omega)).trans hob, .inl ⟨by simp, hf.symm⟩⟩)
  have HG := Lib.hid hg
  have HW2 := Lib.hid hW2
  clear hg hW2 hh hro hob hocb
  have hmf : ∀ (fn : Fn) (first cap : Array Value) (w : World), (Instr.makeFunc fn first cap).run Tryz.prog w = .ok (.func fn first cap) w := fun _ _ _ _ => rfl
  go_enter Tryz.func9, Tryz.ntmps9
  go_upto_region 3 with (
       go_at_call 18; rw [← HW2.out]; refine HG.out.mono ?_
       rintro e w1 ⟨f, rfl, hb1, v, hv, hrows⟩
       rw [faultRes_eq]
       have HV := Lib.hid (And.intro hv (And.intro hb1 hrows))
       clear hv hrows
       obtain ⟨E, hE⟩ : ∃ E, E = errOf f := ⟨_, rfl⟩
       obtain ⟨T, hT⟩ : ∃ T, T = txnOf f := ⟨_, rfl⟩
       obtain ⟨O, hO⟩ : ∃ O, O = opOf f := ⟨_, rfl⟩
       rw [← hT, ← hO, ← hE]
       have HE := Lib.hid hE
       clear hT hO hE)
  obtain ⟨h1, h2, h3⟩ := HV.out
  have q0 := (heap_cell h1).1
  have hol := lt_of_heap h1
  have hz1 := h2.size
  have H3 := Lib.hid h3
  clear h1 h3
  by_cases h0 : E = 0
  · have hb : (E != 0) = false := by simp [h0]
    have H0 := Lib.hid h0
    clear h0
    go_wp2
    refine bodyPost_ret (results_tmp2 rfl _ _ _) rfl ?_
    refine ⟨h2.alloc h2.size _, v, 0, rfl, ?_⟩
    rcases H3.out with ⟨h3, h4⟩ | ⟨h3, _⟩ | ⟨h3, h4, h5⟩
    · have := errOf_hist (h := h) (by rw [← h4]; exact h3)
      rw [← h4, ← HE.out, H0.out] at this
      exact absurd rfl this
    · have := HE.out
      rw [h3, H0.out] at this
      exact absurd this (by decide)
    · exact .inr (.inr ⟨h4, rfl, h5⟩)
  · have hb : (E != 0) = true := by simp [h0]
    have H0 := Lib.hid h0
    clear h0
    go_wp2_with (with_reducible refine wp_region_free (by kernel_rfl) (fun _ _ => ?_))
    refine bodyPost_ret (results_tmp2 rfl _ _ _) rfl ?_
    refine ⟨(h2.alloc h2.size _).drew, _, E, rfl, ?_⟩
    rcases H3.out with ⟨h3, h4⟩ | ⟨h3, h4⟩ | ⟨h3, _⟩
    · exact .inl ⟨by rw [← h4]; exact h3, by rw [← h4, HE.out]⟩
    · refine .inr (.inl ⟨h4.1, ?_, h4.2⟩)
      rw [HE.out, h3]; rfl
    · have := HE.out
      rw [h3] at this
      exact absurd this H0.out
end Go.Proofs.YtooigfkjdemnlaaGreatDoor

namespace Go.Proofs.YtooigfkjdemnlaaGreatDoor
variable {h : List HTx} {l : List Nat}

theorem Line.way (L : Line h l) {m : Edge → Bool} {a x : Int} (hw : Way (edgesOf h) m a x) {j n : Nat} (hj : l[j]? = some n) (ha : a = (n : Int)) : ∃ (i b : Nat), j ≤ i ∧ l[i]? = some b ∧ x = (b : Int) := by
  induction hw with
  | start => exact ⟨j, n, Nat.le_refl _, hj, ha⟩
  | step hw he hm ih =>
    obtain ⟨i, b, h1, h2, h3⟩ := ih
    obtain ⟨i', j', a', b', h4, h5, h6, h7, h8⟩ := L.rise _ he
    have hab : a' = b := by omega
    subst hab
    have := L.inj h2 h5
    exact ⟨j', b', by omega, h6, h8⟩
theorem Line.no_cycle (L : Line h l) {m1 m2 : Edge → Bool} : ¬ Cyc (edgesOf h) (edgesOf h) m1 m2 := by
  rintro ⟨e, he, _, hw⟩
  obtain ⟨i, j, a, b, h1, h2, h3, h4, h5⟩ := L.rise _ he
  obtain ⟨i', b', h6, h7, h8⟩ := L.way hw h3 h5
  have hab : a = b' := by omega
  subst hab
  have := L.inj h2 h7
  omega
theorem Line.not4 (L : Line h l) {ps : List Int} (P : PhenL h 8 ps) : ¬ ∃ x ∈ ps, (4 : Int) ≤ x ∧ x ≤ 4 := by
  rintro ⟨x, hx, h1, h2⟩
  obtain ⟨q, h3, h4, h5, rfl⟩ := (P.2 x).1 hx
  have : q = 4 := by omega
  subst this
  exact L.no_cycle h5
theorem Line.not78 (L : Line h l) {ps : List Int} (P : PhenL h 8 ps) : ¬ ∃ x ∈ ps, (7 : Int) ≤ x ∧ x ≤ 8 := by
  rintro ⟨x, hx, h1, h2⟩
  obtain ⟨q, h3, h4, h5, rfl⟩ := (P.2 x).1 hx
  have : q = 7 ∨ q = 8 := by omega
  rcases this with rfl | rfl
  · exact L.no_cycle h5
  · exact L.no_cycle h5
theorem not23 {ps : List Int} (P : PhenL h 8 ps) (hn : ¬ ∃ x ∈ ps, (2 : Int) ≤ x ∧ x ≤ 3) : ¬ ToldB h (badA h) ∧ ¬ ToldB h (badB h) :=
  ⟨fun hp => hn ⟨2, (P.2 2).2 ⟨2, by omega, by omega, hp, rfl⟩, by omega, by omega⟩, fun hp => hn ⟨3, (P.2 3).2 ⟨3, by omega, by omega, hp, rfl⟩, by omega, by omega⟩⟩
theorem Line.ord (L : Line h l) : OrderL h (l.map fun (t : Nat) => (t : Int)) l := ⟨rfl, L.nd, L.cm⟩
theorem OrderL.uniq {ord : List Int} {a b : List Nat} (H : OrderL h ord a) (K : OrderL h ord b) : a = b := by
  have h1 := H.1.symm.trans K.1
  have : (a.map fun (t : Nat) => (t : Int)).map Int.toNat = (b.map fun (t : Nat) => (t : Int)).map Int.toNat := by rw [h1]
  simpa [List.map_map, Function.comp_def] using this
theorem law_end (H : Fine h) (L : Line h l) {ps : List Int} (P : PhenL h 8 ps) {l' : List Nat} (K : OrderL h (l.map fun (t : Nat) => (t : Int)) l') {b : Bool} (hb : b = true ↔ ReplayOK h l') (hn : ¬ ∃ x ∈ ps, (2 : Int) ≤ x ∧ x ≤ 3) : b = true := by
  have := K.uniq L.ord
  subst this
  exact hb.2 (line_replays H L (not23 P hn).1 (not23 P hn).2)
theorem Line.inH (L : Line h l) {i t : Nat} (hi : l[i]? = some t) : t < h.length := by
  have := (L.cm t).1 (List.mem_of_getElem? hi)
  obtain ⟨x, hx, _⟩ := com_iff.1 this
  exact (List.getElem?_eq_some_iff.1 hx).1
def placeN (l : List Nat) (n : Nat) (t : Nat) : Int := if t ∈ l.take n then (l.idxOf t : Nat) else 0
theorem placeN_succ (hl : l.Nodup) {n t : Nat} (ht : l[n]? = some t) (y : Nat) : placeN l (n + 1) y = if y = t then (n : Int) else placeN l n y := by
  have hn := (List.getElem?_eq_some_iff.1 ht).1
  have hgt := (List.getElem?_eq_some_iff.1 ht).2
  unfold placeN
  rw [List.take_add_one, ht]
  by_cases hy : y = t
  · subst hy
    rw [if_pos rfl, if_pos (by simp), ← hgt, hl.idxOf_getElem]
  · rw [if_neg hy]
    have : y ∈ l.take n ++ (some t).toList ↔ y ∈ l.take n := by simp [hy]
    by_cases hm : y ∈ l.take n
    · rw [if_pos hm, if_pos (this.2 hm)]
    · rw [if_neg hm, if_neg (fun h => hm (this.1 h))]
theorem placeN_all (hl : l.Nodup) {n t : Nat} (ht : l[n]? = some t) : placeN l l.length t = n := by
  unfold placeN
  rw [List.take_length, if_pos (List.mem_of_getElem? ht), ← (List.getElem?_eq_some_iff.1 ht).2, hl.idxOf_getElem]
theorem Line.edge (L : Line h l) {e : Edge} (he : e ∈ edgesOf h) : ∃ a b : Nat, e.frm = a ∧ e.to = b ∧ a < h.length ∧ b < h.length ∧ placeN l l.length a < placeN l l.length b := by
  obtain ⟨i, j, a, b, h1, h2, h3, h4, h5⟩ := L.rise _ he
  exact ⟨a, b, h4, h5, L.inH h2, L.inH h3, by rw [placeN_all L.nd h2, placeN_all L.nd h3]; omega⟩
end Go.Proofs.YtooigfkjdemnlaaGreatDoor
