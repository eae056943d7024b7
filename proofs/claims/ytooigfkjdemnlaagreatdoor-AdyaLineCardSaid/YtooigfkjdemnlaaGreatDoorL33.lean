/- Own texts of this claim, joined in build order: N3, D8, V1. -/
import Derived.Test.YtooigfkjdemnlaaGreatDoorL31
import Derived.Test.YtooigfkjdemnlaaGreatDoorL30
import Derived.Deep.QuietTactic
import Derived.Test.YtooigfkjdemnlaaGreatDoorL27
set_option linter.all false
namespace Go.Proofs.YtooigfkjdemnlaaGreatDoor

theorem kle_key : ∀ i, i < 5 → ∀ j, j < 5 → kle (keyB i) (keyB j) = decide (i ≤ j) := by decide +kernel
theorem klt_key : ∀ i, i < 5 → ∀ j, j < 5 → klt (keyB i) (keyB j) = decide (i < j) := by decide +kernel
theorem klt_hi : ∀ i, i < 5 → ∀ j, j < 5 → klt (keyB j) (hiB i) = decide (j ≤ i) := by decide +kernel
theorem hi_some : ∀ i, i < 5 → (hiB i).toList.isEmpty = false := by decide +kernel
theorem emB_none : emB.toList.isEmpty = true := by decide +kernel
theorem mem_seenL {s : KSt} {k : Nat} {v : HVer} : ∀ {m : Nat}, v ∈ seenL s k m ↔ ∃ j, j < m ∧ s (keyB (k + j)) = some v
  | 0 => by simp [seenL]
  | m + 1 => by
    have ih := mem_seenL (s := s) (k := k) (v := v) (m := m)
    unfold seenL
    cases hs : s (keyB (k + m)) with
    | none =>
      simp only
      rw [ih]
      constructor
      · rintro ⟨j, h1, h2⟩; exact ⟨j, by omega, h2⟩
      · rintro ⟨j, h1, h2⟩
        by_cases e : j = m
        · subst e; rw [hs] at h2; cases h2
        · exact ⟨j, by omega, h2⟩
    | some u =>
      simp only
      rw [List.mem_append, ih]
      constructor
      · rintro (⟨j, h1, h2⟩ | h1)
        · exact ⟨j, by omega, h2⟩
        · simp at h1; subst h1; exact ⟨m, by omega, hs⟩
      · rintro ⟨j, h1, h2⟩
        by_cases e : j = m
        · subst e; rw [hs] at h2; cases h2; exact .inr (by simp)
        · exact .inl ⟨j, by omega, h2⟩
theorem seenL_len (s : KSt) (k : Nat) : ∀ m, (seenL s k m).length ≤ m
  | 0 => Nat.le_refl _
  | m + 1 => by
    have := seenL_len s k m
    unfold seenL
    split
    · simp; omega
    · omega
theorem seenL_rise {s : KSt} {k : Nat} (hs : ∀ j v, j < 5 → s (keyB j) = some v → v.key = keyB j) : ∀ m, k + m ≤ 5 → (seenL s k m).Pairwise (fun a b => klt a.key b.key = true)
  | 0, _ => List.Pairwise.nil
  | m + 1, hm => by
    have ih := seenL_rise (k := k) hs m (by omega)
    unfold seenL
    cases hv : s (keyB (k + m)) with
    | none => exact ih
    | some u =>
      simp only
      refine List.pairwise_append.2 ⟨ih, by simp, fun a ha b hb => ?_⟩
      obtain ⟨j, h1, h2⟩ := mem_seenL.1 ha
      simp at hb
      subst hb
      rw [hs (k + j) a (by omega) h2, hs (k + m) b (by omega) hv, klt_key _ (by omega) _ (by omega)]
      simp
      omega
theorem actOp_cases (t : Nat) (s : KSt) (a : ActL) :
    (∃ k v, k < 5 ∧ s (keyB k) = some v ∧ actOp t s a = ⟨1, v, false, vB, emB, [], 2 * t + 1⟩) ∨
    (∃ k, k < 5 ∧ s (keyB k) = none ∧ actOp t s a = ⟨3, ⟨keyB k, 0, 0⟩, false, emB, hiB k, [], 2 * t + 1⟩) ∨
    (∃ k d, k < 5 ∧ actOp t s a = ⟨2, ⟨keyB k, 0, 0⟩, d, vB, emB, [], 0⟩) ∨
    (∃ k, k < 5 ∧ actOp t s a = ⟨3, ⟨keyB k, 0, 0⟩, false, emB, emB, seenL s k (5 - k), 2 * t + 1⟩) := by
  have hk := keyOf_lt a
  unfold actOp
  by_cases h0 : kindOf a = 0
  · rw [if_pos h0]
    cases h1 : s (keyB (keyOf a)) with
    | none => exact .inr (.inl ⟨_, hk, h1, rfl⟩)
    | some v => exact .inl ⟨_, v, hk, h1, rfl⟩
  · rw [if_neg h0]
    by_cases h3 : kindOf a = 3
    · rw [if_pos h3]; exact .inr (.inr (.inr ⟨_, hk, rfl⟩))
    · rw [if_neg h3]; exact .inr (.inr (.inl ⟨_, _, hk, rfl⟩))
section
variable {h : List HTx} {base : Nat → KSt} {st : Nat → Nat → KSt}
theorem endUsed_no {f : Int} : ∀ {n : Nat}, (∀ u y, u < n → h[u]? = some y → y.fin ≠ f) → endUsed h f n = false
  | 0, _ => rfl
  | n + 1, hh => by
    simp only [endUsed]
    rw [endUsed_no (fun u y hu => hh u y (by omega))]
    cases hy : h[n]? with
    | none => simp
    | some y =>
      have := hh n y (by omega) hy
      simp [this]
theorem TH.shaped (T : TH h base st) {t : Nat} {x : HTx} (hx : h[t]? = some x) : Go.Proofs.YtooigfkjdemnlaaGreatDoor.shaped h t x = true := by
  have htl := (List.getElem?_eq_some_iff.1 hx).1
  have hn := T.n
  have hf := T.fin hx
  have he : endUsed h x.fin t = false := endUsed_no (fun u y hu hy e => by
    rw [T.fin hy, hf] at e
    omega)
  unfold Go.Proofs.YtooigfkjdemnlaaGreatDoor.shaped
  rw [he, (T.hdr t x hx).1]
  have h1 : shaped1 (hdrT t x.ops) = true := by
    unfold shaped1 hdrT imax2
    simp only [Bool.and_eq_true, decide_eq_true_eq]
    refine ⟨⟨⟨⟨by omega, by omega⟩, ?_⟩, by omega⟩, by omega⟩
    split <;> omega
  have h2 : shaped2 (hdrT t x.ops) = true := by
    unfold shaped2 hdrT imax4 imin4 imax2
    simp only [Bool.and_eq_true, decide_eq_true_eq]
    refine ⟨?_, ?_⟩
    · (repeat' split) <;> omega
    · (repeat' split) <;> omega
  have h3 : shaped3 (hdrT t x.ops) = true := by
    unfold shaped3 hdrT
    simp only [Bool.and_eq_true, Bool.or_eq_true, decide_eq_true_eq, beq_iff_eq]
    omega
  rw [h1, h2, h3]
  simp
theorem cmpS_of {a b : ByteArray} (hk : klt a b = true) : cmpS a b = -1 := by unfold cmpS; rw [if_pos hk]
theorem seenOk_of {t : Nat} {x : HTx} {i : Nat} {o : HOpr} (h1 : ∀ v ∈ o.seen, (tellable h t x i v).isSome = true ∧ covers o v.key = true) (h2 : o.seen.Pairwise (fun a b => klt a.key b.key = true)) : ∀ n, seenOk h t x i o n = true
  | 0 => rfl
  | n + 1 => by
    simp only [seenOk, seenOk_of h1 h2 n, Bool.true_and]
    cases hv : o.seen[n]? with
    | none => rfl
    | some v =>
      obtain ⟨e1, e2⟩ := h1 v (List.mem_of_getElem? hv)
      simp only [e1, e2, Bool.true_and]
      cases n with
      | zero => rfl
      | succ m =>
        simp only [riseOk]
        cases hu : o.seen[m]? with
        | none => rfl
        | some u =>
          have := List.pairwise_iff_getElem.1 h2 m (m + 1) (List.getElem?_eq_some_iff.1 hu).1 (List.getElem?_eq_some_iff.1 hv).1 (by omega)
          rw [(List.getElem?_eq_some_iff.1 hu).2, (List.getElem?_eq_some_iff.1 hv).2] at this
          simp [cmpS_of this]
theorem TH.op_ok (T : TH h base st) {t : Nat} {x : HTx} (hx : h[t]? = some x) {i : Nat} {o : HOpr} (ho : x.ops[i]? = some o) : operation h t x i o = 0 := by
  obtain ⟨a, rfl⟩ := T.op t x hx i o ho
  have hi : i ≤ x.ops.length := by have := (List.getElem?_eq_some_iff.1 ho).1; omega
  have htl := (List.getElem?_eq_some_iff.1 hx).1
  have hn := T.n
  have hb := T.bgn hx
  have hf := T.fin hx
  have tk : ∀ j v, j < 5 → st t i (keyB j) = some v → v.key = keyB j := fun j v _ hv => (T.tells hx hi hv).1
  have hT : ∀ at_ : Int, at_ = 2 * t + 1 → ¬ (4611686018427387903 < at_ ∨ (Go.Proofs.YtooigfkjdemnlaaGreatDoor.com h t = true ∧ (at_ < x.bgn ∨ x.fin < at_))) := fun at_ e => by rw [hb, hf]; omega
  rcases actOp_cases t (st t i) a with ⟨k, v, hk, hv, e⟩ | ⟨k, hk, hv, e⟩ | ⟨k, d, hk, e⟩ | ⟨k, hk, e⟩
  · rw [e]
    obtain ⟨h1, w, h2, h3⟩ := T.tells hx hi hv
    unfold operation
    rw [if_neg (show ¬ (1 : Int) = 2 by decide), if_neg (by simp), if_neg (hT _ rfl), if_pos (by rfl)]
    simp only [h2, h3]
    simp
  · rw [e]
    unfold operation
    rw [if_neg (show ¬ (3 : Int) = 2 by decide), if_neg (by simp), if_neg (hT _ rfl), if_neg (show ¬ (3 : Int) = 1 by decide), if_neg (show ¬ 256 < ([] : List HVer).length by simp)]
    rw [if_neg (by simp [seenOk]), if_neg]
    rintro ⟨_, hc⟩
    have : complete h t x i ⟨3, ⟨keyB k, 0, 0⟩, false, emB, hiB k, [], 2 * t + 1⟩ = true := by
      unfold complete
      rw [List.all_eq_true]
      intro k' hk'
      obtain ⟨h1, h2⟩ := List.mem_filter.1 hk'
      obtain ⟨j, hj, rfl⟩ := T.keys h1
      have hjk : j = k := by
        simp only [covers, Bool.and_eq_true, Bool.or_eq_true, hi_some k hk, kle_key k hk j hj, klt_hi k hk j hj, decide_eq_true_eq] at h2
        have h3 := h2.2.1
        have h4 := h2.2.2
        simp at h4
        omega
      subst hjk
      exact T.silent hx hi hv rfl
    rw [this] at hc
    cases hc
  · rw [e]
    unfold operation
    rw [if_pos rfl]
  · rw [e]
    have hlen := seenL_len (st t i) k (5 - k)
    unfold operation
    rw [if_neg (show ¬ (3 : Int) = 2 by decide), if_neg (by simp), if_neg (hT _ rfl), if_neg (show ¬ (3 : Int) = 1 by decide), if_neg (show ¬ 256 < (seenL (st t i) k (5 - k)).length by omega)]
    have hcov : ∀ j, j < 5 → covers ⟨3, ⟨keyB k, 0, 0⟩, false, emB, emB, seenL (st t i) k (5 - k), 2 * t + 1⟩ (keyB j) = decide (k ≤ j) := fun j hj => by
      unfold covers
      simp only [emB_none, Bool.true_or, Bool.and_true]
      exact kle_key k hk j hj
    rw [seenOk_of (fun v hv => ?_) (seenL_rise tk _ (by omega)), if_neg (by simp), if_neg]
    · rintro ⟨_, hc⟩
      have : complete h t x i ⟨3, ⟨keyB k, 0, 0⟩, false, emB, emB, seenL (st t i) k (5 - k), 2 * t + 1⟩ = true := by
        unfold complete
        rw [List.all_eq_true]
        intro k' hk'
        obtain ⟨h1, h2⟩ := List.mem_filter.1 hk'
        obtain ⟨j, hj, rfl⟩ := T.keys h1
        rw [hcov j hj, Bool.and_eq_true, decide_eq_true_eq] at h2
        have h3 : tellsAt ⟨3, ⟨keyB k, 0, 0⟩, false, emB, emB, seenL (st t i) k (5 - k), 2 * t + 1⟩ (keyB j) = none := by simpa using h2.1
        have h4 := tellsAt_none.1 h3
        cases hs : st t i (keyB j) with
        | none => exact T.silent hx hi hs rfl
        | some v => exact absurd (tk j v hj hs) (h4 v (mem_seenL.2 ⟨j - k, by omega, by rw [show k + (j - k) = j by omega]; exact hs⟩))
      rw [this] at hc
      cases hc
    · obtain ⟨j, h1, h2⟩ := mem_seenL.1 hv
      obtain ⟨h3, w, h4, _⟩ := T.tells hx hi h2
      rw [h4, h3]
      exact ⟨rfl, by rw [hcov _ (by omega)]; simp⟩
theorem TH.fine (T : TH h base st) : Fine h :=
  ⟨by have := T.n; omega, fun t x hx => by have := (T.hdr t x hx).2; omega, fun t x hx => T.shaped hx, fun t x hx j o ho => T.op_ok hx ho⟩
theorem opsFault_ok {t : Nat} {x : HTx} (ho : ∀ (j : Nat) (o : HOpr), x.ops[j]? = some o → operation h t x j o = 0) : ∀ n, opsFault h t x n = none
  | 0 => rfl
  | n + 1 => by
    simp only [opsFault, opsFault_ok ho n]
    cases hx : x.ops[n]? with
    | none => rfl
    | some o => simp only; rw [if_pos (ho n o hx)]
theorem checkFault_ok (H : Fine h) : ∀ n, checkFault h n = none
  | 0 => rfl
  | n + 1 => by
    simp only [checkFault, checkFault_ok H n]
    cases hx : h[n]? with
    | none => rfl
    | some x =>
      simp only
      have : txFault h n x = none := by
        unfold txFault
        rw [if_neg (by have := H.ops n x hx; omega), if_neg (by rw [H.shaped n x hx]; simp)]
        exact opsFault_ok (H.op n x hx) _
      rw [this]
      rfl
theorem Fine.noFault (H : Fine h) : histFault h = none := by
  unfold histFault
  rw [if_neg (by have := H.n; omega)]
  exact checkFault_ok H _
end
end Go.Proofs.YtooigfkjdemnlaaGreatDoor

namespace Go.Proofs.YtooigfkjdemnlaaGreatDoor
set_option maxRecDepth 100000
open Go.RowKit Go.Lib Go.Sort Go.Shelf Xw

set_option maxHeartbeats 8000000 in
theorem starts_ {w : World} {B lp gb mb0 : Nat} {ev : Value} {h : List HTx} {es : List Edge} (hl : Led w B lp h) (hn : h.length ≤ 256) (hg : w.heap[gb]? = some (.cells #[.pointer (some ⟨lp, 0, none⟩), ev, .map (some mb0)] 95)) (hgB : gb < B)
    (hm : MapOfK kInt.enc w B mb0 4 edgeC (fun t => es.filter fun e => decide (e.frm = t))) (hes : es.length < 60000000000) :
    Calls Tryz.prog 66 #[.pointer (some ⟨gb, 0, none⟩)] w fun e w' => ∃ gs mb, e = .returned (.pointer (some ⟨gs, 0, none⟩)) ∧ Below w.heap.size w w' ∧ gs < w'.heap.size ∧ w'.heap[gs]? = some (.cells #[.pointer (some ⟨lp, 0, none⟩), .slice none 0 0, .map (some mb)] 95) ∧ MapOfK kInt.enc w' w'.heap.size mb 4 edgeC (fun t => (starts h es h.length).filter fun e => decide (e.frm = t)) := by
  have hmk : ∀ (t : TypeId) (w : World), (Instr.makeMap t none).run Tryz.prog w = .ok (.map (some w.heap.size)) (w.alloc (.map #[] 0)) := fun _ _ => rfl
  obtain ⟨tv, wv, ob, kv, ty, l1, l2, l3, l4, l5⟩ := hl.ex
  have q0 := (cells_of l1).1 0
  have u0 := (cells_of hg).1 0
  have u2 := (cells_of hg).1 2
  have hlp := hl.lt
  have hle := hl.le
  have hlpw : lp < w.heap.size := by omega
  have hgw : gb < w.heap.size := by omega
  obtain ⟨TA, tc, rfl, ht1, ht2⟩ := Rows.shape l2
  simp only [maxLen] at ht2
  obtain ⟨W0, hW0⟩ : ∃ W0, W0 = (w.alloc (.map #[] 0)).alloc (.cells #[.pointer (some ⟨lp, 0, none⟩), .slice none 0 0, .map (some w.heap.size)] 95) := ⟨_, rfl⟩
  have hz0 : W0.heap.size = w.heap.size + 2 := by rw [hW0]; simp
  have hB0 : Below w.heap.size w W0 := by rw [hW0]; exact bel2 _ _ _
  have hm0 : KMap kInt.enc W0 w.heap.size [] := by rw [hW0]; exact (KMap.made _ w).keep (heap_alloc_lt (by simp))
  have hg0 : W0.heap[w.heap.size + 1]? = some (.cells #[.pointer (some ⟨lp, 0, none⟩), .slice none 0 0, .map (some w.heap.size)] 95) := by rw [hW0]; exact top_al _ _ (by simp)
  have p0 := (World.cell?_of_block (a := ⟨gb, 0, none⟩) (hB0.block gb hgw)).trans u0
  have p1 := (World.cell?_of_block (a := ⟨lp, 0, none⟩) (hB0.block lp hlpw)).trans q0
  have i1 : gb < W0.heap.size := by omega
  have i2 : lp < W0.heap.size := by omega
  have HW0 := Lib.hid hW0
  have HG0 := Lib.hid hg0
  have HM0 := Lib.hid hm0
  clear hW0 hg0 hm0
  go_enter Tryz.func66, Tryz.ntmps66
  go_upto_region 2 with (fail)
  rw [← HW0.out]
  go_wp2
  go_loopw [4, 5, 22] (fun _ _ i' wr => ∃ (t : Nat) (L : List (Int × Value)), t ≤ h.length ∧ i' = .int .i64 t ∧ OwnN kInt.enc 66 4 edgeC wr w.heap.size (fS h es t []) (fun j => j = w.heap.size ∨ (w.heap.size + 2 ≤ j ∧ j < wr.heap.size)) L ∧ wr.heap[w.heap.size + 1]? = some (.cells #[.pointer (some ⟨lp, 0, none⟩), .slice none 0 0, .map (some w.heap.size)] 95) ∧ Below w.heap.size w wr) (fun _ _ i' _ => h.length - (intOf i').toNat)
  case atStart =>
    refine ⟨0, [], by omega, rfl, ⟨.inl rfl, HM0.out, fun k hk => absurd (fS_zero h es k) hk, fun _ _ => False, fun k => ?_, fun _ _ f => f.elim, fun _ _ _ f => f.elim⟩, HG0.out, hB0⟩
    rw [fS_zero h es k]
    simpa [kget] using Sl.nil _ _ _ _
  case round =>
    obtain ⟨t, L, ht, rfl, hO, hgs, hB⟩ := hrel
    have hz := hB.size
    have hgsl := lt_of_heap hgs
    have hlow : ∀ j, j < B → wr.heap[j]? = w.heap[j]? := fun j hj => hB.block j (by omega)
    by_cases hlt : t < h.length
    · have s2 := (cells_of hgs).1 2
      have g2 := (World.cell?_of_block (a := ⟨gb, 2, none⟩) (hlow gb hgB)).trans u2
      have g0 := (World.cell?_of_block (a := ⟨gb, 0, none⟩) (hlow gb hgB)).trans u0
      have l0 := (World.cell?_of_block (a := ⟨lp, 0, none⟩) (hlow lp hlp)).trans q0
      have j1 : gb < wr.heap.size := by omega
      have j2 : lp < wr.heap.size := by omega
      have hm0B : mb0 < B := hm.1
      obtain ⟨Lo, hLo, hlk⟩ := (hm.keep hlow).look
      have hlkt := hlk t
      obtain ⟨V, hV⟩ : ∃ V, V = (kget Lo t).getD (.slice none 0 0) := ⟨_, rfl⟩
      rw [← hV] at hlkt
      obtain ⟨fl, hfl⟩ : ∃ fl, fl = es.filter fun (e : Edge) => decide (e.frm = (t : Int)) := ⟨_, rfl⟩
      rw [← hfl] at hlkt
      have hfll : fl.length ≤ es.length := by rw [hfl]; exact List.length_filter_le _ _
      have lk : ∀ W : World, W.heap[mb0]? = wr.heap[mb0]? → (Instr.lookup 93 (.map (some mb0)) (.int .i64 t) false).run Tryz.prog W = .ok V W := fun W e' => by
        have := run_lookup_kmap kInt Tryz.underlying93 (zero_slice_edge W) (hLo.keep e') t false
        rw [hV]
        exact this
      have lk0 := lk wr.drew rfl
      have hkm := hO.2.1
      have hcl := Lib.hid (clone_ (w := wr.drew) (hlkt.flat (fun _ _ => rfl)) (show B ≤ wr.heap.size by omega) (by omega))
      have LK := Lib.hid lk
      have HV := Lib.hid hV
      have HFL := Lib.hid hfl
      have HO := Lib.hid hO
      have HGS := Lib.hid hgs
      obtain ⟨F, hSl0, hF0, hstep⟩ := hO.at_ (t : Int)
      have HST := Lib.hid (And.intro hF0 hstep)
      clear lk hV hfl hO hSl0 hF0 hstep hlk hLo hlkt
      go_upto_region 5 with (fail)
      go_region_held3 (fun w' => w'.cell? ⟨w.heap.size + 1, 2, none⟩ = some (.map (some w.heap.size)) ∧ w'.cell? ⟨gb, 2, none⟩ = some (.map (some mb0)) ∧ (Instr.lookup 93 (.map (some mb0)) (.int .i64 t) false).run Tryz.prog w' = .ok V w') (first | exact ⟨s2, g2, lk0⟩ | exact ⟨r1, r2, r3⟩ | exact ⟨t1, t2, t3⟩ | go_keep)
        (first
          | (go_at_call 106; refine hcl.out.mono ?_
             rintro e w2 ⟨v2, F2, rfl, hs2, hF2, hB2'⟩
             have hB2 : Below wr.heap.size wr w2 := (Below.refl _ _).drew.trans hB2'
             have hz2 := hB2.size
             obtain ⟨w6, hrun6, hk6, hc6⟩ := run_store_kmap kInt Tryz.underlying93 (hkm.below hB2 (by omega)) t v2
             have hrun6' : (Instr.mapUpdate 93 (.map (some w.heap.size)) (.int .i64 t) v2).run Tryz.prog w2 = .ok () w6 := hrun6
             have r1 := (World.cell?_of_block (a := ⟨w.heap.size + 1, 2, none⟩) (hB2.block _ hgsl)).trans s2
             have r2 := (World.cell?_of_block (a := ⟨gb, 2, none⟩) (hB2.block gb (by omega))).trans g2
             have r3 := LK.out w2 (hB2.block mb0 (by omega))
             have t1 := (World.cell?_of_block (a := ⟨w.heap.size + 1, 2, none⟩) (hc6.block (w.heap.size + 1) (by omega) (by omega))).trans r1
             have t2 := (World.cell?_of_block (a := ⟨gb, 2, none⟩) (hc6.block gb (by omega) (by omega))).trans r2
             have t3 := LK.out w6 ((hc6.block mb0 (by omega) (by omega)).trans (hB2.block mb0 (by omega)))
             have HS2 := Lib.hid (And.intro hs2 (And.intro hF2 (And.intro hc6 hk6)))
             clear hrun6 hs2 hF2 hc6 hk6))
      obtain ⟨hs2, hF2, hc6, hk6⟩ := HS2.out
      have hz6 := hc6.size
      have hcw2 : Chg F wr w2 := (Chg.of_below hB2).mono (fun j hj h => absurd h (by omega))
      have hF2' : ∀ j, F2 j → F j ∨ (wr.heap.size ≤ j ∧ j < w2.heap.size) := fun j hj => .inr (hF2 j hj)
      have hO6 := HST.out.2 w2 w6 v2 fl F2 hs2 hF2' hcw2 hk6 hc6 (fun j hj => by omega)
      rw [fS_set] at hO6
      have hB6 : Below w.heap.size w w6 := (hB.trans (hB2.mono (by omega))).trans (hc6.below (fun j hj => by omega) (by omega))
      have hgs6 := (hc6.block (w.heap.size + 1) (by omega) (by omega)).trans ((hB2.block (w.heap.size + 1) hgsl).trans HGS.out)
      have hO6' : OwnN kInt.enc 66 4 edgeC w6 w.heap.size (fS h es t (fl ++ startsN h t 0)) (fun j => j = w.heap.size ∨ (w.heap.size + 2 ≤ j ∧ j < w6.heap.size)) (kset L (t : Int) v2) := by
        rw [show fl ++ startsN h t 0 = fl by simp [startsN]]
        exact hO6.mono (fun j hj => by
          rcases hj with (h | h) | h
          · exact .inl h
          · exact .inr (by omega)
          · exact .inr (by omega))
      have HO6 := Lib.hid hO6'
      have HGS6 := Lib.hid hgs6
      have hl6 : ∀ j, j < B → w6.heap[j]? = w.heap[j]? := fun j hj => hB6.block j (by omega)
      have g06 := (World.cell?_of_block (a := ⟨gb, 0, none⟩) (hl6 gb hgB)).trans u0
      have l06 := (World.cell?_of_block (a := ⟨lp, 0, none⟩) (hl6 lp hlp)).trans q0
      have k1 : gb < w6.heap.size := by omega
      have k2 : lp < w6.heap.size := by omega
      obtain ⟨x, hx⟩ : ∃ x, h[t]? = some x := ⟨_, List.getElem?_eq_getElem hlt⟩
      have HX := Lib.hid hx
      have HLED := Lib.hid hl
      have HL2 := Lib.hid l2
      clear hs2 hF2 hc6 hk6 hcw2 hF2' hO6 hO6' hgs6 r1 r2 r3 t1 t2 t3 hx hl l2 lk0 hrun6'
      go_wp2
      go_loopw [5, 46] (fun _ i' wr => ∃ (u : Nat) (L : List (Int × Value)), u ≤ h.length ∧ i' = .int .i64 u ∧ OwnN kInt.enc 66 4 edgeC wr w.heap.size (fS h es t (fl ++ startsN h t u)) (fun j => j = w.heap.size ∨ (w.heap.size + 2 ≤ j ∧ j < wr.heap.size)) L ∧ wr.heap[w.heap.size + 1]? = some (.cells #[.pointer (some ⟨lp, 0, none⟩), .slice none 0 0, .map (some w.heap.size)] 95) ∧ Below w.heap.size w wr) (fun _ i' _ => h.length - (intOf i').toNat)
      case atStart => exact ⟨0, _, by omega, rfl, HO6.out, HGS6.out, hB6⟩
      case round =>
        obtain ⟨u, L, hu, rfl, hO, hgs, hB⟩ := hrel
        have hz := hB.size
        have hgsl := lt_of_heap hgs
        have hlow : ∀ j, j < B → wr.heap[j]? = w.heap[j]? := fun j hj => hB.block j (by omega)
        by_cases hul : u < h.length
        · obtain ⟨y, hy⟩ : ∃ y, h[u]? = some y := ⟨_, List.getElem?_eq_getElem hul⟩
          have g0 := (World.cell?_of_block (a := ⟨gb, 0, none⟩) (hlow gb hgB)).trans u0
          have l0 := (World.cell?_of_block (a := ⟨lp, 0, none⟩) (hlow lp hlp)).trans q0
          have j1 : gb < wr.heap.size := by omega
          have j2 : lp < wr.heap.size := by omega
          have hlr : Led wr.drew B lp h := (HLED.out.keep hlow (by omega)).drew
          obtain ⟨b3, p3, c3, ov3, he3, hb3, ⟨x0, x1, x2, x3, x4, x5, x6, x7, x8⟩, -⟩ := HistV.get HL2.out HX.out (wr := wr) hlow
          obtain ⟨b4, p4, c4, ov4, he4, hb4, ⟨y0, y1, y2, y3, y4, y5, y6, y7, y8⟩, -⟩ := HistV.get HL2.out hy (wr := wr) hlow
          cases he3
          cases he4
          have j3 : b3 < wr.heap.size := by omega
          have hti : (t : Int) < h.length := by omega
          have hui : (u : Int) < h.length := by omega
          have HY := Lib.hid hy
          have HO := Lib.hid hO
          have HGS := Lib.hid hgs
          clear hy hO hgs
          go_upto_region 9 with (fail)
          have hlq : ∀ n, Led (wr.drewN n) B lp h := fun n => HLED.out.keep hlow (by show w.heap.size ≤ wr.heap.size; omega)
          have HQ := Lib.hid hlq
          clear hlq hlr
          by_cases htu : t = u
          · have hb : ((t : Int) != (u : Int)) = false := by simp [htu]
            have HR : Hid (startB h t u = false) := Lib.hid (by unfold startB; simp [htu])
            clear htu
            refine wp_region_quiet_lit (by kernel_rfl) (by kernel_rfl) ?_
            repeat (with_reducible refine wpQuiet_step ?_; intro K hK; go_simp; first | (with_reducible refine hK _ ?_; clear hK K) | (apply Exists.intro; refine ⟨fun _ => ?_, hK _ ?_⟩; (fail); clear hK K))
            with_reducible refine wpQuiet_nil ?_
            intro _ hw'
            obtain ⟨nq, hw''⟩ := hw'
            subst hw''
            go_wp2
            refine ⟨⟨u + 1, L, by omega, by simp, ?_, HGS.out, below_drewN hB _⟩, by simp [intOf]; omega⟩
            rw [show startsN h t (u + 1) = startsN h t u by rw [startsN, HR.out]; simp]
            exact HO.out.chg ((Chg.refl (fun _ => False) _).drewN _) (fun _ _ f => f)
          · have hb : ((t : Int) != (u : Int)) = true := by simp; omega
            cases hct : com h t with
            | false =>
              have HC := Lib.hid hct
              have HR : Hid (startB h t u = false) := Lib.hid (by unfold startB; simp [hct])
              clear htu hct
              refine wp_region_quiet_lit (by kernel_rfl) (by kernel_rfl) ?_
              repeat (with_reducible refine wpQuiet_step ?_; intro K hK; go_simp; first | (with_reducible refine hK _ ?_; clear hK K) | (apply Exists.intro; refine ⟨fun _ => ?_, hK _ ?_⟩; (go_at_call 20; exact Calls.quiet_of_same ((committed_ (HQ.out _) t x HX.out).mono (by rw [HC.out]; rintro e w' ⟨rfl, rfl⟩; exact ⟨rfl, rfl⟩))); clear hK K))
              with_reducible refine wpQuiet_nil ?_
              intro _ hw'
              obtain ⟨nq, hw''⟩ := hw'
              subst hw''
              go_wp2
              refine ⟨⟨u + 1, L, by omega, by simp, ?_, HGS.out, below_drewN hB _⟩, by simp [intOf]; omega⟩
              rw [show startsN h t (u + 1) = startsN h t u by rw [startsN, HR.out]; simp]
              exact HO.out.chg ((Chg.refl (fun _ => False) _).drewN _) (fun _ _ f => f)
            | true =>
              have HC := Lib.hid hct
              cases hcu : com h u with
              | false =>
                have HC2 := Lib.hid hcu
                have HR : Hid (startB h t u = false) := Lib.hid (by unfold startB; simp [hcu])
                clear htu hct hcu
                refine wp_region_quiet_lit (by kernel_rfl) (by kernel_rfl) ?_
                repeat (with_reducible refine wpQuiet_step ?_; intro K hK; go_simp; first | (with_reducible refine hK _ ?_; clear hK K) | (apply Exists.intro; refine ⟨fun _ => ?_, hK _ ?_⟩; (go_at_call 20; first
                       | exact Calls.quiet_of_same ((committed_ (HQ.out _) u y HY.out).mono (by rw [HC2.out]; rintro e w' ⟨rfl, rfl⟩; exact ⟨rfl, rfl⟩))
                       | exact Calls.quiet_of_same ((committed_ (HQ.out _) t x HX.out).mono (by rw [HC.out]; rintro e w' ⟨rfl, rfl⟩; exact ⟨rfl, rfl⟩))); clear hK K))
                with_reducible refine wpQuiet_nil ?_
                intro _ hw'
                obtain ⟨nq, hw''⟩ := hw'
                subst hw''
                go_wp2
                refine ⟨⟨u + 1, L, by omega, by simp, ?_, HGS.out, below_drewN hB _⟩, by simp [intOf]; omega⟩
                rw [show startsN h t (u + 1) = startsN h t u by rw [startsN, HR.out]; simp]
                exact HO.out.chg ((Chg.refl (fun _ => False) _).drewN _) (fun _ _ f => f)
              | true =>
                have HC2 := Lib.hid hcu
                by_cases hle2 : x.fin ≤ y.bgn
                · have hst : startB h t u = true := by unfold startB; simp [hcu, hct, htu, HX.out, HY.out, hle2]
                  have HST2 := Lib.hid hst
                  clear htu hct hcu hst
                  refine wp_region_quiet_lit (by kernel_rfl) (by kernel_rfl) ?_
                  repeat (with_reducible refine wpQuiet_step ?_; intro K hK; go_simp; first | (with_reducible refine hK _ ?_; clear hK K) | (apply Exists.intro; refine ⟨fun _ => ?_, hK _ ?_⟩; (go_at_call 20; first
                       | exact Calls.quiet_of_same ((committed_ (HQ.out _) u y HY.out).mono (by rw [HC2.out]; rintro e w' ⟨rfl, rfl⟩; exact ⟨rfl, rfl⟩))
                       | exact Calls.quiet_of_same ((committed_ (HQ.out _) t x HX.out).mono (by rw [HC.out]; rintro e w' ⟨rfl, rfl⟩; exact ⟨rfl, rfl⟩))); clear hK K))
                  with_reducible refine wpQuiet_nil ?_
                  intro _ hw'
                  obtain ⟨nq, hw''⟩ := hw'
                  subst hw''
                  obtain ⟨wc, hwc⟩ : ∃ wc, wc = wr.drewN nq := ⟨_, rfl⟩
                  rw [← hwc]
                  have hc8 : Chg (fun _ => False) wr wc := by rw [hwc]; exact (Chg.refl _ _).drewN _
                  have hz8 : wc.heap.size = wr.heap.size := by rw [hwc]; rfl
                  have hB8 : Below w.heap.size w wc := by rw [hwc]; exact below_drewN hB _
                  have hO8 := HO.out.chg hc8 (fun _ _ f => f)
                  have hg8 := (hc8.block (w.heap.size + 1) hgsl (fun f => f)).trans HGS.out
                  have HG8 := Lib.hid hg8
                  clear hwc x0 x1 x2 x3 x4 x5 x6 x7 x8 y0 y1 y2 y3 y4 y5 y6 y7 y8 g0 l0
                  have hsn : startsN h t (u + 1) = startsN h t u ++ [⟨t, u, 0, ⟨#[]⟩⟩] := by rw [startsN, HST2.out]; simp
                  obtain ⟨i0, z0, k0, k1, k2, k3, k4⟩ := info_edge
                  obtain ⟨F, hSl, hF, hstep⟩ := hO8.at_ (t : Int)
                  have hkm := hO8.2.1
                  obtain ⟨V, hV⟩ : ∃ V, V = (kget L (t : Int)).getD (.slice none 0 0) := ⟨_, rfl⟩
                  have hfS : fS h es t (fl ++ startsN h t u) (t : Int) = fl ++ startsN h t u := by unfold fS; rw [if_pos rfl]
                  rw [← hV, hfS] at hSl
                  obtain ⟨xl, hxl⟩ : ∃ xl, xl = fl ++ startsN h t u := ⟨_, rfl⟩
                  rw [← hxl] at hSl
                  have hxll : xl.length < 68719476735 := by
                    have := startsN_len h t u
                    rw [hxl, List.length_append]; omega
                  have g8 := (cells_of hg8).1 2
                  have lk : ∀ W : World, W.heap[w.heap.size]? = wc.heap[w.heap.size]? → (Instr.lookup 93 (.map (some w.heap.size)) (.int .i64 t) false).run Tryz.prog W = .ok V W := fun W e' => by
                    have := run_lookup_kmap kInt Tryz.underlying93 (zero_slice_edge W) (hkm.keep e') (t : Int) false
                    rw [hV]
                    exact this
                  have lk1 := lk wc.drew rfl
                  have lk2 := lk (wc.alloc (.cells #[.int .i64 t, .int .i64 u, .int .i64 0, .string ⟨#[]⟩] 66)).drew (heap_alloc_lt (by omega))
                  have hSlA : Sl (wc.alloc (.cells #[.int .i64 t, .int .i64 u, .int .i64 0, .string ⟨#[]⟩] 66)).drew _ _ _ _ _ _ := hSl.chg (((Chg.refl (fun _ => False) wc).alloc (.cells #[.int .i64 t, .int .i64 u, .int .i64 0, .string ⟨#[]⟩] 66)).drew) (fun _ _ f => f)
                  have hrdA : Reads (wc.alloc (.cells #[.int .i64 t, .int .i64 u, .int .i64 0, .string ⟨#[]⟩] 66)).drew (wc.heap.size + 1) 4 (some ⟨wc.heap.size, 0, none⟩) 1 [.int .i64 t, .int .i64 u, .int .i64 0, .string ⟨#[]⟩] := reads_new wc [.int .i64 t, .int .i64 u, .int .i64 0, .string ⟨#[]⟩] 4 rfl 66
                  rw [hz8] at hrdA
                  have hone : ∀ v ∈ [Value.int .i64 t, .int .i64 u, .int .i64 0, .string ⟨#[]⟩], v.oneCell' = true := by intro v hv; simp at hv; rcases hv with rfl | rfl | rfl | rfl <;> rfl
                  have hmx : xl.length + 1 ≤ maxLen := by simp only [maxLen]; omega
                  have hby : (xl.length + 1) * 40 ≤ 140737488355328 := by omega
                  have hAP := Lib.hid (And.intro hSlA (And.intro hrdA (And.intro hone (And.intro hmx hby))))
                  have HF := Lib.hid hF
                  have HSTEP := Lib.hid hstep
                  have HSN := Lib.hid hsn
                  have HXL := Lib.hid hxl
                  clear hSlA hrdA hone hmx hby hstep hF lk hV hg8 hsn hfS hxl hO8 hSl
                  go_upto_region 10 with (fail)
                  go_region_held3 (fun w' => w'.cell? ⟨w.heap.size + 1, 2, none⟩ = some (.map (some w.heap.size))) (first | exact g8 | exact r9 | exact s9 | go_keep)
                    (first
                      | (rw [if_pos (by rfl)]; refine wp_append_sl _ (.tmp 105) (.tmp 109) 61 rfl 66 i0 z0 4 40 Tryz.underlying61 k0 k1 k2 k3 k4 (by omega) V _ _ F rfl hAP.out.1 _ _ 1 1 [.int .i64 t, .int .i64 u, .int .i64 0, .string ⟨#[]⟩] rfl hAP.out.2.1 hAP.out.2.2.1 hAP.out.2.2.2.1 hAP.out.2.2.2.2 ?_
                         intro v2 w5 F5 hs5 hc5 hf5 hnz5
                         have hc58 : Chg F wc w5 := ((((Chg.refl (fun _ => False) wc).alloc _).drew).mono (G := F) (fun _ _ h => h.elim)).trans hc5 (fun _ _ h => h)
                         have hk5 := hkm.chg hc58 (fun h => (HF.out _ h).2 rfl)
                         obtain ⟨w6, hrun6, hk6, hc6⟩ := run_store_kmap kInt Tryz.underlying93 hk5 (t : Int) v2
                         have hrun6' : (Instr.mapUpdate 93 (.map (some w.heap.size)) (.int .i64 t) v2).run Tryz.prog w5 = .ok () w6 := hrun6
                         have hF8 : ∀ j, F j → j ≠ w.heap.size ∧ w.heap.size + 2 ≤ j ∧ j < wr.heap.size := fun j hj => by
                           obtain ⟨h1, h2⟩ := HF.out j hj
                           rcases h1 with h1 | h1
                           · exact absurd h1 h2
                           · exact ⟨h2, h1⟩
                         have hz58 := hc58.size
                         have eg : w5.heap[w.heap.size + 1]? = wc.heap[w.heap.size + 1]? := hc58.block _ (by omega) (fun h => by have := hF8 _ h; omega)
                         have eg6 : w6.heap[w.heap.size + 1]? = wc.heap[w.heap.size + 1]? := (hc6.block _ (by omega) (by omega)).trans eg
                         have r9 := (World.cell?_of_block (a := ⟨w.heap.size + 1, 2, none⟩) eg).trans g8
                         have s9 := (World.cell?_of_block (a := ⟨w.heap.size + 1, 2, none⟩) eg6).trans g8
                         have HEG6 := Lib.hid eg6
                         clear hrun6 eg eg6))
                  all_goals (
                    go_wp2
                    have hown := HSTEP.out w5 w6 v2 (xl ++ [⟨t, u, 0, ⟨#[]⟩⟩]) F5 (by simpa [edgeC] using hs5) (fun b hb => by
                      rcases hf5 b hb with h | ⟨h, h'⟩
                      · exact .inl h
                      · refine .inr ⟨?_, h'⟩
                        have : wc.heap.size ≤ (wc.alloc (.cells #[.int .i64 t, .int .i64 u, .int .i64 0, .string ⟨#[]⟩] 66)).drew.heap.size := by (show _ ≤ (wc.alloc _).heap.size); rw [World.size_alloc]; omega
                        omega) hc58 hk6 hc6 (fun b hb => by rcases hb with h | h <;> omega)
                    rw [fS_set, HXL.out, List.append_assoc, ← HSN.out] at hown
                    have hz6 := hc6.size
                    refine ⟨⟨u + 1, kset L (t : Int) v2, by omega, by simp, ?_, HEG6.out.trans HG8.out, ?_⟩, by simp [intOf]; omega⟩
                    · exact hown.mono (fun b hb => by
                        rcases hb with (h | h) | h
                        · exact .inl h
                        · exact .inr (by omega)
                        · exact .inr (by omega))
                    · exact hB8.trans (((hc58.below (fun j hj => (Nat.le_trans (by omega) (hF8 j hj).2.1)) (by omega)).trans (hc6.below (fun j hj => by omega) (by omega)))))
                · have HR : Hid (startB h t u = false) := Lib.hid (by unfold startB; simp [hcu, hct, htu, HX.out, HY.out, hle2])
                  clear htu hct hcu
                  refine wp_region_quiet_lit (by kernel_rfl) (by kernel_rfl) ?_
                  repeat (with_reducible refine wpQuiet_step ?_; intro K hK; go_simp; first | (with_reducible refine hK _ ?_; clear hK K) | (apply Exists.intro; refine ⟨fun _ => ?_, hK _ ?_⟩; (go_at_call 20; first
                       | exact Calls.quiet_of_same ((committed_ (HQ.out _) u y HY.out).mono (by rw [HC2.out]; rintro e w' ⟨rfl, rfl⟩; exact ⟨rfl, rfl⟩))
                       | exact Calls.quiet_of_same ((committed_ (HQ.out _) t x HX.out).mono (by rw [HC.out]; rintro e w' ⟨rfl, rfl⟩; exact ⟨rfl, rfl⟩))); clear hK K))
                  with_reducible refine wpQuiet_nil ?_
                  intro _ hw'
                  obtain ⟨nq, hw''⟩ := hw'
                  subst hw''
                  go_wp2
                  refine ⟨⟨u + 1, L, by omega, by simp, ?_, HGS.out, below_drewN hB _⟩, by simp [intOf]; omega⟩
                  rw [show startsN h t (u + 1) = startsN h t u by rw [startsN, HR.out]; simp]
                  exact HO.out.chg ((Chg.refl (fun _ => False) _).drewN _) (fun _ _ f => f)
        · obtain rfl : u = h.length := by omega
          have hfin : fl ++ startsN h t h.length = outS h es t h.length := by unfold outS; rw [← HFL.out]
          rw [hfin, fS_next] at hO
          have HO := Lib.hid hO
          have HGS := Lib.hid hgs
          clear hO hgs
          go_wp2
          exact ⟨⟨t + 1, L, by omega, by simp, HO.out, HGS.out, hB⟩, by simp [intOf]; omega⟩
    · obtain rfl : t = h.length := by omega
      rw [← starts_filter h es h.length] at hO
      have HO := Lib.hid hO
      clear hO
      go_wp2
      go_ret
      exact ⟨_, _, rfl, hB, hgsl, hgs, HO.out.mapOfK (fun _ => rfl) (Nat.le_refl _)⟩
end Go.Proofs.YtooigfkjdemnlaaGreatDoor

namespace Go.Proofs.YtooigfkjdemnlaaGreatDoor
set_option maxRecDepth 100000
open Go.RowKit Go.Lib Go.Sort Go.Shelf Xw

instance : DecidableEq HVer := fun a b => by
  cases a; cases b
  simp only [HVer.mk.injEq]
  infer_instance
def verV (v : HVer) : Value := .agg #[.string v.key, .int .i64 v.frm, .int .i64 v.nth]
theorem ver_eq_dec (a b : HVer) : decide (a = b) = ((a.key.toList == b.key.toList) && ((a.frm == b.frm) && (a.nth == b.nth))) := by
  have hk : (a.key.toList == b.key.toList) = decide (a.key = b.key) := by rw [← beq_toListBytes, bytes_beq]
  rw [hk]
  cases a; cases b
  simp only [HVer.mk.injEq, Bool.decide_and]
  rfl
theorem run_equalV (a b : HVer) (w : World) : (Op.equalIn 10000 56 (.agg #[.string a.key, .int .i64 a.frm, .int .i64 a.nth]) (.agg #[.string b.key, .int .i64 b.frm, .int .i64 b.nth])).run Tryz.prog w = .ok (decide (a = b)) w := by
  rw [ver_eq_dec]
  go_simp
  by_cases h1 : a.key.toList = b.key.toList <;> by_cases h2 : a.frm = b.frm <;> by_cases h3 : a.nth = b.nth <;> simp [h1, h2, h3]
theorem run_eqlV (a b : HVer) (w : World) : (binOp .eql 56 (.agg #[.string a.key, .int .i64 a.frm, .int .i64 a.nth]) (.agg #[.string b.key, .int .i64 b.frm, .int .i64 b.nth])).run Tryz.prog w = .ok (.bool (decide (a = b))) w := by
  rw [run_eql_struct, run_equalV]; rfl
theorem run_neqV (a b : HVer) (w : World) : (binOp .neq 56 (.agg #[.string a.key, .int .i64 a.frm, .int .i64 a.nth]) (.agg #[.string b.key, .int .i64 b.frm, .int .i64 b.nth])).run Tryz.prog w = .ok (.bool (!decide (a = b))) w := by
  rw [run_neq_struct, run_equalV]; rfl
def StM (w : World) (mb : Nat) (st : KSt) (N : Nat) : Prop := ∃ L : List (ByteArray × Value), KMap Value.string w mb L ∧ (∀ k, kget L k = (st k).map verV) ∧ L.length ≤ N
section
variable {w w' : World} {mb N : Nat} {st : KSt}
theorem StM.keep (h : StM w mb st N) (hk : w'.heap[mb]? = w.heap[mb]?) : StM w' mb st N := let ⟨L, h1, h2⟩ := h; ⟨L, h1.keep hk, h2⟩
theorem StM.lt (h : StM w mb st N) : mb < w.heap.size := let ⟨L, h1, h2⟩ := h; h1.lt
theorem StM.made (w : World) : StM (w.alloc (.map #[] 0)) w.heap.size (fun _ => none) 0 := ⟨[], KMap.made _ w, fun x => rfl, by simp⟩
theorem StM.more {N' : Nat} (h : StM w mb st N) (hN : N ≤ N') : StM w mb st N' := let ⟨L, h1, h2, h3⟩ := h; ⟨L, h1, h2, Nat.le_trans h3 hN⟩
theorem zero_ver (w : World) : (zeroValue 56).run Tryz.prog w = .ok (verV hver0) w := by kernel_rfl
theorem StM.look (h : StM w mb st N) (k : ByteArray) (W : World) (e : W.heap[mb]? = w.heap[mb]?) : (Instr.lookup 87 (.map (some mb)) (.string k) false).run Tryz.prog W = .ok (.agg #[.string ((st k).getD hver0).key, .int .i64 ((st k).getD hver0).frm, .int .i64 ((st k).getD hver0).nth]) W := by
  obtain ⟨L, h1, h2, _⟩ := h
  have := run_lookup_kmap kString Tryz.underlying87 (zero_ver W) (h1.keep e) k false
  rw [h2 k] at this
  refine this.trans ?_
  cases st k <;> rfl
theorem StM.store (h : StM w mb st N) (k : ByteArray) (v : HVer) : ∃ w6, (Instr.mapUpdate 87 (.map (some mb)) (.string k) (.agg #[.string v.key, .int .i64 v.frm, .int .i64 v.nth])).run Tryz.prog w = .ok () w6 ∧ StM w6 mb (put st k (some v)) (N + 1) ∧ Chg (fun j => j = mb) w w6 := by
  obtain ⟨L, h1, h2, h3⟩ := h
  obtain ⟨w6, hrun, hk, hc⟩ := run_store_kmap kString Tryz.underlying87 h1 k (verV v)
  refine ⟨w6, hrun, ⟨_, hk, fun y => ?_, ?_⟩, hc⟩
  · rw [kget_kset]
    unfold put
    by_cases hy : y = k
    · rw [if_pos hy, if_pos hy]; rfl
    · rw [if_neg hy, if_neg hy]; exact h2 y
  · unfold kset
    split
    · rw [List.length_map]; omega
    · simp; omega
theorem kget_kdel {K : Type} [DecidableEq K] (L : List (K × Value)) (k k' : K) : kget (kdel L k) k' = if k' = k then none else kget L k' := by
  unfold kget kdel
  rw [List.find?_filter]
  by_cases h : k' = k
  · rw [if_pos h]
    subst h
    rw [List.find?_eq_none.2 (fun x _ => by by_cases hx : x.1 = k' <;> simp [hx])]; rfl
  · rw [if_neg h]
    congr 2
    funext a
    by_cases ha : a.1 = k'
    · have : a.1 ≠ k := fun e => h (ha.symm.trans e)
      simp [ha, h]
    · simp [ha]
theorem StM.delete (h : StM w mb st N) (k : ByteArray) : ∃ w6, (∀ ty, (Builtin.delete_ #[87, 9] ty #[.map (some mb), .string k]).run Tryz.prog w = .ok (.tuple #[]) w6) ∧ StM w6 mb (put st k none) N ∧ Chg (fun j => j = mb) w w6 := by
  obtain ⟨L, h1, h2, h3⟩ := h
  obtain ⟨w6, hrun, hk, hc⟩ := run_delete_kmap kString Tryz.underlying87 h1 k 0 #[87, 9] rfl
  refine ⟨w6, fun ty => ?_, ⟨_, hk, fun y => ?_, ?_⟩, hc⟩
  · exact hrun
  · rw [kget_kdel]
    unfold put
    by_cases hy : y = k
    · rw [if_pos hy, if_pos hy]; rfl
    · rw [if_neg hy, if_neg hy]; exact h2 y
  · exact Nat.le_trans (List.length_filter_le _ _) h3
end
set_option maxHeartbeats 4000000 in
theorem equalVers_ {w : World} {B : Nat} {v1 v2 : Value} {l1 l2 : List HVer} (h1 : Rows w B 3 (Flat verC) v1 l1) (h2 : Rows w B 3 (Flat verC) v2 l2) (hB : B ≤ w.heap.size) :
    Calls Tryz.prog 49 #[v1, v2] w fun e w' => e = .returned (.bool (decide (l1 = l2))) ∧ Below w.heap.size w w' := by
  obtain ⟨A1, c1, rfl, ha1, hb1⟩ := h1.shape
  obtain ⟨A2, c2, rfl, ha2, hb2⟩ := h2.shape
  simp only [maxLen] at hb1 hb2
  by_cases hl : l1.length = l2.length
  · have hlb : ((l1.length : Int) != (l2.length : Int)) = false := by simp [hl]
    have HL := Lib.hid hl
    clear hl
    go_enter Tryz.func49, Tryz.ntmps49
    go_wp2
    go_loopw [5, 13] (fun _ i' wr => ∃ i : Nat, i ≤ l1.length ∧ i' = .int .i64 i ∧ Hid (l1.take i = l2.take i) ∧ Below w.heap.size w wr) (fun _ i' _ => l1.length - (intOf i').toNat)
    case atStart => exact ⟨0, by omega, rfl, Lib.hid (by simp), Below.refl _ _⟩
    case round =>
      obtain ⟨i, hi, rfl, HI, hBw⟩ := hrel
      have hz := hBw.size
      by_cases hlt : i < l1.length
      · obtain ⟨x, hx⟩ : ∃ x, l1[i]? = some x := ⟨_, List.getElem?_eq_getElem hlt⟩
        obtain ⟨y, hy⟩ : ∃ y, l2[i]? = some y := ⟨_, List.getElem?_eq_getElem (by have := HL.out; omega)⟩
        obtain ⟨b1, o1, c1', hq1, hbb1, x0, x1, x2⟩ := h1.get3 hx (wr := wr) (fun j hj => hBw.block j (by omega)) rfl
        cases hq1
        obtain ⟨b2, o2, c2', hq2, hbb2, y0, y1, y2⟩ := h2.get3 hy (wr := wr) (fun j hj => hBw.block j (by omega)) rfl
        cases hq2
        have hi1 : b1 < wr.heap.size := by omega
        have hi2 : b2 < wr.heap.size := by omega
        have hii : (i : Int) < l1.length := by omega
        have hii2 : (i : Int) < l2.length := by have := HL.out; omega
        have HX := Lib.hid hx
        have HY := Lib.hid hy
        clear hx hy
        by_cases hxy : x = y
        · have hqb : ∀ w, (binOp .neq 56 (.agg #[.string x.key, .int .i64 x.frm, .int .i64 x.nth]) (.agg #[.string y.key, .int .i64 y.frm, .int .i64 y.nth])).run Tryz.prog w = .ok (.bool false) w := fun w => by rw [run_neqV]; simp [hxy]
          have HXY := Lib.hid hxy
          clear hxy
          go_upto_region 6 with (fail)
          go_quiet (fail)
          go_wp2
          refine ⟨⟨i + 1, by omega, by simp, Lib.hid ?_, below_drewN hBw nq⟩, by simp [intOf]; omega⟩
          rw [List.take_add_one, List.take_add_one, HI.out, HX.out, HY.out, HXY.out]
        · have hqb : ∀ w, (binOp .neq 56 (.agg #[.string x.key, .int .i64 x.frm, .int .i64 x.nth]) (.agg #[.string y.key, .int .i64 y.frm, .int .i64 y.nth])).run Tryz.prog w = .ok (.bool true) w := fun w => by rw [run_neqV]; simp [hxy]
          have HXY := Lib.hid hxy
          clear hxy
          go_upto_region 6 with (fail)
          go_quiet (fail)
          go_wp2
          go_ret
          refine ⟨ret_bool ?_, below_drewN hBw nq⟩
          have : l1 ≠ l2 := fun e => by
            have h3 := HX.out
            rw [e, HY.out] at h3
            cases h3
            exact HXY.out rfl
          simp [this]
      · obtain rfl : i = l1.length := by omega
        have heq : l1 = l2 := by
          have := HI.out
          rw [List.take_length, HL.out, List.take_length] at this
          exact this
        have HEQ := Lib.hid heq
        clear heq
        go_wp2
        go_ret
        exact ⟨ret_bool (by simp [HEQ.out]), hBw⟩
  · have hlb : ((l1.length : Int) != (l2.length : Int)) = true := by simp; omega
    have hne : l1 ≠ l2 := fun e => hl (by rw [e])
    have HN := Lib.hid hne
    clear hne hl
    go_enter Tryz.func49, Tryz.ntmps49
    go_wp2
    go_ret
    exact ⟨ret_bool (by simp [HN.out]), Below.refl _ _⟩
end Go.Proofs.YtooigfkjdemnlaaGreatDoor
