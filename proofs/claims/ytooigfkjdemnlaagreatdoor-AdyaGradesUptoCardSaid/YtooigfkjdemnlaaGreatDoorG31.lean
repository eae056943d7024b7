/- Own texts of this claim, joined in build order: D7, Pt, Th4, Ps. -/
import Derived.Test.YtooigfkjdemnlaaGreatDoorG30
import Derived.Test.YtooigfkjdemnlaaGreatDoorG28
set_option linter.all false
namespace Go.Proofs.YtooigfkjdemnlaaGreatDoor
set_option maxRecDepth 100000
open Go.RowKit Go.Lib Go.Sort Go.Shelf Xw

set_option maxHeartbeats 4000000 in
theorem indexEdge_ {w : World} {B : Nat} {ev : Value} {es : List Edge} (hr : Rows w B 4 (Flat edgeC) ev es) (hle : B ≤ w.heap.size) (M : FuncId) (caps : Array Value) (m : Edge → Bool)
    (eg : ∀ args w, (callFunc M args).run Tryz.prog w = .ok (.enter M args) w)
    (hm : ∀ (e : Edge) (W : World), e ∈ es → Below w.heap.size w W → Calls Tryz.prog M (#[edgeV e] ++ caps) W fun r W' => r = .returned (.bool (m e)) ∧ Below W.heap.size W W') :
    Calls Tryz.prog 104 #[ev, .func (.func M) #[] caps] w fun r w' => Below w.heap.size w w' ∧ ((r = .returned (.int .i64 (-1)) ∧ ∀ e ∈ es, m e = false) ∨ (∃ (i : Nat) (e : Edge), r = .returned (.int .i64 i) ∧ es[i]? = some e ∧ m e = true)) := by
  obtain ⟨EA, ec, rfl, hc1, hc2⟩ := hr.shape
  simp only [maxLen] at hc2
  have HM := Lib.hid hm
  clear hm
  go_enter Tryz.func104, Tryz.ntmps104
  go_wp2
  go_loopw [5, 8] (fun _ i' wr => ∃ i : Nat, i ≤ es.length ∧ i' = .int .i64 i ∧ Hid (∀ j < i, ∀ e, es[j]? = some e → m e = false) ∧ Below w.heap.size w wr) (fun _ i' _ => es.length - (intOf i').toNat)
  case atStart => exact ⟨0, by omega, rfl, Lib.hid (fun j hj => by omega), Below.refl _ _⟩
  case round =>
    obtain ⟨i, hi, rfl, HI, hB⟩ := hrel
    have hz := hB.size
    by_cases hlt : i < es.length
    · obtain ⟨e, he⟩ : ∃ e, es[i]? = some e := ⟨_, List.getElem?_eq_getElem hlt⟩
      obtain ⟨b, o, c2, hq, hb, p0, p1, p2, p3⟩ := hr.get4 he (wr := wr) (fun j hj => hB.block j (by omega)) rfl
      cases hq
      have hbr : b < wr.heap.size := by omega
      have HC := Lib.hid (HM.out e wr (List.mem_of_getElem? he) hB)
      have HE := Lib.hid he
      clear he
      cases hme : m e with
      | false =>
        have HME := Lib.hid hme
        clear hme
        go_wp2_with (go_at_fn M; refine HC.out.mono ?_; rw [HME.out]; rintro r w9 ⟨rfl, hB9⟩)
        refine ⟨⟨i + 1, by omega, by simp, Lib.hid (fun j hj e' he' => ?_), hB.trans (hB9.mono (by omega))⟩, by simp [intOf]; omega⟩
        by_cases hji : j = i
        · subst hji
          rw [HE.out] at he'; cases he'
          exact HME.out
        · exact HI.out j (by omega) e' he'
      | true =>
        have HME := Lib.hid hme
        clear hme
        go_wp2_with (go_at_fn M; refine HC.out.mono ?_; rw [HME.out]; rintro r w9 ⟨rfl, hB9⟩)
        go_ret
        exact ⟨hB.trans (hB9.mono (by omega)), .inr ⟨i, e, rfl, HE.out, HME.out⟩⟩
    · obtain rfl : i = es.length := by omega
      go_wp2
      go_ret
      refine ⟨hB, .inl ⟨rfl, fun e he => ?_⟩⟩
      obtain ⟨j, hj⟩ := List.mem_iff_getElem?.1 he
      exact HI.out j (List.getElem?_eq_some_iff.1 hj).1 e hj
set_option maxHeartbeats 4000000 in
theorem early_ {w : World} {B lp gb : Nat} {ev a2 : Value} {h : List HTx} {es : List Edge} (hl : Led w B lp h) (hg : w.heap[gb]? = some (.cells #[.pointer (some ⟨lp, 0, none⟩), ev, a2] 95)) (hgB : gb < B)
    (hr : Rows w B 4 (Flat edgeC) ev es) (hes : ∀ e ∈ es, EdgeIn h e) :
    Calls Tryz.prog 65 #[.pointer (some ⟨gb, 0, none⟩)] w fun e w' => Below w.heap.size w w' ∧ ((e = .returned (.slice none 0 0) ∧ ∀ e ∈ es, earlyB h e = false) ∨ (∃ a n c, e = .returned (.slice (some a) n c) ∧ ∃ e ∈ es, earlyB h e = true)) := by
  obtain ⟨EA, ec, rfl, hc1, hc2⟩ := hr.shape
  simp only [maxLen] at hc2
  have hle := hl.le
  have hgw : gb < w.heap.size := by omega
  obtain ⟨W1, hW1⟩ : ∃ W1, W1 = w.alloc (.cells #[.pointer (some ⟨gb, 0, none⟩)] 91) := ⟨_, rfl⟩
  have hB1 : Below w.heap.size w W1 := by rw [hW1]; exact bel1 _ _
  have hz1 : W1.heap.size = w.heap.size + 1 := by rw [hW1]; simp
  have hbx : W1.heap[w.heap.size]? = some (.cells #[.pointer (some ⟨gb, 0, none⟩)] 91) := by rw [hW1]; exact heap_alloc_new _ _
  have hg1 := (hB1.block gb hgw).trans hg
  have hl1 : Led W1 B lp h := hl.below hB1 hl.le
  have hr1 : Rows W1 B 4 (Flat edgeC) (.slice EA es.length ec) es := hr.flat (fun j hj => hB1.block j (by omega))
  have hc := Lib.hid (indexEdge_ hr1 hl1.le 105 #[.pointer (some ⟨w.heap.size, 0, none⟩)] (earlyB h) (enters_of Tryz.func105 (by kernel_rfl) rfl)
    (fun e W he hB => early1_ (hl1.below hB hl1.le) ((hB.block gb (by omega)).trans hg1) ((hB.block w.heap.size (by omega)).trans hbx) e (hes e he)))
  have hmf : ∀ (fn : Fn) (first cap : Array Value) (w : World), (Instr.makeFunc fn first cap).run Tryz.prog w = .ok (.func fn first cap) w := fun _ _ _ _ => rfl
  have b0 := (cells_of (cs := [.pointer (some ⟨gb, 0, none⟩)]) hbx).1 0
  have g1 := (cells_of hg1).1 1
  have hwl : w.heap.size < W1.heap.size := by omega
  have hgl : gb < W1.heap.size := by omega
  have HW1 := Lib.hid hW1
  have HG1 := Lib.hid hg1
  have HBX := Lib.hid hbx
  have HR1 := Lib.hid hr1
  clear hW1 hbx hg hg1 hr hr1
  go_enter Tryz.func65, Tryz.ntmps65
  go_upto_region 1 with (fail)
  rw [← HW1.out]
  go_wp2_with (go_at_call 104; with_reducible refine hc.out.mono ?_)
  rintro e w1 ⟨hB, he⟩
  rcases he with ⟨rfl, h1⟩ | ⟨i, e1, rfl, hi, h1⟩
  · have H1 := Lib.hid h1
    clear h1
    go_wp2
    go_ret
    exact ⟨hB1.trans (hB.mono (by omega)), .inl ⟨rfl, H1.out⟩⟩
  · have hil : i < es.length := (List.getElem?_eq_some_iff.1 hi).1
    have hili : (i : Int) < es.length := by omega
    have hz2 := hB.size
    obtain ⟨b, o, c2, hq, hb, p0, p1, p2, p3⟩ := HR1.out.get4 hi (wr := w1) (fun j hj => hB.block j (by omega)) rfl
    cases hq
    have hbr : b < w1.heap.size := by omega
    have b1 := (World.cell?_of_block (a := ⟨w.heap.size, 0, none⟩) (hB.block w.heap.size (by omega))).trans b0
    have g2 := (World.cell?_of_block (a := ⟨gb, 1, none⟩) (hB.block gb (by omega))).trans g1
    have hi1 : w.heap.size < w1.heap.size := by omega
    have hi2 : gb < w1.heap.size := by omega
    have hnl : ¬ (i : Int) < 0 := by omega
    have H1 := Lib.hid (And.intro h1 (List.mem_of_getElem? hi))
    clear h1 hi b0 g1
    go_wp2
    go_ret
    exact ⟨(hB1.trans (hB.mono (by omega))).trans ((bel1 _ _).mono (by omega)), .inr ⟨_, _, _, rfl, e1, H1.out.2, H1.out.1⟩⟩
end Go.Proofs.YtooigfkjdemnlaaGreatDoor

namespace Go.Proofs.YtooigfkjdemnlaaGreatDoor
set_option maxRecDepth 100000
open Go.RowKit Go.Lib Go.Sort Go.Shelf Xw

section
variable {K : Type} [DecidableEq K] {α : Type} {enc : K → Value} {e : TypeId} {size : Nat} {ev : α → List Value} {w w' : World} {mb : Nat} {f : K → List α} {C : Nat → Prop} {L : List (K × Value)}
def OwnN (enc : K → Value) (e : TypeId) (size : Nat) (ev : α → List Value) (w : World) (mb : Nat) (f : K → List α) (C : Nat → Prop) (L : List (K × Value)) : Prop :=
  C mb ∧ KMap enc w mb L ∧ (∀ k, f k ≠ [] → k ∈ L.map (·.1)) ∧ ∃ col : K → Nat → Prop, (∀ k, Sl w e size ((kget L k).getD (.slice none 0 0)) (f k).length ((f k).flatMap ev) (col k)) ∧ (∀ k j, col k j → C j ∧ j ≠ mb) ∧ ∀ k k' j, col k j → col k' j → k = k'
theorem OwnN.chg {F : Nat → Prop} (h : OwnN enc e size ev w mb f C L) (hc : Chg F w w') (hd : ∀ j, C j → ¬ F j) : OwnN enc e size ev w' mb f C L := by
  obtain ⟨hm, hk, hl, col, h1, h2, h3⟩ := h
  exact ⟨hm, hk.chg hc (hd _ hm), hl, col, fun k => (h1 k).chg hc (fun j hj => hd j (h2 k j hj).1), h2, h3⟩
theorem OwnN.mono {C' : Nat → Prop} (h : OwnN enc e size ev w mb f C L) (hc : ∀ j, C j → C' j) : OwnN enc e size ev w mb f C' L := by
  obtain ⟨hm, hk, hl, col, h1, h2, h3⟩ := h
  exact ⟨hc _ hm, hk, hl, col, h1, fun k j hj => ⟨hc _ (h2 k j hj).1, (h2 k j hj).2⟩, h3⟩
theorem OwnN.at_ (h : OwnN enc e size ev w mb f C L) (k : K) : ∃ F : Nat → Prop, Sl w e size ((kget L k).getD (.slice none 0 0)) (f k).length ((f k).flatMap ev) F ∧ (∀ j, F j → C j ∧ j ≠ mb) ∧
    ∀ (w4 w5 : World) (v2 : Value) (l2 : List α) (F4 : Nat → Prop), Sl w4 e size v2 l2.length (l2.flatMap ev) F4 → (∀ j, F4 j → F j ∨ (w.heap.size ≤ j ∧ j < w4.heap.size)) → Chg F w w4 → KMap enc w5 mb (kset L k v2) → Chg (fun j => j = mb) w4 w5 →
      (∀ j, C j → j < w.heap.size) → OwnN enc e size ev w5 mb (fun k' => if k' = k then l2 else f k') (fun j => C j ∨ (w.heap.size ≤ j ∧ j < w4.heap.size)) (kset L k v2) := by
  obtain ⟨hm, hk, hl, col, h1, h2, h3⟩ := h
  refine ⟨col k, h1 k, h2 k, fun w4 w5 v2 l2 F4 hs hf hc hk5 hc5 hC => ⟨.inl hm, hk5, fun k' hk' => ?_, fun k' j => if k' = k then F4 j else col k' j, fun k' => ?_, fun k' j hj => ?_, fun k1 k2 j h4 h5 => ?_⟩⟩
  · rw [mem_kset]
    by_cases e : k' = k
    · exact .inr e
    · simp only [if_neg e] at hk'; exact .inl (hl k' hk')
  · rw [kget_kset]
    by_cases e : k' = k
    · subst e
      simp only [if_true, Option.getD_some]
      refine hs.chg hc5 fun j hj ej => ?_
      rcases hf j hj with h | ⟨h, _⟩
      · exact (h2 k' j h).2 ej
      · have := hC _ hm; omega
    · simp only [if_neg e]
      exact ((h1 k').chg hc (fun j hj hj' => e (h3 _ _ _ hj hj'))).chg hc5 (fun j hj => (h2 _ _ hj).2)
  · by_cases e : k' = k
    · subst e
      simp only [if_true] at hj
      rcases hf j hj with h | h
      · exact ⟨.inl (h2 _ _ h).1, (h2 _ _ h).2⟩
      · exact ⟨.inr h, by have := hC _ hm; omega⟩
    · simp only [if_neg e] at hj
      exact ⟨.inl (h2 _ _ hj).1, (h2 _ _ hj).2⟩
  · have hn : ∀ k' j, k' ≠ k → col k' j → F4 j → False := fun k' j e h6 h7 => by
      rcases hf j h7 with h | ⟨h, _⟩
      · exact e (h3 _ _ _ h6 h)
      · have := hC _ (h2 _ _ h6).1; omega
    by_cases e1 : k1 = k <;> by_cases e2 : k2 = k
    · exact e1.trans e2.symm
    · simp only [if_pos e1] at h4; simp only [if_neg e2] at h5; exact (hn _ _ e2 h5 h4).elim
    · simp only [if_neg e1] at h4; simp only [if_pos e2] at h5; exact (hn _ _ e1 h4 h5).elim
    · simp only [if_neg e1] at h4; simp only [if_neg e2] at h5; exact h3 _ _ _ h4 h5
theorem OwnN.mapOfK {B : Nat} (henc : ∀ x, (ev x).length = size) (h : OwnN enc e size ev w mb f C L) (hB : w.heap.size ≤ B) : MapOfK enc w B mb size ev f := by
  obtain ⟨hm, hk, hl, col, h1, h2, h3⟩ := h
  refine ⟨Nat.lt_of_lt_of_le hk.lt hB, L, hk, fun k v hv => ?_, fun k hn => hl k hn⟩
  have := h1 k
  rw [kget_mem hk.nodup hv] at this
  exact Rows.of_sl henc this hB
end
def startB (h : List HTx) (t u : Nat) : Bool := decide (t ≠ u) && com h t && com h u && (match h[t]?, h[u]? with
  | some x, some y => decide (x.fin ≤ y.bgn)
  | _, _ => false)
def startsN (h : List HTx) (t : Nat) : Nat → List Edge
  | 0 => []
  | u + 1 => if startB h t u = true then startsN h t u ++ [⟨t, u, 0, ⟨#[]⟩⟩] else startsN h t u
def outS (h : List HTx) (es : List Edge) (t n : Nat) : List Edge := (es.filter fun (e : Edge) => decide (e.frm = (t : Int))) ++ startsN h t n
def starts (h : List HTx) (es : List Edge) : Nat → List Edge
  | 0 => []
  | t + 1 => starts h es t ++ outS h es t h.length
def fS (h : List HTx) (es : List Edge) (t : Nat) (x : List Edge) : Int → List Edge := fun k => if k = (t : Int) then x else if 0 ≤ k ∧ k < t then outS h es k.toNat h.length else []
theorem startsN_frm (h : List HTx) (t : Nat) : ∀ u e, e ∈ startsN h t u → e.frm = t
  | 0, e, he => by cases he
  | u + 1, e, he => by
    unfold startsN at he
    split at he
    · rcases List.mem_append.1 he with h1 | h1
      · exact startsN_frm h t u e h1
      · simp at h1; subst h1; rfl
    · exact startsN_frm h t u e he
theorem startsN_len (h : List HTx) (t : Nat) : ∀ u, (startsN h t u).length ≤ u
  | 0 => Nat.le_refl _
  | u + 1 => by
    have := startsN_len h t u
    unfold startsN
    split
    · simp; omega
    · omega
theorem outS_frm {h : List HTx} {es : List Edge} {t n : Nat} {e : Edge} (he : e ∈ outS h es t n) : e.frm = t := by
  rcases List.mem_append.1 he with h1 | h1
  · simpa using (List.mem_filter.1 h1).2
  · exact startsN_frm h t n e h1
theorem starts_filter (h : List HTx) (es : List Edge) : ∀ (n : Nat), (fun k : Int => (starts h es n).filter fun e => decide (e.frm = k)) = fS h es n []
  | 0 => by funext k; unfold fS; simp [starts]; intro h1 h2; omega
  | n + 1 => by
    have ih := starts_filter h es n
    funext k
    have ihk := congrFun ih k
    simp only [starts, List.filter_append] at ihk ⊢
    rw [ihk]
    unfold fS
    by_cases hk : k = (n : Int)
    · subst hk
      rw [if_pos rfl, if_neg (by omega), if_pos (by omega), List.nil_append]
      rw [List.filter_eq_self.2 (fun e he => by simp [outS_frm he])]
      rfl
    · rw [if_neg hk, List.filter_eq_nil_iff.2 (fun e he => by rw [outS_frm he]; simpa using fun h => hk h.symm), List.append_nil]
      by_cases h2 : k = ((n + 1 : Nat) : Int)
      · rw [if_pos h2, if_neg (by omega)]
      · rw [if_neg h2]
        by_cases h3 : 0 ≤ k ∧ k < n
        · rw [if_pos h3, if_pos (by omega)]
        · rw [if_neg h3, if_neg (by omega)]
theorem fS_zero (h : List HTx) (es : List Edge) (k : Int) : fS h es 0 [] k = [] := by
  unfold fS
  split
  · rfl
  · rw [if_neg (by omega)]
theorem fS_next (h : List HTx) (es : List Edge) (t : Nat) : fS h es t (outS h es t h.length) = fS h es (t + 1) [] := by
  funext k
  unfold fS
  by_cases hk : k = (t : Int)
  · subst hk
    rw [if_pos rfl, if_neg (by omega), if_pos (by omega)]
    rfl
  · rw [if_neg hk]
    by_cases h2 : k = ((t + 1 : Nat) : Int)
    · rw [if_pos h2, if_neg (by omega)]
    · rw [if_neg h2]
      by_cases h3 : 0 ≤ k ∧ k < t
      · rw [if_pos h3, if_pos (by omega)]
      · rw [if_neg h3, if_neg (by omega)]
theorem fS_set (h : List HTx) (es : List Edge) (t : Nat) (x y : List Edge) : (fun k' : Int => if k' = (t : Int) then y else fS h es t x k') = fS h es t y := by
  funext k
  unfold fS
  by_cases hk : k = (t : Int)
  · rw [if_pos hk, if_pos hk]
  · rw [if_neg hk, if_neg hk, if_neg hk]
end Go.Proofs.YtooigfkjdemnlaaGreatDoor

namespace Go.Proofs.YtooigfkjdemnlaaGreatDoor
variable {h : List HTx} {k : ByteArray}

theorem com_order {i : Nat} {u : Inst} (hi : (order h k)[i]? = some u) : com h u.txn = true := by
  obtain ⟨x, w, h1, h2, _⟩ := mem_order.1 (List.mem_of_getElem? hi)
  exact com_iff.2 ⟨x, h1, h2⟩
def EdgeC (h : List HTx) (e : Edge) : Prop := ∃ u t : Nat, e.frm = u ∧ e.to = t ∧ com h u = true ∧ com h t = true ∧ u ≠ t
theorem item_com {t : Nat} {v : HVer} {e : Edge} (hv : verOk h v) (hc : com h t = true) (hq : QItem h t v e) : EdgeC h e := by
  obtain ⟨h1, h2, h3⟩ := hq
  obtain ⟨f, y, hf, hy⟩ := verOk_nat hv
  rcases h3 with rfl | ⟨u, _, hu, hne, rfl⟩
  · exact ⟨f, t, hf, rfl, by rw [hf, Int.toNat_natCast] at h2; exact h2, hc, by omega⟩
  · exact ⟨t, u.txn, rfl, rfl, hc, com_order hu, by omega⟩
theorem scan_com {t : Nat} {o : HOpr} {e : Edge} (hc : com h t = true) (hq : QScan h t o k e) : EdgeC h e := by
  obtain ⟨_, ⟨i, u, _, hu, hne, rfl⟩ | ⟨i, u, _, hu, hne, rfl⟩⟩ := hq
  · exact ⟨u.txn, t, rfl, rfl, com_order hu, hc, by omega⟩
  · exact ⟨t, u.txn, rfl, rfl, hc, com_order hu, by omega⟩
theorem edge_com (H : Fine h) {e : Edge} (he : e ∈ edgesOf h) : EdgeC h e := by
  rcases mem_edgesOf.1 he with ⟨k, _, i, u, v, hu, hv, hne, rfl⟩ | ⟨t, x, j, o, hx, hc, ho, hq⟩
  · exact ⟨u.txn, v.txn, rfl, rfl, com_order hu, com_order hv, by omega⟩
  · have hsk : ∀ v ∈ seenOf o, verOk h v := fun v hv => seenOf_ok H hx ho hv
    rcases hq with ⟨hk, hq⟩ | ⟨hk, ⟨v, hv, hq⟩ | ⟨k, _, _, _, hq⟩⟩
    · exact item_com (hsk _ (by unfold seenOf; rw [if_pos hk]; simp)) hc hq
    · exact item_com (hsk _ (by unfold seenOf; rw [if_neg (by omega), if_neg (by omega)]; exact hv)) hc hq
    · exact scan_com hc hq
theorem EdgeC.in_ {e : Edge} (he : EdgeC h e) : EdgeIn h e ∧ e.frm ≠ e.to := by
  obtain ⟨u, t, h1, h2, h3, h4, h5⟩ := he
  obtain ⟨x, hx, _⟩ := com_iff.1 h3
  obtain ⟨y, hy, _⟩ := com_iff.1 h4
  exact ⟨⟨u, t, x, y, h1, h2, hx, hy⟩, by omega⟩
theorem edgesOf_len (L : Lim h) : (edgesOf h).length < 9000000000 := by
  unfold edgesOf
  have h1 := dedup_len ((txsE h h.length).mergeSort edgeLe)
  rw [List.length_mergeSort] at h1
  have h2 := txsE_len L h.length
  have h3 := L.n
  have h4 : 33685504 * h.length ≤ 33685504 * 256 := Nat.mul_le_mul_left _ h3
  omega
theorem filter_split (es : List Edge) (n : Nat) : (es.filter fun e => decide (0 ≤ e.frm ∧ e.frm < ((n + 1 : Nat) : Int))).length = (es.filter fun e => decide (0 ≤ e.frm ∧ e.frm < (n : Int))).length + (es.filter fun (e : Edge) => decide (e.frm = (n : Int))).length := by
  induction es with
  | nil => rfl
  | cons e r ih =>
    simp only [List.filter_cons]
    by_cases h1 : e.frm = (n : Int)
    · have h2 : (0 ≤ e.frm ∧ e.frm < ((n + 1 : Nat) : Int)) := by omega
      have h3 : ¬ (0 ≤ e.frm ∧ e.frm < (n : Int)) := by omega
      rw [if_pos (by simpa using h2), if_neg (by simpa using h3), if_pos (by simpa using h1)]
      simp only [List.length_cons]
      omega
    · rw [if_neg (c := decide (e.frm = (n : Int)) = true) (by simpa using h1)]
      by_cases h2 : 0 ≤ e.frm ∧ e.frm < (n : Int)
      · have h3 : 0 ≤ e.frm ∧ e.frm < ((n + 1 : Nat) : Int) := by omega
        rw [if_pos (by simpa using h3), if_pos (by simpa using h2)]
        simp only [List.length_cons]
        omega
      · have h3 : ¬ (0 ≤ e.frm ∧ e.frm < ((n + 1 : Nat) : Int)) := by omega
        rw [if_neg (by simpa using h3), if_neg (by simpa using h2)]
        exact ih
theorem starts_len' (h : List HTx) (es : List Edge) : ∀ n, (starts h es n).length ≤ (es.filter fun e => decide (0 ≤ e.frm ∧ e.frm < (n : Int))).length + n * h.length
  | 0 => by simp [starts]
  | n + 1 => by
    have ih := starts_len' h es n
    have h1 := startsN_len h n h.length
    rw [filter_split]
    simp only [starts, outS, List.length_append]
    rw [Nat.succ_mul]
    omega
theorem starts_len (L : Lim h) : (starts h (edgesOf h) h.length).length < 60000000000 := by
  have h1 := starts_len' h (edgesOf h) h.length
  have h2 := List.length_filter_le (fun e : Edge => decide (0 ≤ e.frm ∧ e.frm < (h.length : Int))) (edgesOf h)
  have h3 := edgesOf_len L
  have h4 := L.n
  have h5 : h.length * h.length ≤ 256 * 256 := Nat.mul_le_mul h4 h4
  omega
end Go.Proofs.YtooigfkjdemnlaaGreatDoor

namespace Go.Proofs.YtooigfkjdemnlaaGreatDoor

def cntE (es : List Edge) (ol : List Int) (x : Int) : Nat := (es.filter fun e => decide (e.to = x) && decide (e.frm ∉ ol)).length
theorem cntE_cons (e : Edge) (es : List Edge) (ol : List Int) (x : Int) : cntE (e :: es) ol x = (if e.to = x ∧ e.frm ∉ ol then 1 else 0) + cntE es ol x := by
  unfold cntE
  rw [List.filter_cons]
  by_cases h : e.to = x ∧ e.frm ∉ ol
  · rw [if_pos h, if_pos (by simpa using h)]; simp; omega
  · rw [if_neg h, if_neg (by simpa using h)]; simp
theorem cntE_zero {es : List Edge} {ol : List Int} {x : Int} (h : cntE es ol x = 0) : ∀ e ∈ es, e.to = x → e.frm ∈ ol := fun e he hx => by
  refine Classical.byContradiction fun hn => ?_
  have h1 := List.eq_nil_of_length_eq_zero h
  have : e ∈ es.filter fun e => decide (e.to = x) && decide (e.frm ∉ ol) := List.mem_filter.2 ⟨he, by simp [hx, hn]⟩
  rw [h1] at this
  cases this
theorem cntE_pos {es : List Edge} {ol : List Int} {x : Int} (h : cntE es ol x ≠ 0) : ∃ e ∈ es, e.to = x ∧ e.frm ∉ ol := by
  unfold cntE at h
  have : (es.filter fun e => decide (e.to = x) && decide (e.frm ∉ ol)) ≠ [] := fun e => h (by rw [e]; rfl)
  obtain ⟨e, he⟩ := List.exists_mem_of_ne_nil _ this
  rw [List.mem_filter] at he
  exact ⟨e, he.1, by simpa using he.2⟩
theorem cntE_le (es : List Edge) (ol : List Int) (x : Int) : cntE es ol x ≤ es.length := List.length_filter_le _ _
theorem cntE_split (es : List Edge) (ol : List Int) (m x : Int) (hm : m ∉ ol) : cntE es ol x = cntE es (ol ++ [m]) x + ((es.filter fun e => decide (e.frm = m)).filter fun e => decide (e.to = x)).length := by
  induction es with
  | nil => rfl
  | cons e r ih =>
    rw [cntE_cons, cntE_cons, ih, List.filter_cons]
    by_cases h1 : e.frm = m
    · have h2 : e.frm ∉ ol := by rw [h1]; exact hm
      have h3 : ¬ (e.to = x ∧ e.frm ∉ ol ++ [m]) := fun h => h.2 (by simp [h1])
      rw [if_neg h3, if_pos (c := decide (e.frm = m) = true) (by simpa using h1), List.filter_cons]
      by_cases h4 : e.to = x
      · rw [if_pos ⟨h4, h2⟩, if_pos (by simpa using h4)]; simp; omega
      · rw [if_neg (fun h => h4 h.1), if_neg (by simpa using h4)]; omega
    · have h2 : e.frm ∉ ol ++ [m] ↔ e.frm ∉ ol := by simp [h1]
      rw [if_neg (c := decide (e.frm = m) = true) (by simpa using h1)]
      by_cases h4 : e.to = x ∧ e.frm ∉ ol
      · rw [if_pos h4, if_pos ⟨h4.1, h2.2 h4.2⟩]; omega
      · rw [if_neg h4, if_neg (fun h => h4 ⟨h.1, h2.1 h.2⟩)]; omega

structure Kahn (h : List HTx) (es : List Edge) (ol rd : List Int) (bf : Int → Int) : Prop where
  cnt : ∀ x, bf x = cntE es ol x
  nd : (ol ++ rd).Nodup
  cm : ∀ x ∈ ol ++ rd, ∃ t : Nat, x = t ∧ com h t = true
  rdy : ∀ x ∈ rd, bf x = 0
  all : ∀ t : Nat, com h t = true → bf t = 0 → (t : Int) ∈ ol ++ rd
  rise : ∀ e ∈ es, ∀ i : Nat, ol[i]? = some e.to → ∃ j : Nat, j < i ∧ ol[j]? = some e.frm
structure KahnI (h : List HTx) (es : List Edge) (ol rd : List Int) (bf : Int → Int) (m : Int) (s : Nat) : Prop where
  cnt : ∀ x, bf x = cntE es (ol ++ [m]) x + (((es.filter fun e => decide (e.frm = m)).drop s).filter fun e => decide (e.to = x)).length
  nd : (ol ++ [m] ++ rd).Nodup
  cm : ∀ x ∈ ol ++ [m] ++ rd, ∃ t : Nat, x = t ∧ com h t = true
  rdy : ∀ x ∈ rd, bf x = 0
  all : ∀ t : Nat, com h t = true → bf t = 0 → (t : Int) ∈ ol ++ [m] ++ rd
  rise : ∀ e ∈ es, ∀ i : Nat, (ol ++ [m])[i]? = some e.to → ∃ j : Nat, j < i ∧ (ol ++ [m])[j]? = some e.frm
variable {h : List HTx} {es : List Edge} {ol rd : List Int} {bf : Int → Int} {m : Int} {s : Nat}
theorem Kahn.take (K : Kahn h es ol rd bf) (hm : m ∈ rd) : KahnI h es ol (rd.filter fun u => !decide (u = m)) bf m 0 := by
  have hmo : m ∉ ol := fun ho => (List.nodup_append.1 K.nd).2.2 m ho m hm rfl
  refine ⟨fun x => ?_, ?_, fun x hx => ?_, fun x hx => K.rdy x (List.mem_filter.1 hx).1, fun t ht hb => ?_, fun e he i hi => ?_⟩
  · rw [K.cnt, cntE_split es ol m x hmo, List.drop_zero]; omega
  · obtain ⟨n1, n2, n3⟩ := List.nodup_append.1 K.nd
    refine List.nodup_append.2 ⟨List.nodup_append.2 ⟨n1, by simp, fun a ha b hb => ?_⟩, n2.filter _, fun a ha b hb => ?_⟩
    · simp at hb; subst hb; exact fun e => hmo (e ▸ ha)
    · rw [List.mem_filter] at hb
      rcases List.mem_append.1 ha with h1 | h1
      · exact n3 a h1 b hb.1
      · simp at h1; subst h1
        have := hb.2
        simp at this
        exact fun e => this e.symm
  · rcases List.mem_append.1 hx with h1 | h1
    · rcases List.mem_append.1 h1 with h2 | h2
      · exact K.cm x (List.mem_append_left _ h2)
      · simp at h2; subst h2; exact K.cm x (List.mem_append_right _ hm)
    · exact K.cm x (List.mem_append_right _ (List.mem_filter.1 h1).1)
  · rcases List.mem_append.1 (K.all t ht hb) with h1 | h1
    · exact List.mem_append_left _ (List.mem_append_left _ h1)
    · by_cases htm : (t : Int) = m
      · exact List.mem_append_left _ (List.mem_append_right _ (by simp [htm]))
      · exact List.mem_append_right _ (List.mem_filter.2 ⟨h1, by simp [htm]⟩)
  · rcases Nat.lt_or_ge i ol.length with hlt | hge
    · rw [List.getElem?_append_left hlt] at hi
      obtain ⟨j, hj, hj2⟩ := K.rise e he i hi
      exact ⟨j, hj, by rw [List.getElem?_append_left (by omega)]; exact hj2⟩
    · rw [List.getElem?_append_right hge] at hi
      have hi0 : i - ol.length = 0 := by
        rcases Nat.eq_zero_or_pos (i - ol.length) with h0 | h0
        · exact h0
        · rw [List.getElem?_eq_none (by simp; omega)] at hi; cases hi
      rw [hi0] at hi
      have hem : e.to = m := by simpa using hi.symm
      have hc : cntE es ol m = 0 := by
        have := K.rdy m hm
        rw [K.cnt] at this
        omega
      have hin := cntE_zero hc e he hem
      obtain ⟨j, hj⟩ := List.mem_iff_getElem?.1 hin
      have hjl := (List.getElem?_eq_some_iff.1 hj).1
      exact ⟨j, by omega, by rw [List.getElem?_append_left hjl]; exact hj⟩
theorem KahnI.step (K : KahnI h es ol rd bf m s) (hec : ∀ e ∈ es, EdgeC h e) {e : Edge} (he : (es.filter fun e => decide (e.frm = m))[s]? = some e) :
    1 ≤ bf e.to ∧ KahnI h es ol (if bf e.to - 1 = 0 then rd ++ [e.to] else rd) (fun y => if y = e.to then bf e.to - 1 else bf y) m (s + 1) := by
  have hmem := List.mem_filter.1 (List.mem_of_getElem? he)
  have hfm : e.frm = m := by simpa using hmem.2
  obtain ⟨u, t, eu, et, cu, ct, hut⟩ := hec e hmem.1
  have hdrop : (es.filter fun e => decide (e.frm = m)).drop s = e :: (es.filter fun e => decide (e.frm = m)).drop (s + 1) := by
    obtain ⟨hl, h1⟩ := List.getElem?_eq_some_iff.1 he
    rw [List.drop_eq_getElem_cons hl, h1]
  have hbe : bf e.to = cntE es (ol ++ [m]) e.to + ((((es.filter fun e => decide (e.frm = m)).drop (s + 1)).filter fun e' => decide (e'.to = e.to)).length + 1) := by
    rw [K.cnt e.to, hdrop, List.filter_cons, if_pos (by simp)]
    simp
  have hpos : 1 ≤ bf e.to := by omega
  have hnr : e.to ∉ rd := fun hr => by have := K.rdy _ hr; omega
  have hno : e.to ∉ ol ++ [m] := fun ho => by
    obtain ⟨i, hi⟩ := List.mem_iff_getElem?.1 ho
    obtain ⟨j, hj, hj2⟩ := K.rise e hmem.1 i hi
    have hil := (List.getElem?_eq_some_iff.1 hi).1
    have n1 := (List.nodup_append.1 K.nd).1
    have hlast : (ol ++ [m])[ol.length]? = some m := by simp
    rw [hfm] at hj2
    have := (List.getElem?_inj (List.getElem?_eq_some_iff.1 hj2).1 n1).1 (hj2.trans hlast.symm)
    simp at hil
    omega
  have hmono : ∀ x ∈ ol ++ [m] ++ rd, x ∈ ol ++ [m] ++ (if bf e.to - 1 = 0 then rd ++ [e.to] else rd) := fun x hx => by
    rcases List.mem_append.1 hx with h1 | h1
    · exact List.mem_append_left _ h1
    · refine List.mem_append_right _ ?_
      split
      · exact List.mem_append_left _ h1
      · exact h1
  refine ⟨hpos, fun x => ?_, ?_, fun x hx => ?_, fun x hx => ?_, fun t' ht' hb => ?_, K.rise⟩
  · by_cases hx : x = e.to
    · subst hx; rw [if_pos rfl, hbe]; omega
    · rw [if_neg hx, K.cnt x, hdrop, List.filter_cons, if_neg (by simpa using fun h => hx h.symm)]
  · split
    · obtain ⟨n1, n2, n3⟩ := List.nodup_append.1 K.nd
      refine List.nodup_append.2 ⟨n1, List.nodup_append.2 ⟨n2, by simp, fun a ha b hb => ?_⟩, fun a ha b hb => ?_⟩
      · simp at hb; subst hb; exact fun e' => hnr (e' ▸ ha)
      · rcases List.mem_append.1 hb with h1 | h1
        · exact n3 a ha b h1
        · simp at h1; subst h1; exact fun e' => hno (e' ▸ ha)
    · exact K.nd
  · have : x ∈ ol ++ [m] ++ rd ∨ x = e.to := by
      rcases List.mem_append.1 hx with h1 | h1
      · exact .inl (List.mem_append_left _ h1)
      · split at h1
        · rcases List.mem_append.1 h1 with h2 | h2
          · exact .inl (List.mem_append_right _ h2)
          · simp at h2; exact .inr h2
        · exact .inl (List.mem_append_right _ h1)
    rcases this with h1 | h1
    · exact K.cm x h1
    · exact ⟨t, by rw [h1, et], ct⟩
  · have : x ∈ rd ∨ (x = e.to ∧ bf e.to - 1 = 0) := by
      split at hx
      · rename_i h0
        rcases List.mem_append.1 hx with h2 | h2
        · exact .inl h2
        · simp at h2; exact .inr ⟨h2, h0⟩
      · exact .inl hx
    rcases this with h1 | ⟨h1, h2⟩
    · have hxe : x ≠ e.to := fun h2 => hnr (h2 ▸ h1)
      simp only [if_neg hxe]
      exact K.rdy x h1
    · simp only [if_pos h1]; exact h2
  · by_cases htx : (t' : Int) = e.to
    · rw [if_pos htx] at hb
      refine List.mem_append_right _ ?_
      rw [if_pos hb, htx]
      exact List.mem_append_right _ (by simp)
    · rw [if_neg htx] at hb
      exact hmono _ (K.all t' ht' hb)
theorem KahnI.done (K : KahnI h es ol rd bf m (es.filter fun e => decide (e.frm = m)).length) : Kahn h es (ol ++ [m]) rd bf :=
  ⟨fun x => by rw [K.cnt, List.drop_length]; simp, K.nd, K.cm, K.rdy, K.all, K.rise⟩
def leftN (h : List HTx) (t : Nat) : Nat := ((List.range t).filter (com h)).length
theorem leftN_le (h : List HTx) (t : Nat) : leftN h t ≤ t := by
  unfold leftN
  have := List.length_filter_le (com h) (List.range t)
  simpa using this
theorem leftN_succ (h : List HTx) (t : Nat) : leftN h (t + 1) = leftN h t + (if com h t = true then 1 else 0) := by
  unfold leftN
  rw [List.range_succ, List.filter_append, List.length_append]
  cases hc : com h t <;> simp [hc]
def readyN (h : List HTx) (bf : Int → Int) : Nat → List Int
  | 0 => []
  | t + 1 => if com h t = true ∧ bf t = 0 then readyN h bf t ++ [(t : Int)] else readyN h bf t
theorem readyN_mem {h : List HTx} {bf : Int → Int} {x : Int} : ∀ n, x ∈ readyN h bf n ↔ ∃ t : Nat, t < n ∧ x = t ∧ com h t = true ∧ bf t = 0
  | 0 => by simp [readyN]
  | n + 1 => by
    have ih := readyN_mem (h := h) (bf := bf) (x := x) n
    unfold readyN
    split
    · rename_i hc
      rw [List.mem_append, ih]
      constructor
      · rintro (⟨t, h1, h2⟩ | h1)
        · exact ⟨t, by omega, h2⟩
        · simp at h1; exact ⟨n, by omega, h1, hc⟩
      · rintro ⟨t, h1, h2, h3⟩
        by_cases ht : t = n
        · subst ht; exact .inr (by simp [h2])
        · exact .inl ⟨t, by omega, h2, h3⟩
    · rename_i hc
      rw [ih]
      constructor
      · rintro ⟨t, h1, h2⟩
        exact ⟨t, by omega, h2⟩
      · rintro ⟨t, h1, h2, h3⟩
        by_cases ht : t = n
        · subst ht; exact absurd h3 hc
        · exact ⟨t, by omega, h2, h3⟩
theorem readyN_nodup {h : List HTx} {bf : Int → Int} : ∀ n, (readyN h bf n).Nodup ∧ (readyN h bf n).length ≤ n
  | 0 => by simp [readyN]
  | n + 1 => by
    obtain ⟨h1, h2⟩ := readyN_nodup (h := h) (bf := bf) n
    unfold readyN
    split
    · refine ⟨List.nodup_append.2 ⟨h1, by simp, fun a ha b hb => ?_⟩, by simp; omega⟩
      simp at hb; subst hb
      obtain ⟨t, ht, rfl, _⟩ := (readyN_mem n).1 ha
      omega
    · exact ⟨h1, by omega⟩
theorem com_lt {h : List HTx} {t : Nat} (hc : com h t = true) : t < h.length := by
  obtain ⟨x, hx, _⟩ := com_iff.1 hc
  exact (List.getElem?_eq_some_iff.1 hx).1
theorem Kahn.start (hbf : ∀ x, bf x = cntE es [] x) : Kahn h es [] (readyN h bf h.length) bf := by
  refine ⟨hbf, by simpa using (readyN_nodup h.length).1, fun x hx => ?_, fun x hx => ?_, fun t ht hb => ?_, fun e he i hi => by simp at hi⟩
  · rw [List.nil_append, readyN_mem] at hx
    obtain ⟨t, _, h1, h2, _⟩ := hx
    exact ⟨t, h1, h2⟩
  · obtain ⟨t, _, h1, _, h2⟩ := (readyN_mem _).1 hx
    rw [h1]; exact h2
  · rw [List.nil_append, readyN_mem]
    exact ⟨t, com_lt ht, rfl, ht, hb⟩
theorem Kahn.nats (K : Kahn h es ol rd bf) : ∃ l : List Nat, ol = l.map (fun (t : Nat) => (t : Int)) ∧ l.Nodup ∧ ∀ t ∈ l, com h t = true := by
  have hcm : ∀ x ∈ ol, ∃ t : Nat, x = t ∧ com h t = true := fun x hx => K.cm x (List.mem_append_left _ hx)
  have hnd := (List.nodup_append.1 K.nd).1
  clear K
  have he : ol = (ol.map Int.toNat).map (fun (t : Nat) => (t : Int)) := by
    rw [List.map_map]
    conv => lhs; rw [← List.map_id ol]
    apply List.map_congr_left
    intro x hx
    obtain ⟨t, rfl, _⟩ := hcm x hx
    simp
  refine ⟨ol.map Int.toNat, he, ?_, fun t ht => ?_⟩
  · rw [he] at hnd
    exact List.Pairwise.of_map _ (fun a b hab e => hab (by rw [e])) hnd
  · obtain ⟨x, hx, rfl⟩ := List.mem_map.1 ht
    obtain ⟨t, rfl, hc⟩ := hcm x hx
    simpa using hc
theorem Kahn.len (K : Kahn h es ol rd bf) : ol.length + rd.length ≤ leftN h h.length := by
  have hl : (ol ++ rd).length ≤ ((List.range h.length).filter (com h)).length := by
    have := nodup_len (ol ++ rd) (((List.range h.length).filter (com h)).map (fun (t : Nat) => (t : Int))) K.nd (fun x hx => by
      obtain ⟨t, rfl, hc⟩ := K.cm x hx
      exact List.mem_map_of_mem (f := fun (t : Nat) => (t : Int)) (List.mem_filter.2 ⟨List.mem_range.2 (com_lt hc), hc⟩))
    simpa using this
  rw [List.length_append] at hl
  exact hl
theorem Kahn.back (K : Kahn h es ol [] bf) (hec : ∀ e ∈ es, EdgeC h e) (hlt : ol.length < leftN h h.length) : ∃ e ∈ es, e.to < e.frm := by
  obtain ⟨l, hl, hnd, hcm⟩ := K.nats
  have hex : ∃ t : Nat, com h t = true ∧ (t : Int) ∉ ol := by
    refine Classical.byContradiction fun hn => ?_
    have : ∀ t : Nat, com h t = true → t ∈ l := fun t ht => Classical.byContradiction fun h1 => hn ⟨t, ht, fun h2 => h1 (by
      rw [hl] at h2
      obtain ⟨a, ha, e⟩ := List.mem_map.1 h2
      have : a = t := by omega
      rw [← this]; exact ha)⟩
    have h3 := nodup_len ((List.range h.length).filter (com h)) l (List.nodup_range.filter _) (fun t ht => this t (List.mem_filter.1 ht).2)
    have h4 : ol.length = l.length := by rw [hl, List.length_map]
    unfold leftN at hlt
    omega
  obtain ⟨t, ⟨ht, hto⟩, hmin⟩ : ∃ t : Nat, (com h t = true ∧ (t : Int) ∉ ol) ∧ ∀ u : Nat, u < t → ¬ (com h u = true ∧ (u : Int) ∉ ol) := by
    obtain ⟨t0, h0⟩ := hex
    induction t0 using Nat.strongRecOn with
    | _ t0 ih =>
      by_cases hb : ∃ u : Nat, u < t0 ∧ (com h u = true ∧ (u : Int) ∉ ol)
      · obtain ⟨u, hu, h1⟩ := hb
        exact ih u hu h1
      · exact ⟨t0, h0, fun u hu h1 => hb ⟨u, hu, h1⟩⟩
  have hc : cntE es ol t ≠ 0 := fun h0 => hto (by
    have := K.all t ht (by rw [K.cnt, h0]; rfl)
    simpa using this)
  obtain ⟨e, he, he1, he2⟩ := cntE_pos hc
  refine ⟨e, he, ?_⟩
  obtain ⟨u, v, eu, ev, cu, cv, huv⟩ := hec e he
  rcases Nat.lt_or_ge u t with h1 | h1
  · exact absurd ⟨cu, by rw [← eu]; exact he2⟩ (hmin u h1)
  · omega
theorem Kahn.line (K : Kahn h (edgesOf h) ol [] bf) (H : Fine h) (hge : ¬ ol.length < leftN h h.length) : ∃ l : List Nat, ol = l.map (fun (t : Nat) => (t : Int)) ∧ Line h l := by
  obtain ⟨l, hl, hnd, hcm⟩ := K.nats
  have hall : ∀ t : Nat, com h t = true → t ∈ l := fun t ht => Classical.byContradiction fun h1 => by
    have h3 := nodup_len (t :: l) ((List.range h.length).filter (com h)) (List.nodup_cons.2 ⟨h1, hnd⟩) (fun u hu => by
      have hu' : com h u = true := by
        rcases List.mem_cons.1 hu with rfl | h2
        · exact ht
        · exact hcm u h2
      exact List.mem_filter.2 ⟨List.mem_range.2 (com_lt hu'), hu'⟩)
    have h4 : ol.length = l.length := by rw [hl, List.length_map]
    unfold leftN at hge
    simp only [List.length_cons] at h3
    omega
  refine ⟨l, hl, hnd, fun t => ⟨hcm t, hall t⟩, fun e he => ?_⟩
  obtain ⟨u, v, eu, ev, cu, cv, huv⟩ := edge_com H he
  obtain ⟨j, hj⟩ := List.mem_iff_getElem?.1 (hall v cv)
  have hoj : ol[j]? = some e.to := by rw [hl, List.getElem?_map, hj, ev]; rfl
  obtain ⟨i, hi, hoi⟩ := K.rise e he j hoj
  refine ⟨i, j, u, v, hi, ?_, hj, eu, ev⟩
  rw [hl, List.getElem?_map] at hoi
  obtain ⟨a, ha, hae⟩ := Option.map_eq_some_iff.1 hoi
  rw [ha]
  congr 1
  omega
end Go.Proofs.YtooigfkjdemnlaaGreatDoor
