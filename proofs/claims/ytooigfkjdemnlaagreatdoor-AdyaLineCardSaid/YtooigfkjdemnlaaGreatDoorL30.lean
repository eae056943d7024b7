/- Own texts of this claim, joined in build order: D7, Pt, Th4, Th5, N1. -/
import Derived.Test.YtooigfkjdemnlaaGreatDoorL29
import Derived.Test.YtooigfkjdemnlaaGreatDoorL01
set_option linter.all false
namespace Go.Proofs.YtooigfkjdemnlaaGreatDoor
set_option maxRecDepth 100000
open Go.RowKit Go.Lib Go.Sort Go.Shelf Xw

set_option maxHeartbeats 4000000 in
theorem indexEdge_ {w : World} {B : Nat} {ev : Value} {es : List Edge} (hr : Rows w B 4 (Flat edgeC) ev es) (hle : B ≤ w.heap.size) (M : FuncId) (caps : Array Value) (m : Edge → Bool)
    (eg : ∀ args w, (callFunc M args).run Tryz.prog w = .ok (.enter M args) w)
    (hm : ∀ (e : Edge) (W : World), e ∈ es → Below w.heap.size w W → Calls Tryz.prog M (#[edgeV e] ++ caps) W fun r W' => r = .returned (.bool (m e)) ∧ Below W.heap.size W W') :
    Calls Tryz.prog 104 #[ev, .func (.func M) #[] caps] w fun r w' => Below w.heap.size w w' ∧ ((r = .returned (.int .i64 (-1)) ∧ ∀ e ∈ es, m e = false) ∨ (∃ (i : Nat) (e : Edge), r = .returned (.int .i64 i) ∧ es[i]? = some e ∧ m e = true)) := by
  obtain ⟨EA, ec, rfl, hc1, hc2⟩ := hr.shape
  simp only [maxLen] at hc2
  have HM := Lib.hid hm
  clear hm
  go_enter Tryz.func104, Tryz.ntmps104
  go_wp2
  go_loopw [5, 8] (fun _ i' wr => ∃ i : Nat, i ≤ es.length ∧ i' = .int .i64 i ∧ Hid (∀ j < i, ∀ e, es[j]? = some e → m e = false) ∧ Below w.heap.size w wr) (fun _ i' _ => es.length - (intOf i').toNat)
  case atStart => exact ⟨0, by omega, rfl, Lib.hid (fun j hj => by omega), Below.refl _ _⟩
  case round =>
    obtain ⟨i, hi, rfl, HI, hB⟩ := hrel
    have hz := hB.size
    by_cases hlt : i < es.length
    · obtain ⟨e, he⟩ : ∃ e, es[i]? = some e := ⟨_, List.getElem?_eq_getElem hlt⟩
      obtain ⟨b, o, c2, hq, hb, p0, p1, p2, p3⟩ := hr.get4 he (wr := wr) (fun j hj => hB.block j (by omega)) rfl
      cases hq
      have hbr : b < wr.heap.size := by omega
      have HC := Lib.hid (HM.out e wr (List.mem_of_getElem? he) hB)
      have HE := Lib.hid he
      clear he
      cases hme : m e with
      | false =>
        have HME := Lib.hid hme
        clear hme
        go_wp2_with (go_at_fn M; refine HC.out.mono ?_; rw [HME.out]; rintro r w9 ⟨rfl, hB9⟩)
        refine ⟨⟨i + 1, by omega, by simp, Lib.hid (fun j hj e' he' => ?_), hB.trans (hB9.mono (by omega))⟩, by simp [intOf]; omega⟩
        by_cases hji : j = i
        · subst hji
          rw [HE.out] at he'; cases he'
          exact HME.out
        · exact HI.out j (by omega) e' he'
      | true =>
        have HME := Lib.hid hme
        clear hme
        go_wp2_with (go_at_fn M; refine HC.out.mono ?_; rw [HME.out]; rintro r w9 ⟨rfl, hB9⟩)
        go_ret
        exact ⟨hB.trans (hB9.mono (by omega)), .inr ⟨i, e, rfl, HE.out, HME.out⟩⟩
    · obtain rfl : i = es.length := by omega
      go_wp2
      go_ret
      refine ⟨hB, .inl ⟨rfl, fun e he => ?_⟩⟩
      obtain ⟨j, hj⟩ := List.mem_iff_getElem?.1 he
      exact HI.out j (List.getElem?_eq_some_iff.1 hj).1 e hj
set_option maxHeartbeats 4000000 in
theorem early_ {w : World} {B lp gb : Nat} {ev a2 : Value} {h : List HTx} {es : List Edge} (hl : Led w B lp h) (hg : w.heap[gb]? = some (.cells #[.pointer (some ⟨lp, 0, none⟩), ev, a2] 95)) (hgB : gb < B)
    (hr : Rows w B 4 (Flat edgeC) ev es) (hes : ∀ e ∈ es, EdgeIn h e) :
    Calls Tryz.prog 65 #[.pointer (some ⟨gb, 0, none⟩)] w fun e w' => Below w.heap.size w w' ∧ ((e = .returned (.slice none 0 0) ∧ ∀ e ∈ es, earlyB h e = false) ∨ (∃ a n c, e = .returned (.slice (some a) n c) ∧ ∃ e ∈ es, earlyB h e = true)) := by
  obtain ⟨EA, ec, rfl, hc1, hc2⟩ := hr.shape
  simp only [maxLen] at hc2
  have hle := hl.le
  have hgw : gb < w.heap.size := by omega
  obtain ⟨W1, hW1⟩ : ∃ W1, W1 = w.alloc (.cells #[.pointer (some ⟨gb, 0, none⟩)] 91) := ⟨_, rfl⟩
  have hB1 : Below w.heap.size w W1 := by rw [hW1]; exact bel1 _ _
  have hz1 : W1.heap.size = w.heap.size + 1 := by rw [hW1]; simp
  have hbx : W1.heap[w.heap.size]? = some (.cells #[.pointer (some ⟨gb, 0, none⟩)] 91) := by rw [hW1]; exact heap_alloc_new _ _
  have hg1 := (hB1.block gb hgw).trans hg
  have hl1 : Led W1 B lp h := hl.below hB1 hl.le
  have hr1 : Rows W1 B 4 (Flat edgeC) (.slice EA es.length ec) es := hr.flat (fun j hj => hB1.block j (by omega))
  have hc := Lib.hid (indexEdge_ hr1 hl1.le 105 #[.pointer (some ⟨w.heap.size, 0, none⟩)] (earlyB h) (enters_of Tryz.func105 (by kernel_rfl) rfl)
    (fun e W he hB => early1_ (hl1.below hB hl1.le) ((hB.block gb (by omega)).trans hg1) ((hB.block w.heap.size (by omega)).trans hbx) e (hes e he)))
  have hmf : ∀ (fn : Fn) (first cap : Array Value) (w : World), (Instr.makeFunc fn first cap).run Tryz.prog w = .ok (.func fn first cap) w := fun _ _ _ _ => rfl
  have b0 := (cells_of (cs := [.pointer (some ⟨gb, 0, none⟩)]) hbx).1 0
  have g1 := (cells_of hg1).1 1
  have hwl : w.heap.size < W1.heap.size := by omega
  have hgl : gb < W1.heap.size := by omega
  have HW1 := Lib.hid hW1
  have HG1 := Lib.hid hg1
  have HBX := Lib.hid hbx
  have HR1 := Lib.hid hr1
  clear hW1 hbx hg hg1 hr hr1
  go_enter Tryz.func65, Tryz.ntmps65
  go_upto_region 1 with (fail)
  rw [← HW1.out]
  go_wp2_with (go_at_call 104; with_reducible refine hc.out.mono ?_)
  rintro e w1 ⟨hB, he⟩
  rcases he with ⟨rfl, h1⟩ | ⟨i, e1, rfl, hi, h1⟩
  · have H1 := Lib.hid h1
    clear h1
    go_wp2
    go_ret
    exact ⟨hB1.trans (hB.mono (by omega)), .inl ⟨rfl, H1.out⟩⟩
  · have hil : i < es.length := (List.getElem?_eq_some_iff.1 hi).1
    have hili : (i : Int) < es.length := by omega
    have hz2 := hB.size
    obtain ⟨b, o, c2, hq, hb, p0, p1, p2, p3⟩ := HR1.out.get4 hi (wr := w1) (fun j hj => hB.block j (by omega)) rfl
    cases hq
    have hbr : b < w1.heap.size := by omega
    have b1 := (World.cell?_of_block (a := ⟨w.heap.size, 0, none⟩) (hB.block w.heap.size (by omega))).trans b0
    have g2 := (World.cell?_of_block (a := ⟨gb, 1, none⟩) (hB.block gb (by omega))).trans g1
    have hi1 : w.heap.size < w1.heap.size := by omega
    have hi2 : gb < w1.heap.size := by omega
    have hnl : ¬ (i : Int) < 0 := by omega
    have H1 := Lib.hid (And.intro h1 (List.mem_of_getElem? hi))
    clear h1 hi b0 g1
    go_wp2
    go_ret
    exact ⟨(hB1.trans (hB.mono (by omega))).trans ((bel1 _ _).mono (by omega)), .inr ⟨_, _, _, rfl, e1, H1.out.2, H1.out.1⟩⟩
end Go.Proofs.YtooigfkjdemnlaaGreatDoor

namespace Go.Proofs.YtooigfkjdemnlaaGreatDoor
set_option maxRecDepth 100000
open Go.RowKit Go.Lib Go.Sort Go.Shelf Xw

section
variable {K : Type} [DecidableEq K] {α : Type} {enc : K → Value} {e : TypeId} {size : Nat} {ev : α → List Value} {w w' : World} {mb : Nat} {f : K → List α} {C : Nat → Prop} {L : List (K × Value)}
def OwnN (enc : K → Value) (e : TypeId) (size : Nat) (ev : α → List Value) (w : World) (mb : Nat) (f : K → List α) (C : Nat → Prop) (L : List (K × Value)) : Prop :=
  C mb ∧ KMap enc w mb L ∧ (∀ k, f k ≠ [] → k ∈ L.map (·.1)) ∧ ∃ col : K → Nat → Prop, (∀ k, Sl w e size ((kget L k).getD (.slice none 0 0)) (f k).length ((f k).flatMap ev) (col k)) ∧ (∀ k j, col k j → C j ∧ j ≠ mb) ∧ ∀ k k' j, col k j → col k' j → k = k'
theorem OwnN.chg {F : Nat → Prop} (h : OwnN enc e size ev w mb f C L) (hc : Chg F w w') (hd : ∀ j, C j → ¬ F j) : OwnN enc e size ev w' mb f C L := by
  obtain ⟨hm, hk, hl, col, h1, h2, h3⟩ := h
  exact ⟨hm, hk.chg hc (hd _ hm), hl, col, fun k => (h1 k).chg hc (fun j hj => hd j (h2 k j hj).1), h2, h3⟩
theorem OwnN.mono {C' : Nat → Prop} (h : OwnN enc e size ev w mb f C L) (hc : ∀ j, C j → C' j) : OwnN enc e size ev w mb f C' L := by
  obtain ⟨hm, hk, hl, col, h1, h2, h3⟩ := h
  exact ⟨hc _ hm, hk, hl, col, h1, fun k j hj => ⟨hc _ (h2 k j hj).1, (h2 k j hj).2⟩, h3⟩
theorem OwnN.at_ (h : OwnN enc e size ev w mb f C L) (k : K) : ∃ F : Nat → Prop, Sl w e size ((kget L k).getD (.slice none 0 0)) (f k).length ((f k).flatMap ev) F ∧ (∀ j, F j → C j ∧ j ≠ mb) ∧
    ∀ (w4 w5 : World) (v2 : Value) (l2 : List α) (F4 : Nat → Prop), Sl w4 e size v2 l2.length (l2.flatMap ev) F4 → (∀ j, F4 j → F j ∨ (w.heap.size ≤ j ∧ j < w4.heap.size)) → Chg F w w4 → KMap enc w5 mb (kset L k v2) → Chg (fun j => j = mb) w4 w5 →
      (∀ j, C j → j < w.heap.size) → OwnN enc e size ev w5 mb (fun k' => if k' = k then l2 else f k') (fun j => C j ∨ (w.heap.size ≤ j ∧ j < w4.heap.size)) (kset L k v2) := by
  obtain ⟨hm, hk, hl, col, h1, h2, h3⟩ := h
  refine ⟨col k, h1 k, h2 k, fun w4 w5 v2 l2 F4 hs hf hc hk5 hc5 hC => ⟨.inl hm, hk5, fun k' hk' => ?_, fun k' j => if k' = k then F4 j else col k' j, fun k' => ?_, fun k' j hj => ?_, fun k1 k2 j h4 h5 => ?_⟩⟩
  · rw [mem_kset]
    by_cases e : k' = k
    · exact .inr e
    · simp only [if_neg e] at hk'; exact .inl (hl k' hk')
  · rw [kget_kset]
    by_cases e : k' = k
    · subst e
      simp only [if_true, Option.getD_some]
      refine hs.chg hc5 fun j hj ej => ?_
      rcases hf j hj with h | ⟨h, _⟩
      · exact (h2 k' j h).2 ej
      · have := hC _ hm; omega
    · simp only [if_neg e]
      exact ((h1 k').chg hc (fun j hj hj' => e (h3 _ _ _ hj hj'))).chg hc5 (fun j hj => (h2 _ _ hj).2)
  · by_cases e : k' = k
    · subst e
      simp only [if_true] at hj
      rcases hf j hj with h | h
      · exact ⟨.inl (h2 _ _ h).1, (h2 _ _ h).2⟩
      · exact ⟨.inr h, by have := hC _ hm; omega⟩
    · simp only [if_neg e] at hj
      exact ⟨.inl (h2 _ _ hj).1, (h2 _ _ hj).2⟩
  · have hn : ∀ k' j, k' ≠ k → col k' j → F4 j → False := fun k' j e h6 h7 => by
      rcases hf j h7 with h | ⟨h, _⟩
      · exact e (h3 _ _ _ h6 h)
      · have := hC _ (h2 _ _ h6).1; omega
    by_cases e1 : k1 = k <;> by_cases e2 : k2 = k
    · exact e1.trans e2.symm
    · simp only [if_pos e1] at h4; simp only [if_neg e2] at h5; exact (hn _ _ e2 h5 h4).elim
    · simp only [if_neg e1] at h4; simp only [if_pos e2] at h5; exact (hn _ _ e1 h4 h5).elim
    · simp only [if_neg e1] at h4; simp only [if_neg e2] at h5; exact h3 _ _ _ h4 h5
theorem OwnN.mapOfK {B : Nat} (henc : ∀ x, (ev x).length = size) (h : OwnN enc e size ev w mb f C L) (hB : w.heap.size ≤ B) : MapOfK enc w B mb size ev f := by
  obtain ⟨hm, hk, hl, col, h1, h2, h3⟩ := h
  refine ⟨Nat.lt_of_lt_of_le hk.lt hB, L, hk, fun k v hv => ?_, fun k hn => hl k hn⟩
  have := h1 k
  rw [kget_mem hk.nodup hv] at this
  exact Rows.of_sl henc this hB
end
def startB (h : List HTx) (t u : Nat) : Bool := decide (t ≠ u) && com h t && com h u && (match h[t]?, h[u]? with
  | some x, some y => decide (x.fin ≤ y.bgn)
  | _, _ => false)
def startsN (h : List HTx) (t : Nat) : Nat → List Edge
  | 0 => []
  | u + 1 => if startB h t u = true then startsN h t u ++ [⟨t, u, 0, ⟨#[]⟩⟩] else startsN h t u
def outS (h : List HTx) (es : List Edge) (t n : Nat) : List Edge := (es.filter fun (e : Edge) => decide (e.frm = (t : Int))) ++ startsN h t n
def starts (h : List HTx) (es : List Edge) : Nat → List Edge
  | 0 => []
  | t + 1 => starts h es t ++ outS h es t h.length
def fS (h : List HTx) (es : List Edge) (t : Nat) (x : List Edge) : Int → List Edge := fun k => if k = (t : Int) then x else if 0 ≤ k ∧ k < t then outS h es k.toNat h.length else []
theorem startsN_frm (h : List HTx) (t : Nat) : ∀ u e, e ∈ startsN h t u → e.frm = t
  | 0, e, he => by cases he
  | u + 1, e, he => by
    unfold startsN at he
    split at he
    · rcases List.mem_append.1 he with h1 | h1
      · exact startsN_frm h t u e h1
      · simp at h1; subst h1; rfl
    · exact startsN_frm h t u e he
theorem startsN_len (h : List HTx) (t : Nat) : ∀ u, (startsN h t u).length ≤ u
  | 0 => Nat.le_refl _
  | u + 1 => by
    have := startsN_len h t u
    unfold startsN
    split
    · simp; omega
    · omega
theorem outS_frm {h : List HTx} {es : List Edge} {t n : Nat} {e : Edge} (he : e ∈ outS h es t n) : e.frm = t := by
  rcases List.mem_append.1 he with h1 | h1
  · simpa using (List.mem_filter.1 h1).2
  · exact startsN_frm h t n e h1
theorem starts_filter (h : List HTx) (es : List Edge) : ∀ (n : Nat), (fun k : Int => (starts h es n).filter fun e => decide (e.frm = k)) = fS h es n []
  | 0 => by funext k; unfold fS; simp [starts]; intro h1 h2; omega
  | n + 1 => by
    have ih := starts_filter h es n
    funext k
    have ihk := congrFun ih k
    simp only [starts, List.filter_append] at ihk ⊢
    rw [ihk]
    unfold fS
    by_cases hk : k = (n : Int)
    · subst hk
      rw [if_pos rfl, if_neg (by omega), if_pos (by omega), List.nil_append]
      rw [List.filter_eq_self.2 (fun e he => by simp [outS_frm he])]
      rfl
    · rw [if_neg hk, List.filter_eq_nil_iff.2 (fun e he => by rw [outS_frm he]; simpa using fun h => hk h.symm), List.append_nil]
      by_cases h2 : k = ((n + 1 : Nat) : Int)
      · rw [if_pos h2, if_neg (by omega)]
      · rw [if_neg h2]
        by_cases h3 : 0 ≤ k ∧ k < n
        · rw [if_pos h3, if_pos (by omega)]
        · rw [if_neg h3, if_neg (by omega)]
theorem fS_zero (h : List HTx) (es : List Edge) (k : Int) : fS h es 0 [] k = [] := by
  unfold fS
  split
  · rfl
  · rw [if_neg (by omega)]
theorem fS_next (h : List HTx) (es : List Edge) (t : Nat) : fS h es t (outS h es t h.length) = fS h es (t + 1) [] := by
  funext k
  unfold fS
  by_cases hk : k = (t : Int)
  · subst hk
    rw [if_pos rfl, if_neg (by omega), if_pos (by omega)]
    rfl
  · rw [if_neg hk]
    by_cases h2 : k = ((t + 1 : Nat) : Int)
    · rw [if_pos h2, if_neg (by omega)]
    · rw [if_neg h2]
      by_cases h3 : 0 ≤ k ∧ k < t
      · rw [if_pos h3, if_pos (by omega)]
      · rw [if_neg h3, if_neg (by omega)]
theorem fS_set (h : List HTx) (es : List Edge) (t : Nat) (x y : List Edge) : (fun k' : Int => if k' = (t : Int) then y else fS h es t x k') = fS h es t y := by
  funext k
  unfold fS
  by_cases hk : k = (t : Int)
  · rw [if_pos hk, if_pos hk]
  · rw [if_neg hk, if_neg hk, if_neg hk]
end Go.Proofs.YtooigfkjdemnlaaGreatDoor

namespace Go.Proofs.YtooigfkjdemnlaaGreatDoor
variable {h : List HTx} {k : ByteArray}

theorem com_order {i : Nat} {u : Inst} (hi : (order h k)[i]? = some u) : com h u.txn = true := by
  obtain ⟨x, w, h1, h2, _⟩ := mem_order.1 (List.mem_of_getElem? hi)
  exact com_iff.2 ⟨x, h1, h2⟩
def EdgeC (h : List HTx) (e : Edge) : Prop := ∃ u t : Nat, e.frm = u ∧ e.to = t ∧ com h u = true ∧ com h t = true ∧ u ≠ t
theorem item_com {t : Nat} {v : HVer} {e : Edge} (hv : verOk h v) (hc : com h t = true) (hq : QItem h t v e) : EdgeC h e := by
  obtain ⟨h1, h2, h3⟩ := hq
  obtain ⟨f, y, hf, hy⟩ := verOk_nat hv
  rcases h3 with rfl | ⟨u, _, hu, hne, rfl⟩
  · exact ⟨f, t, hf, rfl, by rw [hf, Int.toNat_natCast] at h2; exact h2, hc, by omega⟩
  · exact ⟨t, u.txn, rfl, rfl, hc, com_order hu, by omega⟩
theorem scan_com {t : Nat} {o : HOpr} {e : Edge} (hc : com h t = true) (hq : QScan h t o k e) : EdgeC h e := by
  obtain ⟨_, ⟨i, u, _, hu, hne, rfl⟩ | ⟨i, u, _, hu, hne, rfl⟩⟩ := hq
  · exact ⟨u.txn, t, rfl, rfl, com_order hu, hc, by omega⟩
  · exact ⟨t, u.txn, rfl, rfl, hc, com_order hu, by omega⟩
theorem edge_com (H : Fine h) {e : Edge} (he : e ∈ edgesOf h) : EdgeC h e := by
  rcases mem_edgesOf.1 he with ⟨k, _, i, u, v, hu, hv, hne, rfl⟩ | ⟨t, x, j, o, hx, hc, ho, hq⟩
  · exact ⟨u.txn, v.txn, rfl, rfl, com_order hu, com_order hv, by omega⟩
  · have hsk : ∀ v ∈ seenOf o, verOk h v := fun v hv => seenOf_ok H hx ho hv
    rcases hq with ⟨hk, hq⟩ | ⟨hk, ⟨v, hv, hq⟩ | ⟨k, _, _, _, hq⟩⟩
    · exact item_com (hsk _ (by unfold seenOf; rw [if_pos hk]; simp)) hc hq
    · exact item_com (hsk _ (by unfold seenOf; rw [if_neg (by omega), if_neg (by omega)]; exact hv)) hc hq
    · exact scan_com hc hq
theorem EdgeC.in_ {e : Edge} (he : EdgeC h e) : EdgeIn h e ∧ e.frm ≠ e.to := by
  obtain ⟨u, t, h1, h2, h3, h4, h5⟩ := he
  obtain ⟨x, hx, _⟩ := com_iff.1 h3
  obtain ⟨y, hy, _⟩ := com_iff.1 h4
  exact ⟨⟨u, t, x, y, h1, h2, hx, hy⟩, by omega⟩
theorem edgesOf_len (L : Lim h) : (edgesOf h).length < 9000000000 := by
  unfold edgesOf
  have h1 := dedup_len ((txsE h h.length).mergeSort edgeLe)
  rw [List.length_mergeSort] at h1
  have h2 := txsE_len L h.length
  have h3 := L.n
  have h4 : 33685504 * h.length ≤ 33685504 * 256 := Nat.mul_le_mul_left _ h3
  omega
theorem filter_split (es : List Edge) (n : Nat) : (es.filter fun e => decide (0 ≤ e.frm ∧ e.frm < ((n + 1 : Nat) : Int))).length = (es.filter fun e => decide (0 ≤ e.frm ∧ e.frm < (n : Int))).length + (es.filter fun (e : Edge) => decide (e.frm = (n : Int))).length := by
  induction es with
  | nil => rfl
  | cons e r ih =>
    simp only [List.filter_cons]
    by_cases h1 : e.frm = (n : Int)
    · have h2 : (0 ≤ e.frm ∧ e.frm < ((n + 1 : Nat) : Int)) := by omega
      have h3 : ¬ (0 ≤ e.frm ∧ e.frm < (n : Int)) := by omega
      rw [if_pos (by simpa using h2), if_neg (by simpa using h3), if_pos (by simpa using h1)]
      simp only [List.length_cons]
      omega
    · rw [if_neg (c := decide (e.frm = (n : Int)) = true) (by simpa using h1)]
      by_cases h2 : 0 ≤ e.frm ∧ e.frm < (n : Int)
      · have h3 : 0 ≤ e.frm ∧ e.frm < ((n + 1 : Nat) : Int) := by omega
        rw [if_pos (by simpa using h3), if_pos (by simpa using h2)]
        simp only [List.length_cons]
        omega
      · have h3 : ¬ (0 ≤ e.frm ∧ e.frm < ((n + 1 : Nat) : Int)) := by omega
        rw [if_neg (by simpa using h3), if_neg (by simpa using h2)]
        exact ih
theorem starts_len' (h : List HTx) (es : List Edge) : ∀ n, (starts h es n).length ≤ (es.filter fun e => decide (0 ≤ e.frm ∧ e.frm < (n : Int))).length + n * h.length
  | 0 => by simp [starts]
  | n + 1 => by
    have ih := starts_len' h es n
    have h1 := startsN_len h n h.length
    rw [filter_split]
    simp only [starts, outS, List.length_append]
    rw [Nat.succ_mul]
    omega
theorem starts_len (L : Lim h) : (starts h (edgesOf h) h.length).length < 60000000000 := by
  have h1 := starts_len' h (edgesOf h) h.length
  have h2 := List.length_filter_le (fun e : Edge => decide (0 ≤ e.frm ∧ e.frm < (h.length : Int))) (edgesOf h)
  have h3 := edgesOf_len L
  have h4 := L.n
  have h5 : h.length * h.length ≤ 256 * 256 := Nat.mul_le_mul h4 h4
  omega
end Go.Proofs.YtooigfkjdemnlaaGreatDoor

namespace Go.Proofs.YtooigfkjdemnlaaGreatDoor
variable {h : List HTx} {l : List Nat} {k : ByteArray}

theorem op_at {t : Nat} {x : HTx} {i : Nat} {o : HOpr} (h0 : operation h t x i o = 0) (hk : o.kind = 3) (hc : com h t = true) : x.bgn ≤ o.at_ ∧ o.at_ ≤ x.fin := by
  have := (op_scan h0 hk).2.2.2
  refine ⟨?_, ?_⟩
  · exact Int.not_lt.1 fun h1 => this (.inr ⟨hc, .inl h1⟩)
  · exact Int.not_lt.1 fun h1 => this (.inr ⟨hc, .inr h1⟩)
theorem tellsAt_none {o : HOpr} : tellsAt o k = none ↔ ∀ v ∈ o.seen, v.key ≠ k := by
  unfold tellsAt
  rw [List.find?_eq_none]
  simp
theorem order_nil (hk : k ∉ keysOf h) : order h k = [] := by
  rw [mem_keysOf_ins] at hk
  have h1 : insUpto h h.length k = [] := Classical.byContradiction hk
  have := order_len h k
  rw [h1] at this
  exact List.eq_nil_of_length_eq_zero this
theorem writes_nil {t : Nat} {x : HTx} (hx : h[t]? = some x) (hc : com h t = true) (hk : k ∉ keysOf h) : writes x k = [] := by
  cases hw : (writes x k).getLast? with
  | none => exact List.getLast?_eq_none_iff.1 hw
  | some w =>
    obtain ⟨i, hi⟩ := writes_key hx hc hw
    exact absurd (key_of_order hi) hk
theorem untold_gone (H : Fine h) (L : Line h l) {n t : Nat} {x : HTx} {i : Nat} {o : HOpr}
    (hn : l[n]? = some t) (hx : h[t]? = some x) (ho : x.ops[i]? = some o) (hk3 : o.kind = 3) (hcv : covers o k = true) (hut : tellsAt o k = none) : applyN x t (stAt h l n) i k = none := by
  have hil := (List.getElem?_eq_some_iff.1 ho).1
  have hnl := (List.getElem?_eq_some_iff.1 hn).1
  have hct := (L.cm t).1 (List.mem_of_getElem? hn)
  obtain ⟨y, hy, hfx⟩ := com_iff.1 hct
  rw [hx] at hy; cases hy
  rw [applyN_spec _ _ _ _ _ (by omega)]
  obtain ⟨c, hcut⟩ := L.cut k n
  have hst := L.stAt (by omega) hcut
  by_cases hkk : k ∈ keysOf h
  · have hok : okKey h t x i o k = true := by
      have hcmp := (op_scan (H.op t x hx i o ho) hk3).2.2.1 hct
      unfold complete at hcmp
      rw [List.all_eq_true] at hcmp
      exact hcmp k (List.mem_filter.2 ⟨hkk, by simp [hut, hcv]⟩)
    unfold okKey at hok
    rw [aheadL_wrUpto (by omega)] at hok
    cases hw : (wrUpto x i k).getLast? with
    | some w =>
      rw [hw] at hok
      simp only at hok ⊢
      rw [hok]; rfl
    | none =>
      rw [hw] at hok
      simp only at hok ⊢
      have hw0 : wrUpto x i k = [] := List.getLast?_eq_none_iff.1 hw
      rw [hst]
      refine curAt_dead hcut.1 ?_
      obtain ⟨N, hN⟩ : ∃ N, N = chosen h t k o.at_ := ⟨_, rfl⟩
      have hNl : N ≤ (order h k).length := by rw [hN]; exact chosenUpto_le _ _ _ _
      have hdead : deadAt (order h k) N = true := by
        rw [← hN] at hok
        cases N with
        | zero => rfl
        | succ c' =>
          simp only at hok
          simp only [deadAt]
          cases hv : (order h k)[c']? with
          | none => rfl
          | some v => rw [hv] at hok; exact hok
      have hsn : scanN h t o k = N := by unfold scanN; rw [hut, hN]
      have hedge : ∀ e, QScan h t o k e → e ∈ edgesOf h := fun e he => by
        refine mem_edgesOf.2 (.inr ⟨t, x, i, o, hx, hct, ho, .inr ⟨hk3, .inr ⟨k, hkk, ?_, hcv, he⟩⟩⟩)
        rw [aheadL_wrUpto (by omega), hw0]; rfl
      have hnt : ¬ ((tellsAt o k).isSome = true ∧ scanN h t o k = 0) := fun h1 => by rw [hut] at h1; cases h1.1
      -- below: the last turn stands ahead of t
      have hdown : ∀ d, downTurn (order h k) N = some d → d < c := fun d hd => by
        obtain ⟨hdN, htd, _⟩ := downTurn_some hd
        obtain ⟨u, hu⟩ : ∃ u, (order h k)[d]? = some u := ⟨_, List.getElem?_eq_getElem (by omega)⟩
        have hut' : u.txn ≠ t := fun e => by
          obtain ⟨c', rfl⟩ : ∃ c', N = c' + 1 := ⟨N - 1, by omega⟩
          obtain ⟨z, hz, hz1, hz2⟩ := chosenUpto_at hN.symm
          have h1 := order_sorted h k hu hz (by omega)
          obtain ⟨y1, w1, g1, g2, g3, g4⟩ := mem_order.1 (List.mem_of_getElem? hu)
          obtain ⟨y2, w2, k1, k2, k3, k4⟩ := mem_order.1 (List.mem_of_getElem? hz)
          rw [e, hx] at g1; cases g1
          have e1 : u.fin = x.fin := by rw [g4]
          have e2 : z.fin = y2.fin := by rw [k4]
          have h2 := (op_at (H.op t x hx i o ho) hk3 hct).2
          exact hz1 (ends_inj H hx k1 hfx k2 (by omega))
        obtain ⟨m, hm⟩ := L.at_ hu
        obtain ⟨a, b, ta, tb, g1, g2, g3, g4, g5⟩ := L.rise _ (hedge ⟨u.txn, t, 3, k⟩ ⟨hnt, .inl ⟨d, u, by rw [hsn]; exact hd, hu, by omega, rfl⟩⟩)
        simp only at g4 g5
        obtain rfl : u.txn = ta := by omega
        obtain rfl : t = tb := by omega
        have := L.inj g3 hn
        have := L.inj g2 hm
        exact (hcut.2 d u m hu hm).2 (by omega)
      have hup : ∀ d, upTurn (order h k) N ((order h k).length - N) = some d → c ≤ d := fun d hd => by
        obtain ⟨hd1, hd2, htd, _⟩ := upTurn_some hd
        obtain ⟨u, hu⟩ : ∃ u, (order h k)[d]? = some u := ⟨_, List.getElem?_eq_getElem (by omega)⟩
        obtain ⟨m, hm⟩ := L.at_ hu
        have hnm : n ≤ m := by
          by_cases hut' : u.txn = t
          · rw [hut'] at hm
            have := L.inj hm hn; omega
          · obtain ⟨a, b, ta, tb, g1, g2, g3, g4, g5⟩ := L.rise _ (hedge ⟨t, u.txn, 5, k⟩ ⟨hnt, .inr ⟨d, u, by rw [hsn]; exact hd, hu, by omega, rfl⟩⟩)
            simp only at g4 g5
            obtain rfl : t = ta := by omega
            obtain rfl : u.txn = tb := by omega
            have := L.inj g2 hn
            have := L.inj g3 hm
            omega
        refine Nat.le_of_not_lt fun h1 => ?_
        have := (hcut.2 d u m hu hm).1 h1
        omega
      rcases Nat.le_total N c with hNc | hcN
      · -- nothing turns from N to c
        obtain ⟨d, rfl⟩ : ∃ d, c = N + d := ⟨c - N, by omega⟩
        rw [deadAt_same d hcut.1 (fun j h1 h2 => ?_)]
        · exact hdead
        · cases hu : upTurn (order h k) N ((order h k).length - N) with
          | none => exact upTurn_none hu j h1 (by have := hcut.1; omega)
          | some q => exact (upTurn_some hu).2.2.2 j h1 (by have := hup q hu; omega)
      · obtain ⟨d, rfl⟩ : ∃ d, N = c + d := ⟨N - c, by omega⟩
        rw [← deadAt_same d hNl (fun j h1 h2 => ?_)]
        · exact hdead
        · cases hu : downTurn (order h k) (c + d) with
          | none => exact downTurn_none hu j h2
          | some q => exact (downTurn_some hu).2.2 j (by have := hdown q hu; omega) h2
  · have hwx := writes_nil hx hct hkk
    obtain ⟨r, hr⟩ := wrUpto_pre (x := x) (k := k) (i := i) (by omega)
    rw [hwx] at hr
    have hw0 : wrUpto x i k = [] := (List.append_eq_nil_iff.1 hr.symm).1
    rw [hw0]
    simp only [List.getLast?_nil]
    rw [hst]
    have ho := order_nil hkk
    have hc0 : c = 0 := by have := hcut.1; rw [ho] at this; simpa using this
    rw [hc0]; rfl
theorem klt_of_kle {a b : ByteArray} (h1 : kle a b = true) (hne : a ≠ b) : klt a b = true := by
  cases h2 : klt a b with
  | true => rfl
  | false =>
    have h3 : klt b a = false := by
      rw [kle_eq] at h1
      simpa using h1
    exact absurd (klt_anti h2 h3) hne
theorem rising_unique {a b : List ByteArray} (ha : a.Pairwise (fun x y => klt x y = true)) (hb : b.Pairwise (fun x y => klt x y = true)) (hm : ∀ x, x ∈ a ↔ x ∈ b) : a = b := by
  have hna : a.Nodup := ha.imp (fun {x y} hxy e => by subst e; rw [klt_irrefl] at hxy; cases hxy)
  have hnb : b.Nodup := hb.imp (fun {x y} hxy e => by subst e; rw [klt_irrefl] at hxy; cases hxy)
  refine List.Perm.eq_of_pairwise (le := fun x y => klt x y = true) (fun x y _ _ h1 h2 => ?_) ha hb ((List.perm_ext_iff_of_nodup hna hnb).2 hm)
  have := klt_trans h1 h2
  rw [klt_irrefl] at this
  cases this
theorem keysOf_rising (h : List HTx) : (keysOf h).Pairwise (fun a b => klt a b = true) := by
  have h1 := keysOf_sorted h
  have h2 := keysOf_nodup h
  exact (h1.and h2).imp (fun {a b} hab => klt_of_kle hab.1 hab.2)
theorem cmpS_lt {a b : ByteArray} (h1 : cmpS a b ≤ 0) (h2 : ¬ cmpS a b = 0) : klt a b = true := by
  unfold cmpS at h1 h2
  by_cases h3 : klt a b = true
  · exact h3
  · rw [if_neg h3] at h1 h2
    by_cases h4 : (a.toList == b.toList) = true
    · rw [if_pos h4] at h2; exact absurd rfl h2
    · rw [if_neg h4] at h1; exact absurd h1 (by decide)
theorem pairwise_of_next {α : Type} {R : α → α → Prop} (ht : ∀ a b c, R a b → R b c → R a c) {l : List α} (hn : ∀ i a b, l[i]? = some a → l[i + 1]? = some b → R a b) : l.Pairwise R := by
  rw [List.pairwise_iff_getElem]
  have key : ∀ d i a b, l[i]? = some a → l[i + (d + 1)]? = some b → R a b := by
    intro d
    induction d with
    | zero => intro i a b ha hb; exact hn i a b ha hb
    | succ d ih =>
      intro i a b ha hb
      have hl := (List.getElem?_eq_some_iff.1 hb).1
      obtain ⟨c, hc⟩ : ∃ c, l[i + (d + 1)]? = some c := ⟨_, List.getElem?_eq_getElem (by omega)⟩
      exact ht a c b (ih i a c ha hc) (hn (i + (d + 1)) c b hc (by rw [show i + (d + 1) + 1 = i + (d + 1 + 1) by omega]; exact hb))
  intro i j hi hj hij
  exact key (j - i - 1) i _ _ (List.getElem?_eq_getElem hi) (by rw [show i + (j - i - 1 + 1) = j by omega]; exact List.getElem?_eq_getElem hj)
theorem seen_rising (H : Fine h) {t : Nat} {x : HTx} {i : Nat} {o : HOpr} (hx : h[t]? = some x) (hc : com h t = true) (ho : x.ops[i]? = some o) (hk3 : o.kind = 3) : (o.seen.map (·.key)).Pairwise (fun a b => klt a b = true) := by
  have hs := (op_scan (H.op t x hx i o ho) hk3).2.1
  refine pairwise_of_next (R := fun a b => klt a b = true) (fun a b c h1 h2 => klt_trans h1 h2) (fun j a b ha hb => ?_)
  rw [List.getElem?_map] at ha hb
  obtain ⟨u, hu, rfl⟩ := Option.map_eq_some_iff.1 ha
  obtain ⟨v, hv, rfl⟩ := Option.map_eq_some_iff.1 hb
  have h3 := (seenOk_all hs (j + 1) v (List.getElem?_eq_some_iff.1 hv).1 hv).2.2
  simp only [riseOk, hu] at h3
  simp only [Bool.and_eq_true, decide_eq_true_eq, Bool.or_eq_true, Bool.not_eq_true', hc] at h3
  refine cmpS_lt h3.1 (fun h4 => ?_)
  rcases h3.2 with h5 | h5
  · rw [h4] at h5; simp at h5
  · cases h5
theorem state_keys (L : Line h l) {n t : Nat} {x : HTx} {i : Nat} (hn : l[n]? = some t) (hx : h[t]? = some x) (hi : i ≤ x.ops.length) (hs : applyN x t (stAt h l n) i k ≠ none) : k ∈ keysOf h := by
  refine Classical.byContradiction fun hkk => hs ?_
  have hct := (L.cm t).1 (List.mem_of_getElem? hn)
  have hnl := (List.getElem?_eq_some_iff.1 hn).1
  rw [applyN_spec _ _ _ _ _ hi]
  have hwx := writes_nil hx hct hkk
  obtain ⟨r, hr⟩ := wrUpto_pre (x := x) (k := k) (i := i) hi
  rw [hwx] at hr
  have hw0 : wrUpto x i k = [] := (List.append_eq_nil_iff.1 hr.symm).1
  obtain ⟨c, hcut⟩ := L.cut k n
  rw [hw0]
  simp only [List.getLast?_nil]
  rw [L.stAt (by omega) hcut]
  have ho := order_nil hkk
  have hc0 : c = 0 := by have := hcut.1; rw [ho] at this; simpa using this
  rw [hc0]; rfl
theorem line_replays (H : Fine h) (L : Line h l) (hA : ¬ ToldB h (badA h)) (hB : ¬ ToldB h (badB h)) : ReplayOK h l := by
  intro n t x i o hn hx ho hk2
  have hil := (List.getElem?_eq_some_iff.1 ho).1
  have hct := (L.cm t).1 (List.mem_of_getElem? hn)
  have hop := H.op t x hx i o ho
  unfold SameP
  rcases op_kind hop with hk | hk | hk
  · rw [if_pos hk]
    obtain ⟨u, hu, _⟩ := op_read hop hk
    rw [told_stands H L hA hB hn hx ho (by unfold seenOf; rw [if_pos hk]; simp) hu]
    rfl
  · exact absurd hk hk2
  · rw [if_neg (by omega)]
    obtain ⟨s, hs⟩ : ∃ s, s = applyN x t (stAt h l n) i := ⟨_, rfl⟩
    rw [← hs]
    have hseen : ∀ v ∈ o.seen, s v.key = some v ∧ covers o v.key = true := fun v hv => by
      obtain ⟨j, hj⟩ := List.mem_iff_getElem?.1 hv
      obtain ⟨h1, h2, _⟩ := seenOk_all (op_scan hop hk).2.1 j v (List.getElem?_eq_some_iff.1 hj).1 hj
      obtain ⟨u, hu⟩ := Option.isSome_iff_exists.1 h1
      exact ⟨by rw [hs]; exact told_stands H L hA hB hn hx ho (by unfold seenOf; rw [if_neg (by omega), if_neg (by omega)]; exact hv) hu, h2⟩
    have hkey : ∀ k, s k ≠ none → k ∈ keysOf h := fun k hk' => by rw [hs] at hk'; exact state_keys L hn hx (by omega) hk'
    have hlist : ((keysOf h).filter fun k => (s k).isSome).filter (covers o) = o.seen.map (·.key) := by
      refine rising_unique (((keysOf_rising h).filter _).filter _) (seen_rising H hx hct ho hk) (fun k => ?_)
      rw [List.mem_filter, List.mem_filter, List.mem_map]
      constructor
      · rintro ⟨⟨h1, h2⟩, h3⟩
        refine Classical.byContradiction fun hn' => ?_
        have hnone : tellsAt o k = none := tellsAt_none.2 (fun v hv e => hn' ⟨v, hv, e⟩)
        have := untold_gone H L hn hx ho hk h3 hnone
        rw [hs, this] at h2
        cases h2
      · rintro ⟨v, hv, rfl⟩
        obtain ⟨h1, h2⟩ := hseen v hv
        exact ⟨⟨hkey _ (by rw [h1]; simp), by rw [h1]; rfl⟩, h2⟩
    refine ⟨(keysOf h).filter fun k => (s k).isSome, (keysOf_rising h).filter _, fun k => ?_, ?_⟩
    · rw [List.mem_filter]
      constructor
      · rintro ⟨_, h2⟩ h3
        rw [h3] at h2; cases h2
      · intro h1
        exact ⟨hkey k h1, Option.isSome_iff_ne_none.2 h1⟩
    · rw [hlist, List.map_map]
      conv => lhs; rw [← List.map_id o.seen]
      apply List.map_congr_left
      intro v hv
      simp [(hseen v hv).1]
end Go.Proofs.YtooigfkjdemnlaaGreatDoor

namespace Go.Proofs.YtooigfkjdemnlaaGreatDoor

def seenL (s : KSt) (k : Nat) : Nat → List HVer
  | 0 => []
  | m + 1 => match s (keyB (k + m)) with
    | some v => seenL s k m ++ [v]
    | none => seenL s k m
def actOp (t : Nat) (s : KSt) (a : ActL) : HOpr :=
  if kindOf a = 0 then (match s (keyB (keyOf a)) with
    | some v => ⟨1, v, false, vB, emB, [], 2 * t + 1⟩
    | none => ⟨3, ⟨keyB (keyOf a), 0, 0⟩, false, emB, hiB (keyOf a), [], 2 * t + 1⟩)
  else if kindOf a = 3 then ⟨3, ⟨keyB (keyOf a), 0, 0⟩, false, emB, emB, seenL s (keyOf a) (5 - keyOf a), 2 * t + 1⟩
  else ⟨2, ⟨keyB (keyOf a), 0, 0⟩, decide (kindOf a = 2), vB, emB, [], 0⟩
def actSt (t : Nat) (ops : List HOpr) (s : KSt) (o : HOpr) : KSt := if o.kind = 2 then put s o.ver.key (if o.dead then none else some ⟨o.ver.key, t, ((wrFrom ops o.ver.key 0).length + 1 : Nat)⟩) else s
def txTo (t : Nat) (s : KSt) (acs : List ActL) : Nat → List HOpr × KSt
  | 0 => ([], s)
  | n + 1 => match acs[n]? with
    | some a => ((txTo t s acs n).1 ++ [actOp t (txTo t s acs n).2 a], actSt t (txTo t s acs n).1 (txTo t s acs n).2 (actOp t (txTo t s acs n).2 a))
    | none => txTo t s acs n
def hdrT (t : Nat) (ops : List HOpr) : HTx := ⟨2 + t % 3, 1, 2 * t + 1, 2 * t + 2, 4 * t + 1, 4 * t + 2, 4 * t + 3, 4 * t + 4, ops⟩
def cut40 (n : Nat) : Nat := if n < 40 then n else 40
def linTo (p : List (List ActL)) : Nat → List HTx × KSt
  | 0 => ([], fun _ => none)
  | n + 1 => match p[n]? with
    | some acs => ((linTo p n).1 ++ [hdrT n (txTo n (linTo p n).2 acs (cut40 acs.length)).1], (txTo n (linTo p n).2 acs (cut40 acs.length)).2)
    | none => linTo p n
def toldH (p : List (List ActL)) : List HTx := (linTo p (cut40 p.length)).1

structure TH (h : List HTx) (base : Nat → KSt) (st : Nat → Nat → KSt) : Prop where
  n : h.length ≤ 40
  hdr : ∀ (t : Nat) (x : HTx), h[t]? = some x → x = hdrT t x.ops ∧ x.ops.length ≤ 40
  op : ∀ (t : Nat) (x : HTx), h[t]? = some x → ∀ (i : Nat) (o : HOpr), x.ops[i]? = some o → ∃ a, o = actOp t (st t i) a
  st : ∀ (t : Nat) (x : HTx), h[t]? = some x → ∀ (i : Nat), i ≤ x.ops.length → ∀ k, st t i k = match (aheadL x k i).getLast? with
    | some w => if w.dead then none else some ⟨k, t, (aheadL x k i).length⟩
    | none => base t k
  base0 : ∀ k, base 0 k = none
  baseS : ∀ (t : Nat) (x : HTx), h[t]? = some x → ∀ k, base (t + 1) k = match (writes x k).getLast? with
    | some w => if w.dead then none else some ⟨k, t, (writes x k).length⟩
    | none => base t k

section
variable {t : Nat} {s : KSt} {acs : List ActL}
theorem txTo_len : ∀ n, n ≤ acs.length → (txTo t s acs n).1.length = n
  | 0, _ => rfl
  | n + 1, hn => by
    have ih := txTo_len n (by omega)
    obtain ⟨a, ha⟩ : ∃ a, acs[n]? = some a := ⟨_, List.getElem?_eq_getElem (by omega)⟩
    simp only [txTo, ha, List.length_append, ih]
    rfl
theorem txTo_take : ∀ n i, i ≤ n → n ≤ acs.length → (txTo t s acs n).1.take i = (txTo t s acs i).1
  | 0, i, hi, _ => by
    obtain rfl : i = 0 := by omega
    rfl
  | n + 1, i, hi, hn => by
    by_cases e : i = n + 1
    · subst e
      exact List.take_of_length_le (Nat.le_of_eq (txTo_len (n + 1) hn))
    · have ih := txTo_take n i (by omega) (by omega)
      obtain ⟨a, ha⟩ : ∃ a, acs[n]? = some a := ⟨_, List.getElem?_eq_getElem (by omega)⟩
      have hl := txTo_len (t := t) (s := s) (acs := acs) n (by omega)
      rw [← ih]
      simp only [txTo, ha]
      rw [List.take_append_of_le_length (by omega)]
theorem txTo_op : ∀ n i o, n ≤ acs.length → (txTo t s acs n).1[i]? = some o → ∃ a, acs[i]? = some a ∧ o = actOp t (txTo t s acs i).2 a
  | 0, i, o, _, h => by simp [txTo] at h
  | n + 1, i, o, hn, h => by
    obtain ⟨a, ha⟩ : ∃ a, acs[n]? = some a := ⟨_, List.getElem?_eq_getElem (by omega)⟩
    have hl := txTo_len (t := t) (s := s) (acs := acs) n (by omega)
    simp only [txTo, ha] at h
    by_cases hi : i < n
    · rw [List.getElem?_append_left (by omega)] at h
      exact txTo_op n i o (by omega) h
    · have : i = n := by
        have := (List.getElem?_eq_some_iff.1 h).1
        simp at this; omega
      subst this
      rw [List.getElem?_append_right (by omega), hl, Nat.sub_self] at h
      cases h
      exact ⟨a, ha, rfl⟩
theorem wrFrom_snoc (ops : List HOpr) (o : HOpr) (k : ByteArray) : wrFrom (ops ++ [o]) k 0 = if o.kind = 2 ∧ o.ver.key = k then wrFrom ops k 0 ++ [⟨ops.length, o.dead, o.value⟩] else wrFrom ops k 0 := by
  rw [wrFrom_append]
  simp only [wrFrom, Nat.zero_add]
  split
  · rfl
  · simp
theorem txTo_st : ∀ n, n ≤ acs.length → ∀ k, (txTo t s acs n).2 k = match (wrFrom (txTo t s acs n).1 k 0).getLast? with
    | some w => if w.dead then none else some ⟨k, t, (wrFrom (txTo t s acs n).1 k 0).length⟩
    | none => s k
  | 0, _, k => rfl
  | n + 1, hn, k => by
    have ih := txTo_st n (by omega) k
    obtain ⟨a, ha⟩ : ∃ a, acs[n]? = some a := ⟨_, List.getElem?_eq_getElem (by omega)⟩
    simp only [txTo, ha]
    rw [wrFrom_snoc]
    generalize hO : actOp t (txTo t s acs n).2 a = o
    unfold actSt put
    by_cases h2 : o.kind = 2
    · rw [if_pos h2]
      by_cases hk : k = o.ver.key
      · subst hk
        simp [h2]
      · rw [if_neg hk, if_neg (fun h => hk h.2.symm)]
        exact ih
    · rw [if_neg h2, if_neg (fun h => h2 h.1)]
      exact ih
end
theorem cut40_le (n : Nat) : cut40 n ≤ n ∧ cut40 n ≤ 40 := by unfold cut40; split <;> omega
section
variable {p : List (List ActL)}
theorem linTo_len : ∀ n, n ≤ p.length → (linTo p n).1.length = n
  | 0, _ => rfl
  | n + 1, hn => by
    have ih := linTo_len n (by omega)
    obtain ⟨a, ha⟩ : ∃ a, p[n]? = some a := ⟨_, List.getElem?_eq_getElem (by omega)⟩
    simp only [linTo, ha, List.length_append, ih]
    rfl
theorem linTo_at : ∀ n t x, n ≤ p.length → (linTo p n).1[t]? = some x → ∃ acs, p[t]? = some acs ∧ x = hdrT t (txTo t (linTo p t).2 acs (cut40 acs.length)).1
  | 0, t, x, _, h => by simp [linTo] at h
  | n + 1, t, x, hn, h => by
    obtain ⟨acs, ha⟩ : ∃ a, p[n]? = some a := ⟨_, List.getElem?_eq_getElem (by omega)⟩
    have hl := linTo_len (p := p) n (by omega)
    simp only [linTo, ha] at h
    by_cases hi : t < n
    · rw [List.getElem?_append_left (by omega)] at h
      exact linTo_at n t x (by omega) h
    · have : t = n := by
        have := (List.getElem?_eq_some_iff.1 h).1
        simp at this; omega
      subst this
      rw [List.getElem?_append_right (by omega), hl, Nat.sub_self] at h
      cases h
      exact ⟨acs, ha, rfl⟩
def stOf (p : List (List ActL)) (t i : Nat) : KSt := match p[t]? with
  | some acs => (txTo t (linTo p t).2 acs i).2
  | none => fun _ => none
theorem told_ok (p : List (List ActL)) : TH (toldH p) (fun t => (linTo p t).2) (stOf p) := by
  obtain ⟨c1, c2⟩ := cut40_le p.length
  have hlen : (toldH p).length = cut40 p.length := linTo_len _ c1
  refine ⟨by omega, fun t x hx => ?_, fun t x hx i o ho => ?_, fun t x hx i hi k => ?_, fun k => rfl, fun t x hx k => ?_⟩
  all_goals
    obtain ⟨acs, has, hxe⟩ := linTo_at _ t x c1 hx
    obtain ⟨d1, d2⟩ := cut40_le acs.length
    have hxo : x.ops = (txTo t (linTo p t).2 acs (cut40 acs.length)).1 := by rw [hxe]; rfl
    have hol := txTo_len (t := t) (s := (linTo p t).2) (acs := acs) _ d1
  · exact ⟨by rw [hxo]; exact hxe, by rw [hxo, hol]; exact d2⟩
  · rw [hxo] at ho
    obtain ⟨a, ha, h1⟩ := txTo_op _ i o d1 ho
    refine ⟨a, ?_⟩
    unfold stOf
    rw [has]
    exact h1
  · have hi' : i ≤ cut40 acs.length := by rw [hxo, hol] at hi; exact hi
    have hw : aheadL x k i = wrFrom (txTo t (linTo p t).2 acs i).1 k 0 := by
      rw [aheadL_wrUpto hi]
      unfold wrUpto
      rw [hxo, txTo_take _ i hi' d1]
    rw [hw]
    unfold stOf
    rw [has]
    exact txTo_st i (by omega) k
  · have hw : writes x k = wrFrom (txTo t (linTo p t).2 acs (cut40 acs.length)).1 k 0 := by
      unfold writes
      rw [hxo]
    rw [hw]
    simp only [linTo, has]
    exact txTo_st _ d1 k
end
end Go.Proofs.YtooigfkjdemnlaaGreatDoor
