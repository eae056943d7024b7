/- Own texts of this claim, joined in build order: Sq2, Gt3. -/
import Derived.Test.YtooigfkjdemnlaaGreatDoorG39
import Derived.Test.YtooigfkjdemnlaaGreatDoorG34
set_option linter.all false
namespace Go.Proofs.YtooigfkjdemnlaaGreatDoor
set_option maxRecDepth 100000
open Go.RowKit Go.Lib Go.Sort Go.Shelf Xw

def leftI (h : List HTx) (P : List Pt) (x : Int) : Int := if 0 ≤ x then leftP h P x.toNat else 0
theorem leftI_nat (h : List HTx) (P : List Pt) (t : Nat) : leftI h P t = leftP h P t := by unfold leftI; rw [if_pos (by omega)]; congr 1
structure SqB where
  cl : Nat
  pb : Nat
  tb : Nat
  lb : Nat
  fb : Nat
  mb : Nat
def SqB.ok (b : SqB) (B : Nat) : Prop := B ≤ b.cl ∧ B ≤ b.pb ∧ B ≤ b.tb ∧ B ≤ b.lb ∧ B ≤ b.fb ∧ B ≤ b.mb ∧ b.pb ≠ b.cl ∧ b.pb ≠ b.tb ∧ b.pb ≠ b.lb ∧ b.pb ≠ b.fb ∧ b.pb ≠ b.mb ∧ b.mb ≠ b.cl ∧ b.mb ≠ b.tb ∧ b.mb ≠ b.lb ∧ b.mb ≠ b.fb
def SqB.caps (b : SqB) : Array Value := #[.pointer (some ⟨b.cl, 0, none⟩), .pointer (some ⟨b.pb, 0, none⟩), .pointer (some ⟨b.tb, 0, none⟩), .pointer (some ⟨b.lb, 0, none⟩), .pointer (some ⟨b.fb, 0, none⟩)]
structure TryI (w : World) (B lp : Nat) (h : List HTx) (b : SqB) (T : List Nat) (P : List Pt) (F FT : Nat → Prop) : Prop where
  led : Led w B lp h
  c0 : w.heap[b.cl]? = some (.cells #[.pointer (some ⟨lp, 0, none⟩)] 78)
  c1 : ∃ A cap c, w.heap[b.pb]? = some (.cells #[.slice A P.length cap] 44) ∧ SamePts P c ∧ Sl w 112 3 (.slice A P.length cap) c.length (c.flatMap ptC) F
  c2 : ∃ A cap, w.heap[b.tb]? = some (.cells #[.slice A T.length cap] 34) ∧ Sl w 3 1 (.slice A T.length cap) T.length (T.map fun (t : Nat) => Value.int .i64 t) FT
  c3 : w.heap[b.lb]? = some (.cells #[.map (some b.mb)] 79)
  c4 : w.heap[b.fb]? = some (.cells #[.func (.func 41) #[] b.caps] 25)
  mp : MapN kInt.enc w b.mb (leftI h P)
  ok : b.ok B
  ft : ∀ j, FT j → j ≠ b.pb ∧ j ≠ b.mb ∧ j < w.heap.size
  fr : ∀ j, F j → B ≤ j ∧ j ≠ b.cl ∧ j ≠ b.pb ∧ j ≠ b.tb ∧ j ≠ b.lb ∧ j ≠ b.fb ∧ j ≠ b.mb ∧ ¬ FT j
def TryA (w : World) (B lp : Nat) (h : List HTx) (b : SqB) (T : List Nat) (P L : List Pt) (F FT : Nat → Prop) (e : Ending) (w' : World) : Prop :=
  Chg (fun j => j = b.pb ∨ j = b.mb ∨ F j) w w' ∧ ((e = .returned (.bool true) ∧ ∃ A n c, w'.heap[b.pb]? = some (.cells #[.slice A n c] 44)) ∨
    (e = .returned (.bool false) ∧ ¬ P <+: L ∧ ∃ F', TryI w' B lp h b T P F' FT ∧ From F w w' F'))
theorem TryI.lt {w : World} {B lp : Nat} {h : List HTx} {b : SqB} {T : List Nat} {P : List Pt} {F FT : Nat → Prop} (I : TryI w B lp h b T P F FT) : b.cl < w.heap.size ∧ b.pb < w.heap.size ∧ b.tb < w.heap.size ∧ b.lb < w.heap.size ∧ b.fb < w.heap.size ∧ b.mb < w.heap.size := by
  obtain ⟨_, _, _, h1, _⟩ := I.c1
  obtain ⟨_, _, h2, _⟩ := I.c2
  exact ⟨lt_of_heap I.c0, lt_of_heap h1, lt_of_heap h2, lt_of_heap I.c3, lt_of_heap I.c4, I.mp.lt⟩
theorem TryI.next {w w' : World} {B lp : Nat} {h : List HTx} {b : SqB} {T : List Nat} {P P' : List Pt} {F F' FT G : Nat → Prop} (I : TryI w B lp h b T P F FT) (hc : Chg G w w') (hG : ∀ j, j < w.heap.size → G j → j = b.pb ∨ j = b.mb ∨ F j)
    (c1 : ∃ A cap c, w'.heap[b.pb]? = some (.cells #[.slice A P'.length cap] 44) ∧ SamePts P' c ∧ Sl w' 112 3 (.slice A P'.length cap) c.length (c.flatMap ptC) F') (mp : MapN kInt.enc w' b.mb (leftI h P')) (hF : From F w w' F') : TryI w' B lp h b T P' F' FT := by
  obtain ⟨g1, g2, g3, g4, g5, g6⟩ := I.lt
  obtain ⟨o1, o2, o3, o4, o5, o6, o7, o8, o9, o10, o11, o12, o13, o14, o15⟩ := I.ok
  have kb : ∀ j, j < w.heap.size → j ≠ b.pb → j ≠ b.mb → ¬ F j → w'.heap[j]? = w.heap[j]? := fun j hj h1 h2 h3 => hc.block j hj (fun hg => by
    rcases hG j hj hg with h | h | h
    · exact h1 h
    · exact h2 h
    · exact h3 h)
  have nf : ∀ j, (j = b.cl ∨ j = b.pb ∨ j = b.tb ∨ j = b.lb ∨ j = b.fb ∨ j = b.mb) → ¬ F j := fun j hj hF => by
    have := I.fr j hF
    omega
  have hsz := hc.size
  obtain ⟨TA, tcap, ht, htsl⟩ := I.c2
  refine ⟨I.led.keep (fun j hj => kb j (Nat.lt_of_lt_of_le hj I.led.le) (by omega) (by omega) (fun hF => by have := (I.fr j hF).1; omega)) hsz, (kb _ g1 (fun e => o7 e.symm) (fun e => o12 e.symm) (nf _ (.inl rfl))).trans I.c0, c1, ⟨TA, tcap, (kb _ g3 (fun e => o8 e.symm) (fun e => o13 e.symm) (nf _ (.inr (.inr (.inl rfl))))).trans ht, htsl.keep (fun j hj hF => kb j hj (I.ft j hF).1 (I.ft j hF).2.1 (fun h => (I.fr j h).2.2.2.2.2.2.2 hF))⟩,
    (kb _ g4 (fun e => o9 e.symm) (fun e => o14 e.symm) (nf _ (.inr (.inr (.inr (.inl rfl)))))).trans I.c3, (kb _ g5 (fun e => o10 e.symm) (fun e => o15 e.symm) (nf _ (.inr (.inr (.inr (.inr (.inl rfl))))))).trans I.c4, mp, I.ok, fun j hj => ⟨(I.ft j hj).1, (I.ft j hj).2.1, Nat.lt_of_lt_of_le (I.ft j hj).2.2 hsz⟩, fun j hj => ?_⟩
  rcases hF j hj with h1 | ⟨h1, h2⟩
  · exact I.fr j h1
  · exact ⟨by have := I.led.le; omega, by omega, by omega, by omega, by omega, by omega, by omega, fun h => by have := (I.ft j h).2.2; omega⟩
theorem TryI.placed {w w' : World} {B lp : Nat} {h : List HTx} {b : SqB} {T : List Nat} {P c2 : List Pt} {F FT : Nat → Prop} {A : Option Addr} {cap : Nat} (I : TryI w B lp h b T P F FT) (hc : Chg F w w') (hp : w.heap[b.pb]? = some (.cells #[.slice A P.length cap] 44)) (hs : SamePts P c2) (hsl : Sl w' 112 3 (.slice A P.length cap) c2.length (c2.flatMap ptC) F) : TryI w' B lp h b T P F FT := by
  obtain ⟨g1, g2, g3, g4, g5, g6⟩ := I.lt
  exact I.next hc (fun j _ h => .inr (.inr h)) ⟨A, cap, c2, (hc.block _ g2 (fun hF => (I.fr _ hF).2.2.1 rfl)).trans hp, hs, hsl⟩ (I.mp.keep (hc.block _ g6 (fun hF => (I.fr _ hF).2.2.2.2.2.2.1 rfl))) (From.refl _ _ _)
theorem SamePts.snoc {P c : List Pt} (hs : SamePts P c) (q : Pt) : SamePts (P ++ [q]) (c ++ [q]) := by
  refine ⟨by rw [List.length_append, List.length_append, hs.1], fun i p hp => ?_⟩
  by_cases hi : i < P.length
  · rw [List.getElem?_append_left hi] at hp
    rw [List.getElem?_append_left (by rw [hs.1]; exact hi)]
    exact hs.2 i p hp
  · have hil := (List.getElem?_eq_some_iff.1 hp).1
    simp at hil
    rw [List.getElem?_append_right (by omega), show i - P.length = 0 by omega] at hp
    cases hp
    exact ⟨q.pat, by rw [List.getElem?_append_right (by rw [hs.1]; omega), hs.1, show i - P.length = 0 by omega]; rfl⟩
theorem SamePts.front {P c : List Pt} {q : Pt} (hs : SamePts (P ++ [q]) c) : SamePts P (c.take P.length) := by
  have hl := hs.1
  rw [List.length_append, List.length_singleton] at hl
  refine ⟨by rw [List.length_take]; omega, fun i p hp => ?_⟩
  have hi := (List.getElem?_eq_some_iff.1 hp).1
  rw [List.getElem?_take, if_pos hi]
  exact hs.2 i p (by rw [List.getElem?_append_left hi]; exact hp)
theorem sl_cell1 {w : World} {e : TypeId} {n cap : Nat} {A : Option Addr} {xs : List Value} {F : Nat → Prop} (h : Sl w e 1 (.slice A n cap) n xs F) {i : Nat} {u : Value} (hu : xs[i]? = some u) : ∃ g off, A = some ⟨g, off, none⟩ ∧ F g ∧ g < w.heap.size ∧ w.cell? ⟨g, off + i, none⟩ = some u := by
  have hi := (List.getElem?_eq_some_iff.1 hu).1
  have hl := h.1
  rcases h.2 with ⟨_, h0⟩ | ⟨g, off, cap', cur, hv, hF, hb, hn, hm, hs, ht⟩
  · omega
  · cases hv
    refine ⟨g, off, rfl, hF, lt_of_heap hb, ?_⟩
    rw [cell_of_row w g _ _ _ _ hb]
    rw [← ht, List.getElem?_take] at hu
    split at hu
    · rw [List.getElem?_drop] at hu; simpa using hu
    · cases hu
theorem leftI_step {h : List HTx} {P : List Pt} (K : Part h P) {t : Nat} (hl : leftP h P t ≠ 0) : leftI h (P ++ [⟨t, decide (leftP h P t - 1 = 0), 0⟩]) = fun y => if y = (t : Int) then ((leftP h P t - 1 : Nat) : Int) else leftI h P y := by
  funext y
  unfold leftI
  by_cases hy : 0 ≤ y
  · rw [if_pos hy, if_pos hy, K.left hl]
    by_cases e : y = (t : Int)
    · subst e
      rw [if_pos (by omega), if_pos rfl]
    · rw [if_neg (by omega), if_neg e]
  · rw [if_neg hy, if_neg hy, if_neg (by omega)]
theorem flatMap_take3 (c : List Pt) : ∀ n, (c.flatMap ptC).take (n * 3) = (c.take n).flatMap ptC := by
  induction c with
  | nil => intro n; simp
  | cons a r ih =>
    intro n
    cases n with
    | zero => simp
    | succ n =>
      rw [List.flatMap_cons, List.take_succ_cons, List.flatMap_cons, ← ih n]
      have : (ptC a).length = 3 := rfl
      rw [show (n + 1) * 3 = (ptC a).length + n * 3 by rw [this]; omega, List.take_append, List.take_of_length_le (by omega)]
      simp
theorem leftP_le (h : List HTx) (P : List Pt) (t : Nat) : leftP h P t ≤ 2 := by unfold leftP; (repeat' split) <;> omega
theorem point_info2 : (Tryz.prog.info? 112).map (fun i => (i.zero.map (·.cells.size), i.size, i.bytes)) = some (some 3, 3, 24) := by kernel_rfl
set_option maxHeartbeats 4000000 in
theorem try_full {B lp : Nat} {h : List HTx} (H : Fine h) {b : SqB} {T : List Nat} {L : List Pt} (hLl : L.length = 2 * T.length) (hLf : FitsN h L L.length) (hLr : RunOK h L) {FT : Nat → Prop} (hT4 : T.length ≤ 4)
    {P : List Pt} {F : Nat → Prop} {w : World} (I : TryI w B lp h b T P F FT) (K : Part h P) (hn : P.length = 2 * T.length) :
      Calls Tryz.prog 41 b.caps w (TryA w B lp h b T P L F FT) := by
  obtain ⟨g1, g2, g3, g4, g5, g6⟩ := I.lt
  obtain ⟨A, cap, c, hp, hsame, hsl⟩ := I.c1
  obtain ⟨TA, tcap, ht, htsl⟩ := I.c2
  have hled := I.led
  have q0 := (cells_of (cs := [.pointer (some ⟨lp, 0, none⟩)]) I.c0).1 0
  have q1 := (cells_of (cs := [.slice A P.length cap]) hp).1 0
  have q2 := (cells_of (cs := [.slice TA T.length tcap]) ht).1 0
  have hin : ∀ p ∈ P, p.txn < h.length := fun p hp => com_lt (K.wf.cm p hp)
  have hpl := Lib.hid (place_ hled hin hsame hsl (fun j hj => (I.fr j hj).1))
  have HI := Lib.hid I
  have HP := Lib.hid (And.intro hp (And.intro hsame hsl))
  have HT := Lib.hid (And.intro ht htsl)
  clear I hp hsame hsl ht htsl hled
  have hn8 : P.length ≤ 8 := by omega
  have HN0 := Lib.hid hn
  have hneE : ((P.length : Int) == 2 * (T.length : Int)) = true := by simp; omega
  clear hn
  unfold SqB.caps
  rcases Classical.em (FitsN h P P.length) with hfit | hfit
  · have HFIT := Lib.hid hfit
    clear hfit
    have hne := hneE
    have hw2 : (T.length : Int) ≤ 4 := by omega
    have hT0 : (0 : Int) ≤ T.length := by omega
    go_enter Tryz.func41, Tryz.ntmps41
    go_upto_region 4 with (go_at_call 36; with_reducible refine hpl.out.mono ?_
                           rintro e w2 ⟨hc2, bb, c2, rfl, HB2, HS2, hsl2⟩
                           obtain rfl : bb = true := HB2.out.2 HFIT.out
                           have I2 := HI.out.placed hc2 HP.out.1 HS2.out hsl2
                           have p1 := (cells_of (cs := [.slice A P.length cap]) ((hc2.block _ g2 (fun hF => (HI.out.fr _ hF).2.2.1 rfl)).trans HP.out.1)).1 0
                           have p2 := (cells_of (cs := [.slice TA T.length tcap]) ((hc2.block _ g3 (fun hF => (HI.out.fr _ hF).2.2.2.1 rfl)).trans HT.out.1)).1 0
                           have l1 := I2.lt.2.1
                           have l2 := I2.lt.2.2.1
                           have HI2 := Lib.hid I2
                           have HC2 := Lib.hid hc2
                           clear I2 hc2)
    have p0 := (cells_of (cs := [.pointer (some ⟨lp, 0, none⟩)]) HI2.out.c0).1 0
    have l0 := HI2.out.lt.1
    have hrun := Lib.hid (run_ HI2.out.led H K.wf HS2.out (Rows.of_sl (enc := ptC) (size := 3) (fun _ => rfl) hsl2 (Nat.le_refl _)) (Nat.le_refl _) (by omega))
    clear hsl2
    obtain ⟨nn, hnn⟩ : ∃ nn : Bool, nn = true := ⟨_, rfl⟩
    rcases Classical.em (RunOK h P) with hok | hok
    · have HOK := Lib.hid hok
      clear hok hnn
      go_wp2_with (go_at_call 37; with_reducible refine hrun.out.mono ?_; rintro e w3 ⟨hB3, n, rfl, HN⟩
                   obtain rfl : n = 0 := HN.out.2 HOK.out
                   have HB3 := Lib.hid hB3
                   clear hB3)
      go_ret
      refine ⟨(HC2.out.mono (fun j _ h => .inr (.inr h))).trans (Chg.of_below HB3.out) (fun j hj h => ?_), .inl ⟨rfl, A, P.length, cap, (HB3.out.block _ l1).trans ?_⟩⟩
      · have := HC2.out.size; omega
      · exact (HC2.out.block _ g2 (fun hF => (HI.out.fr _ hF).2.2.1 rfl)).trans HP.out.1
    · have HOK := Lib.hid hok
      clear hok hnn
      go_upto_region 4 with (fail)
      go_wp2_with (go_at_call 37; with_reducible refine hrun.out.mono ?_; rintro e w3 ⟨hB3, n, rfl, HN⟩
                   have hn0 : n ≠ 0 := fun h => HOK.out (HN.out.1 h)
                   have hnb : (n == 0) = false := by simp [hn0]
                   have HB3 := Lib.hid hB3
                   clear hB3 hn0)
      go_ret
      have hfr := (Chg.of_below HB3.out).mono (G := fun _ => False) (fun j hj h => by omega)
      have I3 : TryI w3 B lp h b T P F FT := by
        obtain ⟨A3, cap3, c3, h1, h2, h3⟩ := HI2.out.c1
        exact HI2.out.next hfr (fun j _ h => h.elim) ⟨A3, cap3, c3, (hfr.block _ l1 (fun h => h)).trans h1, h2, h3.chg hfr (fun _ _ h => h)⟩ (HI2.out.mp.keep (hfr.block _ HI2.out.lt.2.2.2.2.2 (fun h => h))) (From.refl _ _ _)
      refine ⟨(HC2.out.mono (fun j _ h => .inr (.inr h))).trans hfr (fun j _ h => h.elim), .inr ⟨rfl, fun hp => ?_, F, I3, From.refl _ _ _⟩⟩
      have : P = L := hp.eq_of_length (by have := HN0.out; omega)
      exact HOK.out (this ▸ hLr)
  · have HFIT := Lib.hid hfit
    clear hfit
    go_enter Tryz.func41, Tryz.ntmps41
    go_wp2_with (go_at_call 36; with_reducible refine hpl.out.mono ?_
                 rintro e w2 ⟨hc2, bb, c2, rfl, HB2, HS2, hsl2⟩
                 obtain rfl : bb = false := by
                   cases bb
                   · rfl
                   · exact absurd (HB2.out.1 rfl) HFIT.out
                 have I2 := HI.out.placed hc2 HP.out.1 HS2.out hsl2
                 have HI2 := Lib.hid I2
                 have HC2 := Lib.hid hc2
                 clear I2 hc2 hsl2)
    go_ret
    exact ⟨HC2.out.mono (fun j _ h => .inr (.inr h)), .inr ⟨rfl, fun hp => HFIT.out (fits_prefix hp hLf), F, HI2.out, From.refl _ _ _⟩⟩
set_option maxHeartbeats 16000000 in
theorem try_ {B lp : Nat} {h : List HTx} (H : Fine h) {b : SqB} {T : List Nat} (hT : T.Nodup) (hTc : ∀ t, t ∈ T ↔ com h t = true) {L : List Pt} (KL : Part h L) (hLl : L.length = 2 * T.length) (hLf : FitsN h L L.length) (hLr : RunOK h L) {FT : Nat → Prop} (hT4 : T.length ≤ 4) :
    ∀ (n : Nat) (P : List Pt) (F : Nat → Prop) (w : World), TryI w B lp h b T P F FT → Part h P → P.length + n = 2 * T.length →
      Calls Tryz.prog 41 b.caps w (TryA w B lp h b T P L F FT) := by
  intro n
  induction n with
  | zero =>
    intro P F w I K hn
    exact try_full H hLl hLf hLr hT4 I K (by omega)
  | succ n ih =>
    intro P F w I K hn
    obtain ⟨g1, g2, g3, g4, g5, g6⟩ := I.lt
    obtain ⟨A, cap, c, hp, hsame, hsl⟩ := I.c1
    obtain ⟨TA, tcap, ht, htsl⟩ := I.c2
    have hled := I.led
    have q0 := (cells_of (cs := [.pointer (some ⟨lp, 0, none⟩)]) I.c0).1 0
    have q1 := (cells_of (cs := [.slice A P.length cap]) hp).1 0
    have q2 := (cells_of (cs := [.slice TA T.length tcap]) ht).1 0
    have hin : ∀ p ∈ P, p.txn < h.length := fun p hp => com_lt (K.wf.cm p hp)
    have hpl := Lib.hid (place_ hled hin hsame hsl (fun j hj => (I.fr j hj).1))
    have HI := Lib.hid I
    have HP := Lib.hid (And.intro hp (And.intro hsame hsl))
    have HT := Lib.hid (And.intro ht htsl)
    clear I hp hsame hsl ht htsl hled
    unfold SqB.caps
    rcases Classical.em (FitsN h P P.length) with hfit | hfit
    · have HFIT := Lib.hid hfit
      clear hfit
      have hne : ((P.length : Int) == 2 * (T.length : Int)) = false := by simp; omega
      have hw2 : (T.length : Int) ≤ 4 := by omega
      have hT0 : (0 : Int) ≤ T.length := by omega
      go_enter Tryz.func41, Tryz.ntmps41
      go_upto_region 5 with (go_at_call 36; with_reducible refine hpl.out.mono ?_
                             rintro e w2 ⟨hc2, bb, c2, rfl, HB2, HS2, hsl2⟩
                             obtain rfl : bb = true := HB2.out.2 HFIT.out
                             have I2 := HI.out.placed hc2 HP.out.1 HS2.out hsl2
                             have p1 := (cells_of (cs := [.slice A P.length cap]) ((hc2.block _ g2 (fun hF => (HI.out.fr _ hF).2.2.1 rfl)).trans HP.out.1)).1 0
                             have p2 := (cells_of (cs := [.slice TA T.length tcap]) ((hc2.block _ g3 (fun hF => (HI.out.fr _ hF).2.2.2.1 rfl)).trans HT.out.1)).1 0
                             have l1 := I2.lt.2.1
                             have l2 := I2.lt.2.2.1
                             have HI2 := Lib.hid I2
                             have HC2 := Lib.hid hc2
                             clear I2 hc2 hsl2)
      obtain ⟨ip, zp, pj0, pj1, pj2, pj3, pj4⟩ := info_of point_info2
      have hTl := Lib.hid (HI2.out.c2)
      go_wp2
      go_loopw [7, 24] (fun _ i' wr => ∃ (i : Nat) (F' : Nat → Prop), i ≤ T.length ∧ i' = .int .i64 i ∧ TryI wr B lp h b T P F' FT ∧ From F w wr F' ∧ Chg (fun j => j = b.pb ∨ j = b.mb ∨ F j) w wr ∧ Hid (∀ (j t : Nat), j < i → T[j]? = some t → leftP h P t ≠ 0 → ¬ (P ++ [⟨t, decide (leftP h P t - 1 = 0), 0⟩]) <+: L)) (fun _ i' _ => T.length - (intOf i').toNat)
      case atStart => exact ⟨0, F, Nat.zero_le _, rfl, HI2.out, From.refl _ _ _, HC2.out.mono (fun j _ h => .inr (.inr h)), Lib.hid (fun j t hj => by omega)⟩
      case round =>
        obtain ⟨i, F', hi, rfl, I3, hfr, hch, HN⟩ := hrel
        obtain ⟨r1, r2, r3, r4, r5, r6⟩ := I3.lt
        have hok := I3.ok
        obtain ⟨TA', tcap', ht', htsl'⟩ := I3.c2
        have hte := (hch.block b.tb g3 (by
          intro hh
          unfold SqB.ok at hok
          rcases hh with hh | hh | hh
          · omega
          · omega
          · exact (HI.out.fr _ hh).2.2.2.1 rfl)).trans HT.out.1
        rw [ht'] at hte
        obtain ⟨rfl, rfl⟩ : TA' = TA ∧ tcap' = tcap := by
          injection hte with hte
          injection hte with hte
          have := congrArg (fun a => a[0]?) hte
          simp at this
          exact this
        by_cases hlt : i < T.length
        · obtain ⟨t, htt⟩ : ∃ t, T[i]? = some t := ⟨_, List.getElem?_eq_getElem hlt⟩
          obtain ⟨g, off, rfl, hFg, hgl, hcell⟩ := sl_cell1 htsl' (i := i) (u := .int .i64 t) (by rw [List.getElem?_map, htt]; rfl)
          have hii : (i : Int) < T.length := by omega
          have hi0 : (0 : Int) ≤ i := by omega
          have qlb := (cells_of (cs := [.map (some b.mb)]) I3.c3).1 0
          obtain ⟨lf, hlf⟩ : ∃ lf, lf = leftP h P t := ⟨_, rfl⟩
          have lk : (Instr.lookup 79 (.map (some b.mb)) (.int .i64 t) false).run Tryz.prog wr = .ok (.int .i64 lf) wr := by
            have := I3.mp.look t wr rfl
            rw [leftI_nat, ← hlf] at this
            exact this
          have hlf2 : lf ≤ 2 := by rw [hlf]; exact leftP_le h P t
          have HI3 := Lib.hid I3
          have HFR := Lib.hid hfr
          have HCH := Lib.hid hch
          have HTT := Lib.hid htt
          have HLF := Lib.hid hlf
          clear I3 hfr hch htt hlf hte ht' htsl' hFg hok
          by_cases hl0 : lf = 0
          · have hb0 : ((lf : Int) == 0) = true := by simp [hl0]
            have HL0 := Lib.hid hl0
            clear hl0 hlf2
            go_wp2
            refine ⟨⟨i + 1, F', by omega, by simp, HI3.out, HFR.out, HCH.out, Lib.hid (fun j t' hj ht' hl' => ?_)⟩, by simp [intOf]; omega⟩
            by_cases hji : j = i
            · subst hji
              rw [HTT.out] at ht'; cases ht'
              exact absurd (HLF.out.symm.trans HL0.out) hl'
            · exact HN.out j t' (by omega) ht' hl'
          · have hb0 : ((lf : Int) == 0) = false := by simp [hl0]
            have hl1 : (1 : Int) ≤ lf := by omega
            have hl2 : (lf : Int) ≤ 2 := by omega
            have hwrap : IntKind.i64.wrap ((lf : Int) - 1) = (lf : Int) - 1 := by rw [IntKind.wrap_i64] <;> omega
            obtain ⟨dec, hdec⟩ : ∃ dec, dec = decide (leftP h P t - 1 = 0) := ⟨_, rfl⟩
            have hd : ((lf : Int) - 1 == 0) = dec := by rw [hdec, ← HLF.out]; by_cases e : lf - 1 = 0 <;> simp [e] <;> omega
            obtain ⟨w6, hrun6, hM6, hc6⟩ := HI3.out.mp.store t ((lf : Int) - 1)
            have lk6 : (Instr.lookup 79 (.map (some b.mb)) (.int .i64 t) false).run Tryz.prog w6 = .ok (.int .i64 ((lf : Int) - 1)) w6 := by
              have := hM6.look t w6 rfl
              rw [if_pos rfl] at this
              exact this
            obtain ⟨PA, pcap, c3, hp3, hs3, hsl3⟩ := HI3.out.c1
            have hok := HI3.out.ok
            unfold SqB.ok at hok
            have hp6 := (hc6.block b.pb r2 (by omega)).trans hp3
            have qp6 := (cells_of (cs := [.slice PA P.length pcap]) hp6).1 0
            have qlb6 := (World.cell?_of_block (a := ⟨b.lb, 0, none⟩) (hc6.block b.lb r4 (by omega))).trans qlb
            have s1 : b.pb < w6.heap.size := by have := hc6.size; omega
            have s2 : b.lb < w6.heap.size := by have := hc6.size; omega
            have hsl6 : Sl w6 112 3 (.slice PA P.length pcap) P.length (c3.flatMap ptC) F' := by
              have := hsl3.chg hc6 (fun j hj e => (HI3.out.fr j hj).2.2.2.2.2.2.1 e)
              rw [hs3.1] at this
              exact this
            have hmx : P.length + 1 ≤ maxLen := by simp only [maxLen]; omega
            have hby : (P.length + 1) * 24 ≤ 140737488355328 := by omega
            have hpp : P.length + 1 + n = 2 * T.length := by omega
            have HQ6 := Lib.hid (And.intro hrun6 (And.intro hM6 (And.intro hc6 (And.intro hs3 (And.intro hsl6 (And.intro hp6 (And.intro hdec hok)))))))
            have HL0 := Lib.hid hl0
            clear hM6 hc6 hp3 hs3 hsl3 hsl6 hp6 hdec hok hl0 hlf2
            go_upto_region 11 with (
              refine wpList_append_sl _ rfl (.tmp 36) (.tmp 43) 44 rfl 112 ip zp 3 24 Tryz.underlying44 pj0 pj1 pj2 pj3 pj4 (by omega) _ _ _ _ rfl (HQ6.out.2.2.2.2.1.chg ((Chg.refl (fun _ => False) _).alloc _) (fun _ _ f => f)) _ _ 1 1 [.int .i64 t, .bool dec, .int .i64 0] rfl (reads_new _ _ 3 rfl _) (by intro u hu; simp at hu; rcases hu with rfl | rfl | rfl <;> rfl) hmx hby ?_
              intro v9 w9 F9 hs9 hc9 hf9 hnz9
              obtain ⟨A9, c9, rfl, hc9a, hc9b⟩ := hs9.shape
              have hal9 : Chg F' w6 w9 := (((Chg.refl (fun _ => False) w6).alloc _).mono (G := F') (fun _ _ f => f.elim)).trans hc9 (fun _ _ h => h)
              have g9 := (hal9.block b.pb s1 (fun hh => (HI3.out.fr _ hh).2.2.1 rfl)).trans HQ6.out.2.2.2.2.2.1
              have g9l := lt_of_heap g9
              have y9 := (cells_of (cs := [.slice PA P.length pcap]) g9).1 0
              have yf := (cells_of (cs := [.slice PA P.length pcap]) g9).2
              have HG9 := Lib.hid g9
              have HN9 := Lib.hid (And.intro hs9 (And.intro hf9 (And.intro hnz9 hal9)))
              clear hnz9 g9 hs9 hf9 hc9 hal9)
            obtain ⟨W10, hW10⟩ : ∃ W10, W10 = w9.setCell ⟨b.pb, 0, none⟩ (.slice A9 (P.length + 1) c9) := ⟨_, rfl⟩
            rw [← hW10]
            obtain ⟨hs9, hf9, hnz9, hal9⟩ := HN9.out
            obtain ⟨hrun6', hM6, hc6, hs3, hsl6, hp6, hdec, hok⟩ := HQ6.out
            have hset : Chg (fun j => j = b.pb) w9 W10 := by rw [hW10]; exact (Chg.refl _ _).setCell _ _ (fun _ => rfl)
            have hz6 := hc6.size
            have hz9 := hal9.size
            have hzs := hset.size
            have hlen' : (P ++ [(⟨t, decide (leftP h P t - 1 = 0), 0⟩ : Pt)]).length = P.length + 1 := by simp
            have hl0' : leftP h P t ≠ 0 := by rw [← HLF.out]; exact HL0.out
            have hcall : Chg (fun j => j = b.pb ∨ j = b.mb ∨ F' j) wr W10 := ((hc6.mono (G := fun j => j = b.pb ∨ j = b.mb ∨ F' j) (fun j _ h => .inr (.inl h))).trans hal9 (fun j _ h => .inr (.inr h))).trans hset (fun j _ h => .inl h)
            have hfrom : From F' wr W10 F9 := fun j hj => by
              rcases hf9 j hj with h | ⟨h, h'⟩
              · exact .inl h
              · rw [World.size_alloc] at h; exact .inr ⟨by omega, by omega⟩
            have I10 : TryI W10 B lp h b T (P ++ [⟨t, decide (leftP h P t - 1 = 0), 0⟩]) F9 FT := by
              refine HI3.out.next hcall (fun j _ h => h) ⟨A9, c9, c3 ++ [⟨t, dec, 0⟩], ?_, ?_, ?_⟩ ?_ hfrom
              · rw [hlen', hW10]
                simpa using heap_setCell_same (i := 0) (v := .slice A9 (P.length + 1) c9) HG9.out
              · rw [hdec]; exact hs3.snoc _
              · rw [hlen', List.length_append, hs3.1, List.flatMap_append]
                have := hs9.chg hset (fun j hj e => by
                  rcases hf9 j hj with h | ⟨h, h'⟩
                  · exact (HI3.out.fr j h).2.2.1 e
                  · rw [World.size_alloc] at h; omega)
                simpa [ptC] using this
              · rw [leftI_step K hl0']
                have e : (fun y => if y = (t : Int) then (lf : Int) - 1 else leftI h P y) = fun y => if y = (t : Int) then ((leftP h P t - 1 : Nat) : Int) else leftI h P y := by
                  funext y
                  have : ((leftP h P t - 1 : Nat) : Int) = (lf : Int) - 1 := by rw [← HLF.out]; omega
                  rw [this]
                rw [← e]
                exact hM6.keep ((hset.block _ (by omega) (by omega)).trans (hal9.block _ (by omega) (fun hh => (HI3.out.fr _ hh).2.2.2.2.2.2.1 rfl)))
            have K10 := K.add hl0'
            have hih := ih _ F9 W10 I10 K10 (by rw [hlen']; omega)
            have qf := (cells_of (cs := [.func (.func 41) #[] b.caps]) I10.c4).1 0
            have qfl := I10.lt.2.2.2.2.1
            unfold SqB.caps at hih qf
            have HIH := Lib.hid hih
            have HI10 := Lib.hid I10
            have HK10 := Lib.hid K10
            have HCA := Lib.hid (And.intro hcall (And.intro hfrom (And.intro hlen' hl0')))
            clear hih I10 K10 hcall hfrom hset hs9 hf9 hnz9 hal9 hM6 hc6 hs3 hsl6 hp6 hdec hok hW10 hz6 hz9 hzs hlen' hl0' y9 yf g9l lk6 lk s1 s2 qp6 qlb6 hrun6 hrun6'
            go_upto_if 46 with (first
              | (go_at_call 41; with_reducible refine HIH.out.mono ?_
                 rintro e w11 ⟨hc11, hA⟩
                 obtain ⟨bb, rfl, hA⟩ : ∃ bb, e = .returned (.bool bb) ∧ ((bb = true ∧ ∃ A n c, w11.heap[b.pb]? = some (.cells #[.slice A n c] 44)) ∨ (bb = false ∧ ¬ (P ++ [(⟨t, decide (leftP h P t - 1 = 0), 0⟩ : Pt)]) <+: L ∧ ∃ F', TryI w11 B lp h b T (P ++ [⟨t, decide (leftP h P t - 1 = 0), 0⟩]) F' FT ∧ From F9 W10 w11 F')) := by
                   rcases hA with ⟨rfl, h1⟩ | ⟨rfl, h1⟩
                   · exact ⟨true, rfl, .inl ⟨rfl, h1⟩⟩
                   · exact ⟨false, rfl, .inr ⟨rfl, h1⟩⟩
                 have HA := Lib.hid hA
                 have HC11 := Lib.hid hc11
                 clear hA hc11))
            have hchT : Chg (fun j => j = b.pb ∨ j = b.mb ∨ F j) w w11 := by
              have h1 := HCH.out.trans HCA.out.1 (F := fun j => j = b.pb ∨ j = b.mb ∨ F j) (fun j hj h => by
                rcases h with h | h | h
                · exact .inl h
                · exact .inr (.inl h)
                · rcases HFR.out j h with h' | ⟨h', _⟩
                  · exact .inr (.inr h')
                  · omega)
              have hz1 := HCH.out.size
              exact h1.trans HC11.out (fun j hj h => by
                rcases h with h | h | h
                · exact .inl h
                · exact .inr (.inl h)
                · rcases HCA.out.2.1 j h with h' | ⟨h', _⟩
                  · rcases HFR.out j h' with h'' | ⟨h'', _⟩
                    · exact .inr (.inr h'')
                    · omega
                  · omega)
            have HCHT := Lib.hid hchT
            clear hchT
            cases bb with
            | true =>
              go_wp2
              go_ret
              refine ⟨HCHT.out, .inl ⟨rfl, ?_⟩⟩
              rcases HA.out with ⟨_, h1⟩ | ⟨h1, _⟩
              · exact h1
              · cases h1
            | false =>
              obtain ⟨hnp, F11, I11, hf11⟩ : ¬ (P ++ [(⟨t, decide (leftP h P t - 1 = 0), 0⟩ : Pt)]) <+: L ∧ ∃ F', TryI w11 B lp h b T (P ++ [⟨t, decide (leftP h P t - 1 = 0), 0⟩]) F' FT ∧ From F9 W10 w11 F' := by
                rcases HA.out with ⟨h1, _⟩ | ⟨_, h1⟩
                · cases h1
                · exact h1
              have hlen' := HCA.out.2.2.1
              obtain ⟨PA2, pc2, c4, hp11, hs11, hsl11⟩ := I11.c1
              rw [hlen'] at hp11 hsl11
              obtain ⟨k1, k2, k3, k4, k5, k6⟩ := I11.lt
              have hok := I11.ok
              unfold SqB.ok at hok
              obtain ⟨g2, off2, rfl⟩ : ∃ g2 off2, PA2 = some ⟨g2, off2, none⟩ := by
                rw [hs11.1, hlen'] at hsl11
                obtain ⟨g2, off2, cap2, he⟩ := sl_some hsl11 (by omega)
                injection he with he1
                exact ⟨g2, off2, he1⟩
              have hc4l : c4.length = P.length + 1 := by rw [hs11.1, hlen']
              have hpc : P.length + 1 ≤ pc2 ∧ pc2 ≤ maxLen := by
                rw [hc4l] at hsl11
                obtain ⟨_, _, he, h1, h2⟩ := hsl11.shape
                cases he
                exact ⟨h2, h1⟩
              have m1 := (cells_of (cs := [.slice (some ⟨g2, off2, none⟩) (P.length + 1) pc2]) hp11).1 0
              have m1f := (cells_of (cs := [.slice (some ⟨g2, off2, none⟩) (P.length + 1) pc2]) hp11).2
              obtain ⟨w12, hw12⟩ : ∃ w12, w12 = w11.setCell ⟨b.pb, 0, none⟩ (.slice (some ⟨g2, off2, none⟩) P.length pc2) := ⟨_, rfl⟩
              have hc12 : Chg (fun j => j = b.pb) w11 w12 := by rw [hw12]; exact (Chg.refl _ _).setCell _ _ (fun _ => rfl)
              have hm12 := I11.mp.keep (hc12.block b.mb k6 (by omega))
              have hl0' := HCA.out.2.2.2
              have hlI : leftI h (P ++ [⟨t, decide (leftP h P t - 1 = 0), 0⟩]) t = (lf : Int) - 1 := by
                rw [leftI_step K hl0']
                simp only [if_pos]
                rw [← HLF.out]; omega
              have lk12 : (Instr.lookup 79 (.map (some b.mb)) (.int .i64 t) false).run Tryz.prog w12 = .ok (.int .i64 ((lf : Int) - 1)) w12 := by
                have := hm12.look t w12 rfl
                rw [hlI] at this
                exact this
              obtain ⟨w13, hrun13, hM13, hc13⟩ := hm12.store t (lf : Int)
              have n3 := (World.cell?_of_block (a := ⟨b.lb, 0, none⟩) (hc12.block b.lb k4 (by omega))).trans ((cells_of (cs := [.map (some b.mb)]) I11.c3).1 0)
              have n4 : b.lb < w12.heap.size := by have := hc12.size; omega
              have hp12 : w12.heap[b.pb]? = some (.cells #[.slice (some ⟨g2, off2, none⟩) P.length pc2] 44) := by rw [hw12]; simpa using heap_setCell_same (i := 0) (v := .slice (some ⟨g2, off2, none⟩) P.length pc2) hp11
              have hpl1 : P.length + 1 ≤ pc2 := hpc.1
              have hpc2 := hpc.2
              simp only [maxLen] at hpc2
              have hL8 : P.length ≤ 8 := by omega
              have HZ := Lib.hid (And.intro hnp (And.intro I11 (And.intro hf11 (And.intro hs11 (And.intro hsl11 (And.intro hc12 (And.intro hM13 (And.intro hc13 (And.intro hp12 (And.intro hok hc4l))))))))))
              have HW12 := Lib.hid hw12
              clear hnp I11 hf11 hs11 hsl11 hc12 hM13 hc13 hp12 hok hc4l hp11 hlen' hm12 hl0' hlI hw12 hpc qf qfl k3 k5
              go_upto_region 14 with (fail)
              rw [← HW12.out]
              go_wp2
              obtain ⟨hnp, I11, hf11, hs11, hsl11, hc12, hM13, hc13, hp12, hok, hc4l⟩ := HZ.out
              have hz12 := hc12.size
              have hz13 := hc13.size
              have hc113 : Chg (fun j => j = b.pb ∨ j = b.mb) w11 w13 := (hc12.mono (fun j _ h => .inl h)).trans hc13 (fun j _ h => .inr h)
              have I13 : TryI w13 B lp h b T P F11 FT := by
                refine I11.next hc113 (fun j _ h => h.elim .inl (fun h => .inr (.inl h))) ⟨some ⟨g2, off2, none⟩, pc2, c4.take P.length, (hc13.block b.pb (by omega) (by omega)).trans hp12, hs11.front, ?_⟩ ?_ (From.refl _ _ _)
                · have h1 := hsl11.chg hc113 (fun j hj e => by
                    have := I11.fr j hj
                    rcases e with e | e
                    · exact this.2.2.1 e
                    · exact this.2.2.2.2.2.2.1 e)
                  rw [hc4l] at h1
                  have h2 := h1.cut (k := P.length) (c' := pc2) (by omega) (Nat.le_refl _) (by omega) (by simp)
                  have h3 : (c4.flatMap ptC).take (P.length * 3) = (c4.take P.length).flatMap ptC := flatMap_take3 c4 P.length
                  rw [h3] at h2
                  rw [List.length_take, Nat.min_eq_left (by omega)]
                  exact h2
                · have e : (fun y => if y = (t : Int) then (lf : Int) else leftI h (P ++ [⟨t, decide (leftP h P t - 1 = 0), 0⟩]) y) = leftI h P := by
                    rw [leftI_step K HCA.out.2.2.2]
                    funext y
                    by_cases hy : y = (t : Int)
                    · subst hy
                      rw [if_pos rfl, leftI_nat, ← HLF.out]
                    · rw [if_neg hy]
                      simp only [if_neg hy]
                  rw [← e]
                  exact hM13
              refine ⟨⟨i + 1, F11, by omega, by simp, I13, fun j hj => ?_, ?_, Lib.hid (fun j t' hj ht' hl' => ?_)⟩, by simp [intOf]; omega⟩
              · have hzz := HCHT.out.size
                have hz1 := HCH.out.size
                have hzA := HCA.out.1.size
                have hzC := HC11.out.size
                rcases hf11 j hj with h1 | ⟨h1, h2⟩
                · rcases HCA.out.2.1 j h1 with h3 | ⟨h3, h4⟩
                  · rcases HFR.out j h3 with h5 | ⟨h5, h6⟩
                    · exact .inl h5
                    · exact .inr ⟨h5, by omega⟩
                  · exact .inr ⟨by omega, by omega⟩
                · exact .inr ⟨by omega, by omega⟩
              · exact HCHT.out.trans hc113 (fun j _ h => h.elim .inl (fun h => .inr (.inl h)))
              · by_cases hji : j = i
                · subst hji
                  rw [HTT.out] at ht'; cases ht'
                  exact hnp
                · exact HN.out j t' (by omega) ht' hl'
        · have hie : i = T.length := by omega
          have HI3 := Lib.hid I3
          have HFR := Lib.hid hfr
          have HCH := Lib.hid hch
          clear I3 hfr hch hte ht' htsl' hok
          have hni : ¬ (i : Int) < T.length := by omega
          go_wp2
          go_ret
          refine ⟨HCH.out, .inr ⟨rfl, fun hp => ?_, F', HI3.out, HFR.out⟩⟩
          obtain ⟨t, hc, hl, hpre⟩ := next_of KL hp (by omega)
          obtain ⟨j, hj⟩ := List.mem_iff_getElem?.1 ((hTc t).2 hc)
          exact HN.out j t (by have := (List.getElem?_eq_some_iff.1 hj).1; omega) hj hl hpre
    · have HFIT := Lib.hid hfit
      clear hfit
      go_enter Tryz.func41, Tryz.ntmps41
      go_wp2_with (go_at_call 36; with_reducible refine hpl.out.mono ?_
                   rintro e w2 ⟨hc2, bb, c2, rfl, HB2, HS2, hsl2⟩
                   obtain rfl : bb = false := by
                     cases bb
                     · rfl
                     · exact absurd (HB2.out.1 rfl) HFIT.out
                   have I2 := HI.out.placed hc2 HP.out.1 HS2.out hsl2
                   have HI2 := Lib.hid I2
                   have HC2 := Lib.hid hc2
                   clear I2 hc2 hsl2)
      go_ret
      exact ⟨HC2.out.mono (fun j _ h => .inr (.inr h)), .inr ⟨rfl, fun hp => HFIT.out (fits_prefix hp hLf), F, HI2.out, From.refl _ _ _⟩⟩
end Go.Proofs.YtooigfkjdemnlaaGreatDoor

namespace Go.Proofs.YtooigfkjdemnlaaGreatDoor
section
variable {h : List HTx} {l : List Pt}
theorem way_fin (H : Fine h) {es : List Edge} {m : Edge → Bool} (hes : ∀ e ∈ es, m e = true → ∃ (u t : Nat) (x y : HTx), e.frm = u ∧ e.to = t ∧ h[u]? = some x ∧ h[t]? = some y ∧ com h t = true ∧ x.fin ≤ y.bgn) {a : Nat} {xa : HTx} (hxa : h[a]? = some xa) {c : Int} (hw : Way es m (a : Int) c) :
    c = a ∨ ∃ (t : Nat) (y : HTx), c = t ∧ h[t]? = some y ∧ com h t = true ∧ xa.fin ≤ y.bgn := by
  induction hw with
  | start => exact .inl rfl
  | step hw he hm ih =>
    obtain ⟨u, t, x, y, eu, et, hx, hy, hc, hle⟩ := hes _ he hm
    right
    refine ⟨t, y, et, hy, hc, ?_⟩
    rcases ih with h1 | ⟨t', y', h1, h2, h3, h4⟩
    · have : a = u := by omega
      subst this
      rw [hxa] at hx; cases hx
      exact hle
    · have : t' = u := by omega
      subst this
      rw [h2] at hx; cases hx
      have := bgn_fin H h2 h3
      omega
theorem snap_none (H : Fine h) (M : Moments h l) (R : RunOK h l) (C : SnapC h) (p : Nat) (h2 : 2 ≤ p) (h6 : p ≤ 6) : ¬ PhenP h p := by
  have hE : ∀ e ∈ edgesOf h, EdgeS h e := fun e he => edge_snap H M R C he
  have told : ∀ (t : Nat) (x : HTx) (o : HOpr) (v : HVer), h[t]? = some x → com h t = true → o ∈ x.ops → v ∈ seenOf o → v.frm ≠ t → ∃ (u : Nat) (y : HTx), v.frm = u ∧ h[u]? = some y ∧ com h u = true ∧ v.nth = (writes y v.key).length := by
    intro t x o v hx hc ho hv hf
    obtain ⟨i, hi⟩ := List.mem_iff_getElem?.1 ho
    obtain ⟨s, S⟩ := snap_of H M R hx hc (C t x hx hc o ho).1
    rcases S.seen H hx hi hv with ⟨hs, _⟩ | hs
    · obtain ⟨u, y, w, _, hy, hcu, _, _, _, hve, _⟩ := S.some_ _ v hs
      exact ⟨u, y, by rw [hve], hy, hcu, by rw [hve]⟩
    · exact absurd hs hf
  have flows : ∀ e ∈ edgesOf h, flowK e.kind = true → ∃ (u t : Nat) (x y : HTx), e.frm = u ∧ e.to = t ∧ h[u]? = some x ∧ h[t]? = some y ∧ com h t = true ∧ x.fin ≤ y.bgn := fun e he hk => by
    obtain ⟨u, t, x, y, eu, et, hx, hy, cu, ct, hut, h0, hf, ha⟩ := hE e he
    exact ⟨u, t, x, y, eu, et, hx, hy, ct, hf hk⟩
  have : p = 2 ∨ p = 3 ∨ p = 4 ∨ p = 5 ∨ p = 6 := by omega
  rcases this with rfl | rfl | rfl | rfl | rfl
  · rintro ⟨t, x, o, v, hx, hc, ho, hv, hf, hb⟩
    obtain ⟨u, y, e1, e2, e3, e4⟩ := told t x o v hx hc ho hv hf
    unfold badA at hb
    rw [e1, show ((u : Int)).toNat = u by omega, e3] at hb
    cases hb
  · rintro ⟨t, x, o, v, hx, hc, ho, hv, hf, hb⟩
    obtain ⟨u, y, e1, e2, e3, e4⟩ := told t x o v hx hc ho hv hf
    unfold badB at hb
    rw [e1, show ((u : Int)).toNat = u by omega, e2] at hb
    simp only [decide_eq_true_eq] at hb
    exact hb e4
  · rintro ⟨e, he, hk, hw⟩
    obtain ⟨u, t, x, y, eu, et, hx, hy, cu, ct, hut, h0, hf, ha⟩ := hE e he
    have hle := hf hk
    rw [et, eu] at hw
    have hb := bgn_fin H hy ct
    rcases way_fin H flows hy hw with h1 | ⟨t', y', h1, h2', h3, h4⟩
    · omega
    · have : t' = u := by omega
      subst this
      rw [hx] at h2'; cases h2'
      have := bgn_fin H hx cu
      have : x.fin = y.fin := by omega
      exact hut (ends_inj H hy hx (com_fate hy ct) (com_fate hx cu) this)
  · rintro ⟨e, he, hb⟩
    obtain ⟨u, t, x, y, eu, et, hx, hy, cu, ct, hut, h0, hf, ha⟩ := hE e he
    unfold earlyB at hb
    rw [eu, et, Bool.and_eq_true] at hb
    rw [show ((u : Int)).toNat = u by omega, show ((t : Int)).toNat = t by omega, hx, hy] at hb
    simp only [decide_eq_true_eq] at hb
    have := hf hb.1
    omega
  · rintro ⟨e, he, hk, hw⟩
    obtain ⟨t, u, x, y, eu, et, hx, hy, cu, ct, hut, h0, hf, ha⟩ := hE e he
    have hlt := ha hk
    rw [et, eu] at hw
    have hst : ∀ e ∈ starts h (edgesOf h) h.length, startK e.kind = true → ∃ (u t : Nat) (x y : HTx), e.frm = u ∧ e.to = t ∧ h[u]? = some x ∧ h[t]? = some y ∧ com h t = true ∧ x.fin ≤ y.bgn := by
      intro e he hk
      rcases mem_starts he with h1 | ⟨a, b, e1, e2, e3⟩
      · refine flows e h1 ?_
        obtain ⟨_, _, _, _, _, _, _, _, _, _, _, h0', _⟩ := hE e h1
        unfold startK at hk
        rw [Bool.or_eq_true, decide_eq_true_iff] at hk
        exact hk.resolve_left h0'
      · unfold startB at e3
        simp only [Bool.and_eq_true] at e3
        obtain ⟨⟨⟨_, c1⟩, c2⟩, c3⟩ := e3
        obtain ⟨x1, hx1, _⟩ := com_iff.1 c1
        obtain ⟨y1, hy1, _⟩ := com_iff.1 c2
        rw [hx1, hy1] at c3
        exact ⟨a, b, x1, y1, e1, e2, hx1, hy1, c2, by simpa using c3⟩
    rcases way_fin H hst hy hw with h1 | ⟨t', y', h1, h2', h3, h4⟩
    · omega
    · have : t' = t := by omega
      subst this
      rw [hx] at h2'; cases h2'
      omega
theorem way_more {es : List Edge} {m m' : Edge → Bool} (hm : ∀ e, m e = true → m' e = true) {a x : Int} (hw : Way es m a x) : Way es m' a x := by
  induction hw with
  | start => exact .start
  | step hw he h1 ih => exact .step ih he (hm _ h1)
theorem cyc_more {es es2 : List Edge} {m1 m2 m1' m2' : Edge → Bool} (h1 : ∀ e, m1 e = true → m1' e = true) (h2 : ∀ e, m2 e = true → m2' e = true) (hc : Cyc es es2 m1 m2) : Cyc es es2 m1' m2' := by
  obtain ⟨e, he, hm, hw⟩ := hc
  exact ⟨e, he, h1 e hm, way_more h2 hw⟩
theorem phen_1_4 (hp : PhenP h 1) : PhenP h 4 := cyc_more (fun e he => by simp only [writeK, flowK, decide_eq_true_eq] at *; exact .inl he) (fun e he => by simp only [writeK, flowK, decide_eq_true_eq] at *; exact .inl he) hp
theorem phen_7_8 (hp : PhenP h 7) : PhenP h 8 := cyc_more (fun e he => by simp only [itemK, antiK, decide_eq_true_eq] at *; exact .inl he) (fun e he => he) hp
end
end Go.Proofs.YtooigfkjdemnlaaGreatDoor
