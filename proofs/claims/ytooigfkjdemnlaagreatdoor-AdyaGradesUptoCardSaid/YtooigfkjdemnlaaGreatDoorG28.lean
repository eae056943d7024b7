/- Own texts of this claim, joined in build order: H1, F2, F3, D3. -/
import Derived.Test.YtooigfkjdemnlaaGreatDoorG27
import Derived.Test.YtooigfkjdemnlaaGreatDoorG12
set_option linter.all false
namespace Go.Proofs.YtooigfkjdemnlaaGreatDoor
set_option maxRecDepth 100000
open Go.RowKit Go.Lib Go.Sort Go.Shelf Xw

theorem zero_int (w : World) : (zeroValue 3).run Tryz.prog w = .ok (.int .i64 0) w := by kernel_rfl
theorem intC_len : ∀ x, (intC x).length = 1 := fun _ => rfl
theorem int_cell {w W : World} {g off cap : Nat} {l : List Int} {F : Nat → Prop} (h : Sl w 3 1 (.slice (some ⟨g, off, none⟩) l.length cap) l.length (l.flatMap intC) F) (hW : W.heap[g]? = w.heap[g]?) {i : Nat} {x : Int} (hx : l[i]? = some x) :
    W.cell? ⟨g, off + i, none⟩ = some (.int .i64 x) ∧ W.frozen? ⟨g, off + i, none⟩ = false := by
  have hH := holdsK_of_sl (enc := intC) (size := 1) (fun _ => rfl) h
  have hi : i < l.length := (List.getElem?_eq_some_iff.1 hx).1
  have hl : l.toArray[i]! = x := by rw [bang_list]; simp [List.getD_eq_getElem?_getD, hx]
  have := hH (i * 1 + 0) (by rw [size_flatK]; simp; omega)
  rw [get_flatK _ _ _ _ (by simp; omega)] at this
  rw [show (i * 1 + 0) / 1 = i by omega, show (i * 1 + 0) % 1 = 0 by omega, hl] at this
  rw [show off + (i * 1 + 0) = off + i by omega] at this
  exact ⟨(World.cell?_of_block (a := ⟨g, off + i, none⟩) hW).trans this.1, (World.frozen?_of_block (a := ⟨g, off + i, none⟩) hW).trans this.2⟩
theorem sl_block {α : Type} {enc : α → List Value} {w : World} {e : TypeId} {g off size n cap : Nat} {xs : List Value} {F : Nat → Prop} (h : Sl w e size (.slice (some ⟨g, off, none⟩) n cap) n xs F) : g < w.heap.size ∧ F g ∧ n ≤ cap ∧ cap ≤ 9223372036854775807 ∧ ∃ cur, w.heap[g]? = some (.cells cur e (0, 0)) ∧ off + cap * size ≤ cur.size := by
  rcases h.2 with ⟨h1, _⟩ | ⟨g', off', cap', cur', h1, hF, h3, h4, h5, h6, _⟩
  · cases h1
  · cases h1
    exact ⟨lt_of_heap h3, hF, h4, by simpa only [maxLen] using h5, cur', h3, h6⟩
def minL : List Int → Int → Int
  | [], m => m
  | x :: r, m => minL r (min m x)
theorem minL_le : ∀ (l : List Int) (m : Int), minL l m ≤ m ∧ ∀ x ∈ l, minL l m ≤ x
  | [], m => ⟨Int.le_refl _, by simp⟩
  | y :: r, m => by
    obtain ⟨h1, h2⟩ := minL_le r (min m y)
    have h3 : min m y ≤ m ∧ min m y ≤ y := by omega
    refine ⟨Int.le_trans h1 h3.1, fun x hx => ?_⟩
    simp only [minL]
    rcases List.mem_cons.1 hx with rfl | hx
    · exact Int.le_trans h1 h3.2
    · exact h2 x hx
theorem minL_mem : ∀ (l : List Int) (m : Int), minL l m = m ∨ minL l m ∈ l
  | [], m => .inl rfl
  | y :: r, m => by
    simp only [minL]
    rcases minL_mem r (min m y) with h1 | h1
    · by_cases hy : y < m
      · rw [h1, show min m y = y by omega]; exact .inr (List.mem_cons_self ..)
      · rw [h1]; exact .inl (by omega)
    · exact .inr (List.mem_cons_of_mem _ h1)
theorem minL_append (a b : List Int) (m : Int) : minL (a ++ b) m = minL b (minL a m) := by
  induction a generalizing m with
  | nil => rfl
  | cons x r ih => simp only [List.cons_append, minL, ih]
set_option maxHeartbeats 2000000 in
theorem minI_ {w : World} {g off cap : Nat} {l : List Int} {F : Nat → Prop} (h : Sl w 3 1 (.slice (some ⟨g, off, none⟩) l.length cap) l.length (l.flatMap intC) F) (hne : l ≠ []) :
    Calls Tryz.prog 25 #[.slice (some ⟨g, off, none⟩) l.length cap] w fun e w' => ∃ m, e = .returned (.int .i64 m) ∧ m ∈ l ∧ (∀ x ∈ l, m ≤ x) ∧ Below w.heap.size w w' := by
  obtain ⟨hgl, _, hnc, hcm, _⟩ := sl_block (enc := intC) h
  have hpos : 0 < l.length := List.length_pos_iff.2 hne
  obtain ⟨x0, hx0⟩ : ∃ x, l[0]? = some x := ⟨_, List.getElem?_eq_getElem hpos⟩
  have c0 := (int_cell h (W := w) rfl hx0).1
  rw [Nat.add_zero] at c0
  have hn1 : ¬ (l.length : Int) < 1 := by omega
  have hn0 : (0 : Int) < l.length := by omega
  have HX0 := Lib.hid hx0
  have HH := Lib.hid h
  clear hx0 h hne
  go_enter Tryz.func25, Tryz.ntmps25
  go_wp2
  go_loopw [3, 4] (fun m' i' wr => ∃ (i : Nat) (m : Int), 1 ≤ i ∧ i ≤ l.length ∧ i' = .int .i64 i ∧ m' = .int .i64 m ∧ Hid (m = minL (l.take i) x0) ∧ Below w.heap.size w wr) (fun _ i' _ => l.length - (intOf i').toNat)
  case atStart =>
    refine ⟨1, x0, by omega, by omega, rfl, rfl, Lib.hid ?_, Below.refl _ _⟩
    have : l.take 1 = [x0] := by
      rw [List.take_add_one, List.take_zero, HX0.out]; rfl
    rw [this]; simp [minL]
  case round =>
    obtain ⟨i, m, hi1, hi2, rfl, rfl, HM, hB⟩ := hrel
    by_cases hlt : i < l.length
    · obtain ⟨x, hx⟩ : ∃ x, l[i]? = some x := ⟨_, List.getElem?_eq_getElem hlt⟩
      have ci := (int_cell HH.out (W := wr) (hB.block g hgl) hx).1
      have hgr : g < wr.heap.size := by have := hB.size; omega
      have hii : (i : Int) < l.length := by omega
      have HX := Lib.hid hx
      clear hx
      go_wp2
      refine ⟨⟨i + 1, minL (l.take (i + 1)) x0, by omega, by omega, by simp, ?_, Lib.hid rfl, hB⟩, by simp [intOf]; omega⟩
      rw [List.take_add_one, HX.out, minL_append, ← HM.out]
      simp [minL]
    · obtain rfl : i = l.length := by omega
      have hii : ¬ (l.length : Int) < l.length := by omega
      go_wp2
      go_ret
      have hm := HM.out
      rw [List.take_length] at hm
      refine ⟨m, rfl, ?_, fun x hx => by rw [hm]; exact (minL_le l x0).2 x hx, hB⟩
      rcases minL_mem l x0 with h1 | h1
      · rw [hm, h1]; exact List.mem_of_getElem? HX0.out
      · rw [hm]; exact h1
def TestI (tb : Nat) (w : World) (M : FuncId) (caps : Array Value) (p : Int → Bool) : Prop := ∀ (u : Int) (W : World), W.heap[tb]? = w.heap[tb]? → tb < W.heap.size → Calls Tryz.prog M (#[.int .i64 u] ++ caps) W fun r W' => r = .returned (.bool (p u)) ∧ Below W.heap.size W W'
set_option maxHeartbeats 2000000 in
theorem indexI_ {w : World} {g off cap tb : Nat} {l : List Int} {F : Nat → Prop} (h : Sl w 3 1 (.slice (some ⟨g, off, none⟩) l.length cap) l.length (l.flatMap intC) F) (M : FuncId) (caps : Array Value) (p : Int → Bool)
    (eg : ∀ args w, (callFunc M args).run Tryz.prog w = .ok (.enter M args) w) (htb : tb < w.heap.size) (ht : TestI tb w M caps p) :
    Calls Tryz.prog 57 #[.slice (some ⟨g, off, none⟩) l.length cap, .func (.func M) #[] caps] w fun e w' => Below w.heap.size w w' ∧ ((e = .returned (.int .i64 (-1)) ∧ ∀ x ∈ l, p x = false) ∨ ∃ (i : Nat) (x : Int), e = .returned (.int .i64 i) ∧ l[i]? = some x ∧ p x = true ∧ ∀ j < i, ∀ y, l[j]? = some y → p y = false) := by
  obtain ⟨hgl, _, hnc, hcm, _⟩ := sl_block (enc := intC) h
  have HH := Lib.hid h
  have HT := Lib.hid ht
  clear h ht
  go_enter Tryz.func57, Tryz.ntmps57
  go_wp2
  go_loopw [5, 8] (fun _ i' wr => ∃ i : Nat, i ≤ l.length ∧ i' = .int .i64 i ∧ Hid (∀ j < i, ∀ y, l[j]? = some y → p y = false) ∧ Below w.heap.size w wr) (fun _ i' _ => l.length - (intOf i').toNat)
  case atStart => exact ⟨0, by omega, rfl, Lib.hid (fun j hj => by omega), Below.refl _ _⟩
  case round =>
    obtain ⟨i, hi, rfl, HI, hB⟩ := hrel
    have hz := hB.size
    by_cases hlt : i < l.length
    · obtain ⟨x, hx⟩ : ∃ x, l[i]? = some x := ⟨_, List.getElem?_eq_getElem hlt⟩
      have ci := (int_cell HH.out (W := wr) (hB.block g hgl) hx).1
      have hgr : g < wr.heap.size := by omega
      have hii : (i : Int) < l.length := by omega
      have HC := Lib.hid (HT.out x wr (hB.block tb htb) (by omega))
      have HX := Lib.hid hx
      clear hx
      cases hpx : p x with
      | false =>
        have HP := Lib.hid hpx
        clear hpx
        go_wp2_with (go_at_fn M; refine HC.out.mono ?_; rw [HP.out]; rintro r w9 ⟨rfl, hB9⟩)
        refine ⟨⟨i + 1, by omega, by simp, Lib.hid (fun j hj y hy => ?_), hB.trans (hB9.mono (by omega))⟩, by simp [intOf]; omega⟩
        by_cases hji : j = i
        · subst hji
          rw [HX.out] at hy; cases hy
          exact HP.out
        · exact HI.out j (by omega) y hy
      | true =>
        have HP := Lib.hid hpx
        clear hpx
        go_wp2_with (go_at_fn M; refine HC.out.mono ?_; rw [HP.out]; rintro r w9 ⟨rfl, hB9⟩)
        go_ret
        exact ⟨hB.trans (hB9.mono (by omega)), .inr ⟨i, x, rfl, HX.out, HP.out, HI.out⟩⟩
    · obtain rfl : i = l.length := by omega
      go_wp2
      go_ret
      refine ⟨hB, .inl ⟨rfl, fun x hx => ?_⟩⟩
      obtain ⟨j, hj⟩ := List.mem_iff_getElem?.1 hx
      exact HI.out j (List.getElem?_eq_some_iff.1 hj).1 x hj
theorem run_clearI {w : World} {g o n c : Nat} {cur : Array Value} (hb : w.heap[g]? = some (.cells cur 3 (0, 0))) (hn : 0 < n) (hfit : o + n ≤ cur.size) :
    ∃ zs : List Value, zs.length = n * 1 ∧ ∀ ty, (Builtin.clear_ #[34] ty #[.slice (some ⟨g, o, none⟩) n c]).run Tryz.prog w = .ok (.tuple #[]) (w.setCells g o zs) := by
  refine ⟨(Builtin.zeroCells #[.int .i64 0] n).toList, by simp [Builtin.zeroCells], fun ty => ?_⟩
  have hlen : (Builtin.zeroCells #[Value.int .i64 0] n).toList.length = n := by simp [Builtin.zeroCells]
  have hst := run_storeCells_cells (P := Tryz.prog) g o (Builtin.zeroCells #[.int .i64 0] n).toList 0 w
    (by intro j hj; rw [hlen] at hj; rw [cell_of_row w g (o + 0 + j) cur 3 (0, 0) hb, Array.getElem?_eq_getElem (by omega)]; rfl) (by intro j hj; simp [World.frozen?, hb]) (by
      intro v hv
      simp only [Builtin.zeroCells, Array.toList_map, List.mem_map] at hv
      obtain ⟨i, _, rfl⟩ := hv
      have : i % 1 = 0 := by omega
      have h1 : (#[Value.int .i64 0] : Array Value).size = 1 := rfl
      rw [h1, this]
      rfl)
  simp only [Nat.add_zero] at hst
  obtain ⟨m, rfl⟩ : ∃ m, n = m + 1 := ⟨n - 1, by omega⟩
  simp [Builtin.clear_, run_underlying Tryz.underlying34, zero_int, hst, Value.cells]
set_option maxHeartbeats 8000000 in
theorem deleteI_ {w : World} {g off cap tb : Nat} {l : List Int} {F : Nat → Prop} (h : Sl w 3 1 (.slice (some ⟨g, off, none⟩) l.length cap) l.length (l.flatMap intC) F) (M : FuncId) (caps : Array Value) (p : Int → Bool)
    (eg : ∀ args w, (callFunc M args).run Tryz.prog w = .ok (.enter M args) w) (htb : tb < w.heap.size) (htg : tb ≠ g) (ht : TestI tb w M caps p) (hlen : l.length < 4611686018427387904) :
    Calls Tryz.prog 26 #[.slice (some ⟨g, off, none⟩) l.length cap, .func (.func M) #[] caps] w fun e w' => e = .returned (.slice (some ⟨g, off, none⟩) (l.filter fun u => !p u).length cap) ∧
      Sl w' 3 1 (.slice (some ⟨g, off, none⟩) (l.filter fun u => !p u).length cap) (l.filter fun u => !p u).length ((l.filter fun u => !p u).flatMap intC) F ∧ Chg (fun j => j = g) w w' := by
  obtain ⟨hgl, _, hnc, hcm, _⟩ := sl_block (enc := intC) h
  have hix := Lib.hid (indexI_ h M caps p eg htb ht)
  have HH := Lib.hid h
  have HT := Lib.hid ht
  clear h ht
  go_enter Tryz.func26, Tryz.ntmps26
  go_wp2_with (go_at_call 57; with_reducible refine hix.out.mono ?_)
  rintro e w1 ⟨hB1, he⟩
  have hz1 := hB1.size
  rcases he with ⟨rfl, hall⟩ | ⟨i, x, rfl, hx, hpx, hbef⟩
  · have hfil : (l.filter fun u => !p u) = l := List.filter_eq_self.2 (fun u hu => by simp [hall u hu])
    have HF := Lib.hid hfil
    clear hfil hall
    go_wp2
    go_ret
    rw [HF.out]
    have hc1 : Chg (fun _ => False) w w1 := ⟨hB1.tape, hB1.os, hB1.output, hB1.size, fun b hb _ => hB1.block b hb⟩
    exact ⟨rfl, HH.out.chg hc1 (fun _ _ f => f), hc1.mono (fun _ _ f => f.elim)⟩
  · have hil := (List.getElem?_eq_some_iff.1 hx).1
    have hib : ((i : Int) == -1) = false := by simp
    have hiw : IntKind.i64.wrap ((i : Int) + 1) = (i + 1 : Nat) := by rw [IntKind.wrap_i64]; omega
    have hS1 : Sl w1 3 1 (.slice (some ⟨g, off, none⟩) l.length cap) l.length (l.flatMap intC) F := ⟨HH.out.1, by
      rcases HH.out.2 with hs | ⟨g', o', c', cur', e1, hF, h3, h4⟩
      · exact .inl hs
      · cases e1
        exact .inr ⟨g, off, cap, cur', rfl, hF, (hB1.block g hgl).trans h3, h4⟩⟩
    have hst : (l.take (i + 1)).filter (fun u => !p u) = l.take i := by
      rw [List.take_add_one, hx, List.filter_append]
      have h1 : (l.take i).filter (fun u => !p u) = l.take i := List.filter_eq_self.2 (fun u hu => by
        obtain ⟨j, hj⟩ := List.mem_iff_getElem?.1 hu
        have hj2 := (List.getElem?_eq_some_iff.1 hj).1
        rw [List.length_take] at hj2
        rw [List.getElem?_take, if_pos (by omega)] at hj
        simp [hbef j (by omega) u hj])
      rw [h1]
      simp [hpx]
    have HS1 := Lib.hid hS1
    have HST := Lib.hid hst
    have HX := Lib.hid hx
    clear hS1 hst hx hpx hbef
    go_wp2
    go_loopw [5, 6, 7] (fun m' j' _ wr => ∃ (m j : Nat) (c : List Int), m' = .int .i64 m ∧ j' = .int .i64 j ∧ m < j ∧ j ≤ l.length ∧ Hid (c.length = l.length ∧ c.take m = (l.take j).filter (fun u => !p u) ∧ c.drop j = l.drop j) ∧
      Sl wr 3 1 (.slice (some ⟨g, off, none⟩) c.length cap) c.length (c.flatMap intC) F ∧ Chg (fun j => j = g) w wr) (fun _ j' _ _ => l.length - (intOf j').toNat)
    case atStart => exact ⟨i, i + 1, l, rfl, by first | rfl | simp, by omega, by omega, Lib.hid ⟨rfl, HST.out.symm, rfl⟩, HS1.out, (Chg.of_below hB1).mono (fun j hj h => absurd h (by omega))⟩
    case round =>
      obtain ⟨m, j, c, rfl, rfl, hmj, hjl, HI, hS, hC⟩ := hrel
      have hz := hC.size
      obtain ⟨hcl, hct, hcd⟩ := HI.out
      by_cases hlt : j < l.length
      · obtain ⟨x, hx⟩ : ∃ x, l[j]? = some x := ⟨_, List.getElem?_eq_getElem hlt⟩
        have hcx : c[j]? = some x := by
          have := congrArg (fun z => z[0]?) hcd
          simpa [List.getElem?_drop, hx] using this
        obtain ⟨zm, hzm⟩ : ∃ z, c[m]? = some z := ⟨_, List.getElem?_eq_getElem (by omega)⟩
        have cj := (int_cell hS (W := wr) rfl hcx).1
        have hgr : g < wr.heap.size := by omega
        have hji : (j : Int) < l.length := by omega
        have hmi : (m : Int) < l.length := by omega
        have hjw : IntKind.i64.wrap ((j : Int) + 1) = (j + 1 : Nat) := by rw [IntKind.wrap_i64]; omega
        have hmw : IntKind.i64.wrap ((m : Int) + 1) = (m + 1 : Nat) := by rw [IntKind.wrap_i64]; omega
        have HC := Lib.hid (HT.out x wr (hC.block tb htb htg) (by omega))
        have hcd2 : ∀ d : List Int, d.drop j = l.drop j → d.drop (j + 1) = l.drop (j + 1) := fun d hd => by
          have := congrArg (List.drop 1) hd
          simpa [List.drop_drop] using this
        have HCD := Lib.hid hcd2
        have HX := Lib.hid hx
        have HZM := Lib.hid hzm
        have HS := Lib.hid hS
        have HCL := Lib.hid hcl
        have HCT := Lib.hid hct
        have HCDR := Lib.hid hcd
        clear hx hcx hzm hcl hct hcd hS hcd2
        cases hpx : p x with
        | true =>
          have HP := Lib.hid hpx
          clear hpx
          go_wp2_with (go_at_fn M; refine HC.out.mono ?_; rw [HP.out]; rintro r w9 ⟨rfl, hB9⟩)
          have hc9 : Chg (fun _ => False) wr w9 := ⟨hB9.tape, hB9.os, hB9.output, hB9.size, fun b hb _ => hB9.block b hb⟩
          refine ⟨⟨m, j + 1, c, rfl, by simp, by omega, by omega, Lib.hid ⟨HCL.out, ?_, HCD.out c HCDR.out⟩, HS.out.chg hc9 (fun _ _ f => f), hC.trans hc9 (fun _ _ f => f.elim)⟩, by simp [intOf]; omega⟩
          rw [List.take_add_one, HX.out, List.filter_append, ← HCT.out]
          simp [HP.out]
        | false =>
          have HP := Lib.hid hpx
          clear hpx
          go_wp2_with (go_at_fn M; refine HC.out.mono ?_; rw [HP.out]; rintro r w9 ⟨rfl, hB9⟩
                       have hc9 : Chg (fun _ => False) wr w9 := ⟨hB9.tape, hB9.os, hB9.output, hB9.size, fun b hb _ => hB9.block b hb⟩
                       have hS9 := HS.out.chg hc9 (fun _ _ f => f)
                       have hgr9 : g < w9.heap.size := by have := hc9.size; omega
                       obtain ⟨cm, fm⟩ := int_cell hS9 (W := w9) rfl HZM.out
                       have HS9 := Lib.hid hS9
                       clear hS9)
          obtain ⟨hp1, hp2⟩ := Sl.put (enc := intC) (size := 1) (fun _ => rfl) HS9.out m (by rw [HCL.out]; omega) x
          rw [Nat.mul_one] at hp1 hp2
          refine ⟨⟨m + 1, j + 1, c.set m x, by simp, by simp, by omega, by omega, Lib.hid ⟨by rw [List.length_set, HCL.out], ?_, by rw [List.drop_set_of_lt (by omega)]; exact HCD.out c HCDR.out⟩, ?_, ?_⟩, by simp [intOf]; omega⟩
          · rw [take_set_succ _ _ _ (by rw [HCL.out]; omega), List.take_add_one, HX.out, List.filter_append, HCT.out]
            simp [HP.out]
          · rw [List.length_set]
            exact hp1
          · exact (hC.trans hc9 (fun _ _ f => f.elim)).trans hp2 (fun _ _ h => h)
      · obtain rfl : j = l.length := by omega
        rw [List.take_length] at hct
        have hmd : (l.filter fun u => !p u).length = m := by rw [← hct, List.length_take]; omega
        obtain ⟨cur, hbc, hfit⟩ : ∃ cur, wr.heap[g]? = some (.cells cur 3 (0, 0)) ∧ off + c.length ≤ cur.size := by
          obtain ⟨_, _, h4, _, cur, h3, h5⟩ := sl_block (enc := intC) hS
          exact ⟨cur, h3, by omega⟩
        obtain ⟨zs, hzl, hclr⟩ := run_clearI (g := g) (o := off + m) (n := l.length - m) (c := cap - m) hbc (by omega) (by rw [hcl] at hfit; omega)
        obtain ⟨hp1, hp2⟩ := Sl.tail (enc := intC) (size := 1) (fun _ => rfl) hS m (by rw [hcl]; omega) zs (by rw [hzl, hcl])
        rw [Nat.mul_one] at hp1 hp2
        have hmi : (m : Int) ≤ l.length := by omega
        have hlc : (l.length : Int) ≤ cap := by omega
        have hmcap : m ≤ cap := by omega
        have hmci : (m : Int) ≤ cap := by omega
        have hmne : ¬ cap = m := by omega
        have hqn : ¬ (l.length : Int) < l.length := by omega
        have HMD := Lib.hid hmd
        have HCT := Lib.hid hct
        have HP := Lib.hid (And.intro hp1 hp2)
        clear hcl hct hcd hmd hp1 hp2 hbc hfit hzl hS
        go_wp2
        go_ret
        obtain ⟨hp1, hp2⟩ := HP.out
        rw [HMD.out, ← HCT.out]
        exact ⟨rfl, hp1, hC.trans hp2 (fun _ _ h => h)⟩
end Go.Proofs.YtooigfkjdemnlaaGreatDoor

namespace Go.Proofs.YtooigfkjdemnlaaGreatDoor
set_option maxRecDepth 100000
open Go.RowKit Go.Lib Go.Sort Go.Shelf Xw

def ptLt (h : List HTx) (a b : Pt) : Bool := decide (rank1 h a < rank1 h b ∨ rank1 h a = rank1 h b ∧ (rank2 h a < rank2 h b ∨ rank2 h a = rank2 h b ∧ a.txn < b.txn))
def clampP (h : List HTx) (p : Pt) : Pt := if p.txn < h.length then p else ⟨0, p.cm, p.pat⟩
theorem clampP_in {h : List HTx} {p : Pt} (hp : p.txn < h.length) : clampP h p = p := by unfold clampP; rw [if_pos hp]
theorem clampP_lt {h : List HTx} (h0 : 0 < h.length) (p : Pt) : ∃ x, h[(clampP h p).txn]? = some x := by
  unfold clampP
  split
  · exact ⟨_, List.getElem?_eq_getElem (by assumption)⟩
  · exact ⟨_, List.getElem?_eq_getElem h0⟩
theorem ltOf_pt (h : List HTx) (x y : Pt) : ltOf (ptCmp h) x y = ptLt h x y := by
  unfold ltOf ptLt
  congr 1
  unfold ptCmp orL orL orL orL cmpI
  apply propext
  generalize rank1 h x = a1
  generalize rank1 h y = b1
  generalize rank2 h x = a2
  generalize rank2 h y = b2
  repeat' split
  all_goals constructor
  all_goals intro h
  all_goals omega
theorem swo_pt (h : List HTx) (f : Pt → Pt) : SWO (fun x y => ptLt h (f x) (f y)) where
  irrefl x := by unfold ptLt; simp
  trans x y z h1 h2 := by
    unfold ptLt at *
    simp only [decide_eq_true_eq] at *
    omega
  ntrans x y z h1 h2 := by
    unfold ptLt at *
    simp only [decide_eq_false_iff_not] at *
    omega
theorem flat_clamp {h : List HTx} : ∀ {l : List Pt}, (∀ p ∈ l, p.txn < h.length) → l.flatMap (fun p => ptC (clampP h p)) = l.flatMap ptC
  | [], _ => rfl
  | a :: r, hl => by
    rw [List.flatMap_cons, List.flatMap_cons, flat_clamp (fun p hp => hl p (List.mem_cons_of_mem _ hp)), clampP_in (hl a (List.mem_cons_self ..))]
theorem ptC_one (f : Pt → Pt) : ∀ x : Pt, ∀ v ∈ ptC (f x), v.oneCell' = true := by
  intro x v hv
  simp only [ptC, List.mem_cons, List.not_mem_nil, or_false] at hv
  rcases hv with rfl | rfl | rfl <;> rfl
theorem sortPts_ {w : World} {B lp lb fb g off cap : Nat} {h : List HTx} {ty ty2 : TypeId} {l : List Pt} {F : Nat → Prop} (hl : Led w B lp h) (hlb : w.heap[lb]? = some (.cells #[.pointer (some ⟨lp, 0, none⟩)] ty)) (hfb : w.heap[fb]? = some (.cells #[.func (.func 71) #[] #[.pointer (some ⟨lb, 0, none⟩)]] ty2))
    (hgB : B ≤ g) (hgl : g ≠ lb) (hgf : g ≠ fb) (hin : ∀ p ∈ l, p.txn < h.length) (h0 : 0 < h.length) (hS : Sl w 112 3 (.slice (some ⟨g, off, none⟩) l.length cap) l.length (l.flatMap ptC) F) (hsz : l.length < 4611686018427387904) :
    Calls Tryz.prog 72 #[.slice (some ⟨g, off, none⟩) l.length cap, .func (.func 73) #[] #[.pointer (some ⟨fb, 0, none⟩)]] w fun e w' => e = .returned (.tuple #[]) ∧
      ∃ l' : List Pt, l'.Perm l ∧ l'.Pairwise (fun a b => ptLt h b a = false) ∧ Sl w' 112 3 (.slice (some ⟨g, off, none⟩) l'.length cap) l'.length (l'.flatMap ptC) F ∧ Chg (fun j => j = g) w w' := by
  have hS' : Sl w 112 3 (.slice (some ⟨g, off, none⟩) l.length cap) l.length (l.flatMap fun p => ptC (clampP h p)) F := by rw [flat_clamp hin]; exact hS
  have hH := holdsK_of_sl (enc := fun p => ptC (clampP h p)) (size := 3) (fun _ => rfl) hS'
  have hblk : g < w.heap.size := (sl_block (enc := ptC) hS).1
  have hlbl := lt_of_heap hlb
  have hfbl := lt_of_heap hfb
  have eg : ∀ args w, (callFunc 73 args).run Tryz.prog w = .ok (.enter 73 args) w := enters_of Tryz.func73 (by kernel_rfl) rfl
  have hcmp : CmpLays Tryz.prog 73 #[.pointer (some ⟨fb, 0, none⟩)] (fun p => ptC (clampP h p)) 3 (fun x y => ptCmp h (clampP h x) (clampP h y)) g off l.toArray.size w := fun m os dk hdk x y => by
    have S : SWK (fun p => ptC (clampP h p)) 3 w g off dk (sortWorldK (fun p => ptC (clampP h p)) 3 w g off m dk os) := ⟨m, os, rfl⟩
    obtain ⟨s1, s2, _⟩ := swk_heap S
    obtain ⟨x', hx⟩ := clampP_lt h0 x
    obtain ⟨y', hy⟩ := clampP_lt h0 y
    have hle := hl.le
    have := ptCmp_ (hl.keep (fun j hj => s2 j (by omega) (by omega)) s1) ((s2 lb hlbl (fun e => hgl e.symm)).trans hlb) ((s2 fb hfbl (fun e => hgf e.symm)).trans hfb) (clampP h x) (clampP h y) x' y' hx hy
    simpa [ptC, Grs] using this
  have hlt : ltOf (fun x y => ptCmp h (clampP h x) (clampP h y)) = fun x y => ptLt h (clampP h x) (clampP h y) := funext fun x => funext fun y => ltOf_pt h (clampP h x) (clampP h y)
  have hh := AnyQ.slices_SortFunc layP 3 Tryz.isAgg112 Tryz.sizeOf112 (fun p => ptC (clampP h p)) (fun _ => rfl) (ptC_one _) (fun x y => ptCmp h (clampP h x) (clampP h y)) (by rw [hlt]; exact swo_pt h _) 73 #[.pointer (some ⟨fb, 0, none⟩)] g off cap l.toArray w eg hcmp hH hblk (by simpa using hsz)
  rw [hlt] at hh
  have hll : l.toArray.size = l.length := by simp
  refine (show Calls Tryz.prog 72 _ w _ by rw [← hll]; exact hh).mono ?_
  rintro e w' ⟨he, d', n, os, hp, hs, hw⟩
  have hperm : d'.toList.Perm l := by
    obtain ⟨hz, _, hp⟩ := hp
    have e1 : d'.extract 0 l.toArray.size = d' := by rw [← hz]; exact Array.extract_size
    rw [e1, Array.extract_size] at hp
    simpa using hp
  have hin' : ∀ p ∈ d'.toList, p.txn < h.length := fun p hp' => hin p (hperm.mem_iff.1 hp')
  have hdl : d'.toList.length = l.length := hperm.length_eq
  refine ⟨he, d'.toList, hperm, ?_, ?_, ?_⟩
  · rw [List.pairwise_iff_getElem]
    intro i j hi hj hij
    have := hs i j (Nat.zero_le _) hij (by rw [hll, ← hdl]; exact hj)
    have ei : d'[i]! = d'.toList[i] := by
      rw [Array.length_toList] at hi
      simp [getElem!_pos d' i hi]
    have ej : d'[j]! = d'.toList[j] := by
      rw [Array.length_toList] at hj
      simp [getElem!_pos d' j hj]
    rw [ei, ej] at this
    dsimp only at this
    rw [clampP_in (hin' _ (List.getElem_mem hi)), clampP_in (hin' _ (List.getElem_mem hj))] at this
    exact this
  · have S : SWK (fun p => ptC (clampP h p)) 3 w g off d'.toList.toArray w' := ⟨n, os, by rw [hw]⟩
    have := sl_of_swk (enc := fun p => ptC (clampP h p)) (size := 3) (fun _ => rfl) hS' S hdl
    rw [flat_clamp hin'] at this
    exact this
  · have S : SWK (fun p => ptC (clampP h p)) 3 w g off d' w' := ⟨n, os, hw⟩
    exact swk_chg S
end Go.Proofs.YtooigfkjdemnlaaGreatDoor

namespace Go.Proofs.YtooigfkjdemnlaaGreatDoor
set_option maxRecDepth 100000
open Go.RowKit Go.Lib Go.Sort Go.Shelf Xw
set_option maxHeartbeats 2000000 in
theorem insNilP_ (fv : Value) (w : World) : Calls Tryz.prog 137 #[.slice none 0 0, .int .i64 0, .int .i64 0, fv] w fun e w' => e = .returned (.tuple #[]) ∧ w' = w := by
  go_enter Tryz.func137, Tryz.ntmps137
  go_wp2
  refine wp_loop_rounds 1 ?_
  rw [rounds_succ]
  go_wp2
  go_end0
  exact ⟨rfl, rfl⟩
set_option maxHeartbeats 2000000 in
theorem pdqNilP_ (lim : Int) (fv : Value) (w : World) : Calls Tryz.prog 107 #[.slice none 0 0, .int .i64 0, .int .i64 0, .int .i64 lim, fv] w fun e w' => e = .returned (.tuple #[]) ∧ w' = w := by
  go_enter Tryz.func107, Tryz.ntmps107
  go_wp2
  refine wp_loop_rounds 1 ?_
  rw [rounds_succ]
  go_wp2_with (go_at_call 137; refine (insNilP_ _ _).mono ?_; rintro e w' ⟨rfl, rfl⟩)
  (try simp only [Exit.inBlock, Exit.then]); refine bodyPost_ret (results_none rfl _ _ _) rfl ?_
  exact ⟨rfl, rfl⟩
set_option maxHeartbeats 2000000 in
theorem sortNilP_ (fv : Value) (w : World) : Calls Tryz.prog 72 #[.slice none 0 0, fv] w fun e w' => e = .returned (.tuple #[]) ∧ w' = w := by
  have hl : ∀ W, Calls Tryz.prog 99 #[.int .u64 0] W fun e w' => e = .returned (.int .i64 (Lib.bitLen 0 : Nat)) ∧ w' = W := fun W => by
    have h := Any.bits_Len (SlLaysF0.n15.bits (P := Tryz.prog) (ρ := renP) { layP with }) 0 W (by omega) (by omega)
    exact h
  go_enter Tryz.func72, Tryz.ntmps72
  go_wp2_with (first | (go_at_call 99; refine (hl _).mono ?_; rintro e w' ⟨rfl, rfl⟩) | (go_at_call 107; refine (pdqNilP_ _ _ _).mono ?_; rintro e w' ⟨rfl, rfl⟩))
  go_end0
  exact ⟨rfl, rfl⟩
end Go.Proofs.YtooigfkjdemnlaaGreatDoor

namespace Go.Proofs.YtooigfkjdemnlaaGreatDoor
set_option maxRecDepth 100000
open Go.RowKit Go.Lib Go.Sort Go.Shelf Xw

def Cyc (es es2 : List Edge) (m1 m2 : Edge → Bool) : Prop := ∃ e ∈ es, m1 e = true ∧ Way es2 m2 e.to e.frm
set_option maxHeartbeats 8000000 in
theorem cycle_ {w : World} {B gb mb0 gb2 mb : Nat} {a0 a2 ev b0 ev2 : Value} {es es2 : List Edge} (hg : w.heap[gb]? = some (.cells #[a0, ev, a2] 95)) (hr : Rows w B 4 (Flat edgeC) ev es) (hgB : gb < B)
    (g1 : w.heap[gb2]? = some (.cells #[b0, ev2, .map (some mb)] 95)) (hm : MapOfK kInt.enc w B mb 4 edgeC (fun t => es2.filter fun e => decide (e.frm = t))) (hgl : gb2 < B) (hle : B ≤ w.heap.size)
    (hns : ∀ e ∈ es, e.frm ≠ e.to) (hes : es2.length < 68719476736) (M1 M2 : FuncId) (m1 m2 : Edge → Bool)
    (eg1 : ∀ args w, (callFunc M1 args).run Tryz.prog w = .ok (.enter M1 args) w) (eg2 : ∀ args w, (callFunc M2 args).run Tryz.prog w = .ok (.enter M2 args) w)
    (hm1 : ∀ (e : Edge) (W : World), Calls Tryz.prog M1 #[edgeV e] W fun r W' => r = .returned (.bool (m1 e)) ∧ Below W.heap.size W W')
    (hm2 : ∀ (e : Edge) (W : World), Calls Tryz.prog M2 #[edgeV e] W fun r W' => r = .returned (.bool (m2 e)) ∧ Below W.heap.size W W') :
    Calls Tryz.prog 59 #[.pointer (some ⟨gb, 0, none⟩), .pointer (some ⟨gb2, 0, none⟩), .func (.func M1) #[] #[], .func (.func M2) #[] #[]] w fun e w' => Below w.heap.size w w' ∧ ((e = .returned (.slice none 0 0) ∧ ¬ Cyc es es2 m1 m2) ∨ (∃ a n c, e = .returned (.slice (some a) n c) ∧ Cyc es es2 m1 m2)) := by
  obtain ⟨EA, ec, rfl, hc1, hc2⟩ := hr.shape
  simp only [maxLen] at hc2
  have q1 := (cells_of hg).1 1
  have hgs : gb < w.heap.size := by omega
  have HM1 := Lib.hid hm1
  have HM2 := Lib.hid hm2
  have HNS := Lib.hid hns
  clear hm1 hm2 hns
  go_enter Tryz.func59, Tryz.ntmps59
  go_wp2
  go_loopw [10, 11, 17] (fun _ _ i' wr => ∃ i : Nat, i ≤ es.length ∧ i' = .int .i64 i ∧ Hid (∀ j < i, ∀ e, es[j]? = some e → m1 e = true → ¬ Way es2 m2 e.to e.frm) ∧ Below w.heap.size w wr) (fun _ _ i' _ => es.length - (intOf i').toNat)
  case atStart => exact ⟨0, by omega, rfl, Lib.hid (fun j hj => by omega), Below.refl _ _⟩
  case round =>
    obtain ⟨i, hi, rfl, HI, hB⟩ := hrel
    have hz := hB.size
    have hlow : ∀ j, j < B → wr.heap[j]? = w.heap[j]? := fun j hj => hB.block j (by omega)
    by_cases hlt : i < es.length
    · obtain ⟨e, he⟩ : ∃ e, es[i]? = some e := ⟨_, List.getElem?_eq_getElem hlt⟩
      obtain ⟨b, o, c2, hq, hb, p0, p1, p2, p3⟩ := hr.get4 he (wr := wr) hlow rfl
      cases hq
      have hbr : b < wr.heap.size := by omega
      obtain ⟨W8, hW8⟩ : ∃ W8, W8 = wr.alloc (.cells #[.int .i64 e.frm, .int .i64 e.to, .int .i64 e.kind, .string e.key] 66) := ⟨_, rfl⟩
      have hB8 : Below wr.heap.size wr W8 := by rw [hW8]; exact bel1 _ _
      have hz8 : W8.heap.size = wr.heap.size + 1 := by rw [hW8]; simp
      have hbx : W8.heap[wr.heap.size]? = some (.cells #[.int .i64 e.frm, .int .i64 e.to, .int .i64 e.kind, .string e.key] 66) := by rw [hW8]; exact heap_alloc_new _ _
      obtain ⟨q, qf⟩ := cells_of (cs := [.int .i64 e.frm, .int .i64 e.to, .int .i64 e.kind, .string e.key]) hbx
      have e0 := q 0
      have e1 := q 1
      have e2 := q 2
      have e3 := q 3
      have HC1 := Lib.hid (HM1.out e W8)
      have HBX := Lib.hid hbx
      have HW8 := Lib.hid hW8
      have HE := Lib.hid he
      have HR := Lib.hid hr
      have HML := Lib.hid hm
      clear q qf hbx hW8 he hr hm
      go_upto_region 4 with (fail)
      rw [← HW8.out]
      cases hme : m1 e with
      | false =>
        have HME := Lib.hid hme
        clear hme
        go_wp2_with (go_at_fn M1; refine HC1.out.mono ?_; rw [HME.out]; rintro r w9 ⟨rfl, hB9⟩)
        have hz9 := hB9.size
        refine ⟨⟨i + 1, by omega, by simp, Lib.hid (fun j hj e' he' hm' => ?_), hB.trans ((hB8.trans (hB9.mono (by omega))).mono (by omega))⟩, by simp [intOf]; omega⟩
        by_cases hji : j = i
        · subst hji
          rw [HE.out] at he'; cases he'
          rw [HME.out] at hm'; cases hm'
        · exact HI.out j (by omega) e' he' hm'
      | true =>
        have HME := Lib.hid hme
        clear hme
        go_upto_region 5 with (
          go_at_fn M1; refine HC1.out.mono ?_; rw [HME.out]; rintro r w9 ⟨rfl, hB9⟩
          have hz9 := hB9.size
          have f0 := (World.cell?_of_block (a := ⟨wr.heap.size, 0, none⟩) (hB9.block wr.heap.size (by omega))).trans e0
          have f1 := (World.cell?_of_block (a := ⟨wr.heap.size, 1, none⟩) (hB9.block wr.heap.size (by omega))).trans e1
          have f2 := (World.cell?_of_block (a := ⟨wr.heap.size, 2, none⟩) (hB9.block wr.heap.size (by omega))).trans e2
          have f3 := (World.cell?_of_block (a := ⟨wr.heap.size, 3, none⟩) (hB9.block wr.heap.size (by omega))).trans e3)
        have hBw9 : Below wr.heap.size wr w9 := hB8.trans (hB9.mono (by omega))
        have hlow9 : ∀ j, j < B → w9.heap[j]? = w.heap[j]? := fun j hj => (hBw9.block j (by omega)).trans (hlow j hj)
        have hpath := Lib.hid (path_ ((hlow9 gb2 hgl).trans g1) (HML.out.keep hlow9) hgl (by omega) e.to e.frm (fun h => HNS.out e (List.mem_of_getElem? HE.out) h.symm) M2 #[] m2 eg2 hes (fun e' W => HM2.out e' W))
        go_wp2_with (go_at_call 102; with_reducible refine hpath.out.mono ?_)
        rintro r w10 ⟨hB10, hres⟩
        have hz10 := hB10.size
        have hBw10 : Below wr.heap.size wr w10 := hBw9.trans (hB10.mono (by omega))
        rcases hres with ⟨rfl, hno⟩ | ⟨v, l, F, rfl, hne, hs, hF, hll, hway⟩
        · have HNO := Lib.hid hno
          clear hno
          go_wp2
          refine ⟨⟨i + 1, by omega, by simp, Lib.hid (fun j hj e' he' hm' => ?_), hB.trans (hBw10.mono (by omega))⟩, by simp [intOf]; omega⟩
          by_cases hji : j = i
          · subst hji
            rw [HE.out] at he'; cases he'
            exact HNO.out
          · exact HI.out j (by omega) e' he' hm'
        · obtain ⟨-, hs0 | ⟨g, off, cap, cur, hv0, hFg, hcur, hcp, hcm, hsz, htk⟩⟩ := id hs
          · exact absurd (List.eq_nil_of_length_eq_zero hs0.2) hne
          subst hv0
          obtain ⟨i0, z0, j0, j1, j2, j3, j4⟩ := info_edge
          have g0 := (World.cell?_of_block (a := ⟨wr.heap.size, 0, none⟩) (hB10.block wr.heap.size (by omega))).trans f0
          have g1 := (World.cell?_of_block (a := ⟨wr.heap.size, 1, none⟩) (hB10.block wr.heap.size (by omega))).trans f1
          have g2 := (World.cell?_of_block (a := ⟨wr.heap.size, 2, none⟩) (hB10.block wr.heap.size (by omega))).trans f2
          have g3 := (World.cell?_of_block (a := ⟨wr.heap.size, 3, none⟩) (hB10.block wr.heap.size (by omega))).trans f3
          have hcyc : Cyc es es2 m1 m2 := ⟨e, List.mem_of_getElem? HE.out, HME.out, hway⟩
          have HCY := Lib.hid hcyc
          have hone : ∀ u ∈ l.flatMap edgeC, u.oneCell' = true := by
            intro u hu
            obtain ⟨x, _, hx⟩ := List.mem_flatMap.1 hu
            simp [edgeC] at hx
            rcases hx with rfl | rfl | rfl | rfl <;> rfl
          have hnew : Sl (w10.alloc (.cells #[.int .i64 e.frm, .int .i64 e.to, .int .i64 e.kind, .string e.key] 66)) 66 4 (.slice (some ⟨w10.heap.size, 0, none⟩) 1 1) 1 [.int .i64 e.frm, .int .i64 e.to, .int .i64 e.kind, .string e.key] (fun j => w10.heap.size ≤ j) :=
            Sl.of_block (cur := #[.int .i64 e.frm, .int .i64 e.to, .int .i64 e.kind, .string e.key]) (heap_alloc_new _ _) (Nat.le_refl _) rfl (by simp only [maxLen]; omega)
          have hrd := (hs.keep (w' := w10.alloc (.cells #[.int .i64 e.frm, .int .i64 e.to, .int .i64 e.kind, .string e.key] 66)) (fun j hj _ => heap_alloc_lt hj)).cells
          have HNE := Lib.hid (And.intro hnew (And.intro hrd hone))
          have hmx : 1 + l.length ≤ 9223372036854775807 := by omega
          have hby : (1 + l.length) * 40 ≤ 140737488355328 := by omega
          clear hcyc hway hne hcur htk hs hone hnew hrd
          go_wp2_with (
            refine wpList_append_sl _ rfl (.tmp 35) (.tmp 36) 61 rfl 66 i0 z0 4 40 Tryz.underlying61 j0 j1 j2 j3 j4 (by omega) _ 1 _ _ rfl HNE.out.1 _ _ l.length cap (l.flatMap edgeC) rfl HNE.out.2.1 HNE.out.2.2 (by simp only [maxLen]; omega) hby ?_
            intro v4 w4 F4 hs4 hc4 hf4 hnz4
            have HN4 := Lib.hid hnz4
            clear hnz4)
          go_ret
          refine ⟨(hB.trans (hBw10.mono (by omega))).trans (((bel1 w10 _).mono (by omega)).trans (hc4.below (fun j hj => by omega) (by simp; omega))), .inr ?_⟩
          rcases hs4.2 with ⟨h1, h2⟩ | ⟨g', off', cap', cur', h1, _⟩
          · exact absurd h1 (HN4.out (by omega))
          · subst h1
            exact ⟨_, _, _, rfl, HCY.out⟩
    · obtain rfl : i = es.length := by omega
      go_wp2
      go_ret
      refine ⟨hB, .inl ⟨rfl, fun ⟨e, he, h1, h2⟩ => ?_⟩⟩
      obtain ⟨j, hj⟩ := List.mem_iff_getElem?.1 he
      exact HI.out j (List.getElem?_eq_some_iff.1 hj).1 e hj h1 h2
end Go.Proofs.YtooigfkjdemnlaaGreatDoor
