/- Own texts of this claim, joined in build order: J3, J4, J5, J6, J7, J8. -/
import Derived.Test.YtooigfkjdemnlaaGreatM41
import Derived.Test.YtooigfkjdemnlaaGreatM42
import Derived.Laws.MakeOwn
set_option linter.all false
namespace Go.Proofs.YtooigfkjdemnlaaGreat
set_option maxRecDepth 100000
open Go.RowKit Go.Lib Go.Sort Go.Shelf Xw

/-- Works answers yes. -/
def Works : Prop := ∀ w : World, Calls Tryz.prog 4 #[] w fun e w' => e = .returned (.bool true) ∧ Below w.heap.size w w'
set_option maxHeartbeats 4000000 in
theorem lawA_ {w : World} {B : Nat} {h : List HTx} {tv : Value} (hw : Works) (hh : HistV w B tv h) (hB : B ≤ w.heap.size) (hops : ∀ x ∈ h, x.ops.length ≤ 1048576) (hf : histFault h ≠ none) :
    Calls Tryz.prog 3 #[.agg #[tv]] w fun e w' => e = .returned (.bool true) ∧ Below w.heap.size w w' := by
  obtain ⟨A, c, rfl, hn0, hm0⟩ := Rows.shape hh
  obtain ⟨W1, hW1⟩ : ∃ W1, W1 = w.alloc (.cells #[.slice A h.length c] 24) := ⟨_, rfl⟩
  have hz1 : W1.heap.size = w.heap.size + 1 := by rw [hW1]; simp
  have hB1 : Below w.heap.size w W1 := by rw [hW1]; exact bel1 _ _
  have hob : W1.heap[w.heap.size]? = some (.cells #[.slice A h.length c] 24) := by rw [hW1]; exact heap_alloc_new _ _
  have hbx : ∀ W, Below W1.heap.size W1 W → W.cell? ⟨w.heap.size, 0, none⟩ = some (.slice A h.length c) ∧ w.heap.size < W.heap.size := fun W hb =>
    ⟨(World.cell?_of_block (a := ⟨w.heap.size, 0, none⟩) (hb.block w.heap.size (by omega))).trans ((cells_of (cs := [.slice A h.length c]) hob).1 0), by have := hb.size; omega⟩
  have hk : ∀ W, Below W1.heap.size W1 W → HistV W B (.slice A h.length c) h ∧ B ≤ W.heap.size := fun W hb => ⟨hh.keep (fun j hj => (hb.block j (by omega)).trans (hB1.block j (by omega))), by have := hb.size; omega⟩
  have HK := Lib.hid hk
  have HBX := Lib.hid hbx
  have HW1 := Lib.hid hW1
  have HWK := Lib.hid hw
  have HZ := Lib.hid hz1
  have HBW := Lib.hid hB1
  clear hk hbx hW1 hw hob hB1 hh hz1
  obtain ⟨E, hE⟩ : ∃ E, E = errOf (histFault h) := ⟨_, rfl⟩
  obtain ⟨T, hT⟩ : ∃ T, T = txnOf (histFault h) := ⟨_, rfl⟩
  obtain ⟨O, hO⟩ : ∃ O, O = opOf (histFault h) := ⟨_, rfl⟩
  have hE0 : (E != 0) = true := by rw [hE]; simpa using errOf_hist hf
  have hEE : (E == E) = true := by simp
  have HE := Lib.hid hE
  clear hE
  go_enter Tryz.func3, Tryz.ntmps3
  go_wp2_with (first
    | (go_at_call 4; rw [← HW1.out]; refine (HWK.out _).mono ?_
       rintro e w1 ⟨rfl, hB1⟩
       obtain ⟨o1, p1⟩ := HBX.out w1 hB1
       have HB1 := Lib.hid hB1
       clear hB1)
    | (go_at_call 5; refine (checkC_ (HK.out w1 HB1.out).1 (HK.out w1 HB1.out).2 hops).mono ?_
       rintro e w2 ⟨rfl, hB2⟩
       rw [← hT, ← hO, ← HE.out]
       have HB2 := Lib.hid (HB1.out.trans (hB2.mono HB1.out.size))
       obtain ⟨o2, p2⟩ := HBX.out w2 HB2.out
       clear hB2)
    | (go_at_call 6; refine (serial_ (HK.out w2 HB2.out).1 (HK.out w2 HB2.out).2 hops).mono ?_
       rintro e w3 ⟨hB3, sv, sn, rfl, hs⟩
       obtain rfl : sn = E := by
         rcases hs with ⟨_, h2⟩ | ⟨h1, _⟩ | ⟨h1, _⟩
         · rw [h2, HE.out]
         · exact absurd h1 hf
         · exact absurd h1 hf
       have HB3 := Lib.hid (HB2.out.trans (hB3.mono HB2.out.size))
       obtain ⟨o3, p3⟩ := HBX.out w3 HB3.out
       clear hB3 hs)
    | (go_at_call 7; refine (phenomena_ (HK.out w3 HB3.out).1 (HK.out w3 HB3.out).2 hops).mono ?_
       rintro e w4 ⟨hB4, pv, rfl, _⟩
       rw [← HE.out])
    | (go_at_call 8; refine (num_ _ _).mono ?_; rintro e w5 ⟨rfl, rfl⟩))
  go_ret
  exact ⟨rfl, HBW.out.trans ((HB3.out.trans (hB4.mono HB3.out.size)).mono HBW.out.size)⟩
end Go.Proofs.YtooigfkjdemnlaaGreat

namespace Go.Proofs.YtooigfkjdemnlaaGreat
set_option maxRecDepth 100000
open Go.RowKit Go.Lib Go.Sort Go.Shelf Xw

theorem int_info2 : (Tryz.prog.info? 3).map (fun i => (i.zero.map (·.cells), i.size, i.bytes)) = some (some #[.int .i64 0], 1, 8) := by kernel_rfl
theorem ints_under : Tryz.prog.underlying 29 = some (.slice 3) := by kernel_rfl
theorem made_ints (n : Nat) : madeCells #[Value.int .i64 0] n = ((List.replicate n (Value.int .i64 0)).toArray) := by
  unfold madeCells
  apply Array.ext
  · simp
  · intro i h1 h2
    simp [Nat.mod_one]
theorem make_ints (n : Nat) (hn : n ≤ 1048576) (w : World) : (Instr.makeSlice 29 (.int .i64 (n : Int)) (.int .i64 (n : Int))).run Tryz.prog w = .ok (.slice (some ⟨w.heap.size, 0, none⟩) n n) (w.alloc (.cells ((List.replicate n (Value.int .i64 0)).toArray) 3)) := by
  have hi := int_info2
  cases hii : Tryz.prog.info? 3 with
  | none => rw [hii] at hi; cases hi
  | some i =>
    rw [hii] at hi
    simp only [Option.map_some, Option.some.injEq, Prod.mk.injEq] at hi
    obtain ⟨h1, h2, h3⟩ := hi
    cases hz : i.zero with
    | none => rw [hz] at h1; cases h1
    | some z =>
      rw [hz] at h1
      simp only [Option.map_some, Option.some.injEq] at h1
      have hr := run_make w 29 3 i z ints_under hii hz .i64 .i64 n n (by omega) (by omega) (by rw [h3]; omega) (by omega)
      rw [h1, h2, Int.toNat_natCast, Nat.mul_one, made_ints] at hr
      exact hr
/-- The table of places behind n steps. -/
def tab (l : List Nat) (m n : Nat) : List Int := (List.range m).map (placeN l n)
theorem tab_len (l : List Nat) (m n : Nat) : (tab l m n).length = m := by simp [tab]
theorem tab_get (l : List Nat) (m n : Nat) {t : Nat} (ht : t < m) : (tab l m n)[t]? = some (placeN l n t) := by simp [tab, ht]
theorem tab_set {l : List Nat} (hl : l.Nodup) {m n t : Nat} (ht : l[n]? = some t) : (tab l m n).set t (n : Int) = tab l m (n + 1) := by
  apply List.ext_getElem?
  intro i
  by_cases hi : i < m
  · rw [tab_get _ _ _ hi, placeN_succ hl ht]
    by_cases hit : i = t
    · subst hit
      rw [List.getElem?_set_self (by rw [tab_len]; exact hi), if_pos rfl]
    · rw [List.getElem?_set_ne (by omega), tab_get _ _ _ hi, if_neg hit]
  · rw [List.getElem?_eq_none (by rw [List.length_set, tab_len]; omega), List.getElem?_eq_none (by rw [tab_len]; omega)]
theorem flat_int (l : List Int) : l.flatMap intC = l.map (fun x => Value.int .i64 x) := by
  induction l with
  | nil => rfl
  | cons x r ih => simp [List.flatMap_cons, ih, intC]
theorem tab_zero (l : List Nat) (m : Nat) : (tab l m 0).flatMap intC = List.replicate m (.int .i64 0) := by
  rw [flat_int, tab, List.map_map]
  apply List.ext_getElem?
  intro i
  by_cases hi : i < m
  · simp [hi, placeN]
  · simp [hi]
theorem tab_step {l : List Nat} (hl : l.Nodup) {m n t : Nat} (ht : l[n]? = some t) : ((tab l m n).flatMap intC).set t (.int .i64 (n : Int)) = (tab l m (n + 1)).flatMap intC := by
  rw [← tab_set hl ht, flat_int, flat_int, List.map_set]
theorem tab_new (l : List Nat) (m : Nat) (hm : m ≤ 1048576) (w : World) : Sl (w.alloc (.cells ((List.replicate m (Value.int .i64 0)).toArray) 3)) 3 1 (.slice (some ⟨w.heap.size, 0, none⟩) m m) m ((tab l m 0).flatMap intC) (fun j => j = w.heap.size) := by
  rw [tab_zero]
  have := Sl.of_block (w := w.alloc (.cells ((List.replicate m (Value.int .i64 0)).toArray) 3)) (e := 3) (size := 1) (n := m) (F := fun j => j = w.heap.size) (heap_alloc_new _ _) rfl (by simp) (by simp only [maxLen]; omega)
  simpa using this
end Go.Proofs.YtooigfkjdemnlaaGreat

namespace Go.Proofs.YtooigfkjdemnlaaGreat
set_option maxRecDepth 100000
open Go.RowKit Go.Lib Go.Sort Go.Shelf Xw

set_option maxHeartbeats 16000000 in
theorem lawB_ {w : World} {B : Nat} {h : List HTx} {tv : Value} (hw : Works) (hh : HistV w B tv h) (hB : B ≤ w.heap.size) (hops : ∀ x ∈ h, x.ops.length ≤ 1048576) (hf : histFault h = none) :
    Calls Tryz.prog 3 #[.agg #[tv]] w fun e w' => e = .returned (.bool true) ∧ Below w.heap.size w w' := by
  obtain ⟨A, c, rfl, hn0, hm0⟩ := Rows.shape hh
  obtain ⟨W1, hW1⟩ : ∃ W1, W1 = w.alloc (.cells #[.slice A h.length c] 24) := ⟨_, rfl⟩
  have hz1 : W1.heap.size = w.heap.size + 1 := by rw [hW1]; simp
  have hB1 : Below w.heap.size w W1 := by rw [hW1]; exact bel1 _ _
  have hob : W1.heap[w.heap.size]? = some (.cells #[.slice A h.length c] 24) := by rw [hW1]; exact heap_alloc_new _ _
  have hbx : ∀ W, Below W1.heap.size W1 W → W.cell? ⟨w.heap.size, 0, none⟩ = some (.slice A h.length c) ∧ w.heap.size < W.heap.size := fun W hb =>
    ⟨(World.cell?_of_block (a := ⟨w.heap.size, 0, none⟩) (hb.block w.heap.size (by omega))).trans ((cells_of (cs := [.slice A h.length c]) hob).1 0), by have := hb.size; omega⟩
  have hk : ∀ W, Below W1.heap.size W1 W → HistV W B (.slice A h.length c) h ∧ B ≤ W.heap.size := fun W hb => ⟨hh.keep (fun j hj => (hb.block j (by omega)).trans (hB1.block j (by omega))), by have := hb.size; omega⟩
  have HK := Lib.hid hk
  have HBX := Lib.hid hbx
  have HW1 := Lib.hid hW1
  have HWK := Lib.hid hw
  have HZ := Lib.hid hz1
  have HBW := Lib.hid hB1
  clear hk hbx hW1 hw hob hB1 hh hz1
  have FF := Lib.hid (fine_of hf)
  have e0 : errOf none = 0 := rfl
  have e1 : txnOf none = 0 := rfl
  have e2 : opOf none = 0 := rfl
  go_enter Tryz.func3, Tryz.ntmps3
  go_upto_region 11 with (first
    | (go_at_call 4; rw [← HW1.out]; refine (HWK.out _).mono ?_
       rintro e w1 ⟨rfl, hB1⟩
       obtain ⟨o1, p1⟩ := HBX.out w1 hB1
       have HB1 := Lib.hid hB1
       clear hB1)
    | (go_at_call 5; refine (checkC_ (HK.out w1 HB1.out).1 (HK.out w1 HB1.out).2 hops).mono ?_
       rintro e w2 ⟨rfl, hB2⟩
       rw [hf, e0, e1, e2]
       have HB2 := Lib.hid (HB1.out.trans (hB2.mono HB1.out.size))
       obtain ⟨o2, p2⟩ := HBX.out w2 HB2.out
       clear hB2)
    | (go_at_call 6; refine (serial_ (HK.out w2 HB2.out).1 (HK.out w2 HB2.out).2 hops).mono ?_
       rintro e w3 ⟨hB3, sv, sn, rfl, hs⟩
       have HS := Lib.hid hs
       have HB3 := Lib.hid (HB2.out.trans (hB3.mono HB2.out.size))
       obtain ⟨o3, p3⟩ := HBX.out w3 HB3.out
       clear hB3 hs)
    | (go_at_call 7; refine (phenomena_ (HK.out w3 HB3.out).1 (HK.out w3 HB3.out).2 hops).mono ?_
       rintro e w4 ⟨hB4, pv, rfl, hp⟩
       rw [hf, e0]
       obtain ⟨ps, hp1, hp2⟩ := hp hf
       have HP := Lib.hid (And.intro hp1 hp2)
       have HC4 := Lib.hid hB4
       have HB4 := Lib.hid (HB3.out.trans (hB4.mono HB3.out.size))
       obtain ⟨o4, p4⟩ := HBX.out w4 HB4.out
       clear hB4 hp hp1 hp2)
    | (go_at_call 9; refine (edges_ (HK.out w4 HB4.out).1 (HK.out w4 HB4.out).2 hops).mono ?_
       rintro e w5 ⟨hB5, ev, rfl, he⟩
       rw [hf, e0]
       obtain ⟨EA, ec, rfl, he1, he2⟩ := (he hf).1.shape
       have HE := Lib.hid (he hf)
       have HC5 := Lib.hid hB5
       have HB5 := Lib.hid (HB4.out.trans (hB5.mono HB4.out.size))
       obtain ⟨o5, p5⟩ := HBX.out w5 HB5.out
       clear hB5 he)
    | (go_at_call 8; refine (num_ _ _).mono ?_; rintro e w6 ⟨rfl, rfl⟩))
  clear o1 o2 o3 o4 p1 p2 p3 p4
  simp only [maxLen] at he2
  have hk2 := Lib.hid (HK.out w5 HB5.out)
  rcases HS.out with ⟨hs1, _⟩ | ⟨_, rfl, e0', hs1, hs2⟩ | ⟨_, rfl, l, hs1, hs2⟩
  · exact absurd hf hs1
  · have HS1 := Lib.hid hs1
    have HS2 := Lib.hid hs2
    clear hs1 hs2
    go_wp2_with (go_at_call 8; refine (num_ _ _).mono ?_; rintro e w6 ⟨rfl, rfl⟩)
    go_loopw [12] (fun i' wr => ∃ i : Nat, i ≤ (edgesOf h).length ∧ i' = .int .i64 i ∧ Hid (∀ e ∈ (edgesOf h).take i, ¬ e.to < e.frm) ∧ Below w5.heap.size w5 wr) (fun i' _ => (edgesOf h).length - (intOf i').toNat)
    case atStart => exact ⟨0, by omega, rfl, Lib.hid (by simp), Below.refl _ _⟩
    case round =>
      obtain ⟨i, hil, rfl, HN, hBr⟩ := hrel
      by_cases hlt : i < (edgesOf h).length
      · obtain ⟨x, hx⟩ : ∃ x, (edgesOf h)[i]? = some x := ⟨_, List.getElem?_eq_getElem hlt⟩
        obtain ⟨b, o, c2, hq, hb, q0, q1, q2, q3⟩ := HE.out.1.get4 hx (wr := wr) (fun j hj => hBr.block j hj) rfl
        cases hq
        have hbr : b < wr.heap.size := by have := hBr.size; omega
        have HBR := Lib.hid hBr
        clear hBr
        have hii : (i : Int) < (edgesOf h).length := by omega
        have HX := Lib.hid hx
        clear hx q2 q3
        by_cases h1 : x.to < x.frm
        · go_wp2_with (with_reducible refine wp_region_free (by kernel_rfl) (fun _ _ => ?_))
          go_ret
          exact ⟨rfl, HBW.out.trans ((HB5.out.trans (HBR.out.drew.mono HB5.out.size)).mono HBW.out.size)⟩
        · have hnx : ∀ y ∈ (edgesOf h).take (i + 1), ¬ y.to < y.frm := by
            intro y hy
            rw [List.take_add_one, HX.out] at hy
            rcases List.mem_append.1 hy with hy | hy
            · exact HN.out y hy
            · simp only [Option.toList_some, List.mem_singleton] at hy
              subst hy; exact h1
          have HNX := Lib.hid hnx
          clear hnx
          have h1' : ¬ x.frm > x.to := h1
          go_wp2_with (with_reducible refine wp_region_free (by kernel_rfl) (fun _ _ => ?_))
          exact ⟨⟨i + 1, by omega, by simp, HNX, HBR.out.drew⟩, by simp [intOf]; omega⟩
      · exfalso
        obtain rfl : i = (edgesOf h).length := by omega
        have := HN.out
        rw [List.take_length] at this
        exact this e0' HS1.out HS2.out
  · obtain ⟨SA, sc, rfl, hsc1, hsc2⟩ := hs2.1.shape
    obtain ⟨ord, hord⟩ : ∃ ord : List Int, ord = l.map fun (t : Nat) => (t : Int) := ⟨_, rfl⟩
    rw [← hord] at hs2 hsc1 ⊢
    have hol : ord.length = l.length := by rw [hord, List.length_map]
    have hget : ∀ (i : Nat) (x : Int), ord[i]? = some x → ∃ t : Nat, x = t ∧ l[i]? = some t := fun i x hx => by
      rw [hord, List.getElem?_map] at hx
      obtain ⟨t, ht, rfl⟩ := Option.map_eq_some_iff.1 hx
      exact ⟨t, rfl, ht⟩
    simp only [maxLen] at hsc2
    have hn1 : h.length ≤ 1048576 := by have := FF.out.lim.n; omega
    obtain ⟨mk, hmk⟩ : ∃ mk : World → World, mk = fun W => W.alloc (.cells ((List.replicate h.length (Value.int .i64 0)).toArray) 3) := ⟨_, rfl⟩
    obtain ⟨o6, ho6⟩ : ∃ o : Nat, o = 0 := ⟨0, rfl⟩
    have hms : ∀ W, (Instr.makeSlice 29 (.int .i64 (h.length : Int)) (.int .i64 (h.length : Int))).run Tryz.prog W = .ok (.slice (some ⟨W.heap.size, o6, none⟩) h.length h.length) (mk W) := fun W => by rw [hmk, ho6]; exact make_ints _ hn1 W
    have hT0 : Sl (mk w5) 3 1 (.slice (some ⟨w5.heap.size, o6, none⟩) h.length h.length) h.length ((tab l h.length 0).flatMap intC) (fun j => j = w5.heap.size) := by rw [hmk, ho6]; exact tab_new l _ hn1 w5
    have hz6 : (mk w5).heap.size = w5.heap.size + 1 := by rw [hmk]; simp
    have hB6 : Below w5.heap.size w5 (mk w5) := by rw [hmk]; exact bel1 _ _
    have hrs : ∀ W, Below w5.heap.size w5 W → Rows W w5.heap.size 1 (Flat intC) (.slice SA ord.length sc) ord := fun W hb => by
      have h45 := HC5.out.size
      have h34 := HC4.out.size
      exact (hs2.1.flat (fun j hj => (hb.block j (by omega)).trans ((HC5.out.block j (by omega)).trans (HC4.out.block j hj)))).flatMore (by omega)
    have hrp : ∀ W, Below w5.heap.size w5 W → Rows W w5.heap.size 1 (Flat intC) pv ps := fun W hb => by
      have h45 := HC5.out.size
      exact (HP.out.2.1.flat (fun j hj => (hb.block j (by omega)).trans (HC5.out.block j hj))).flatMore (by omega)
    have HRS := Lib.hid hrs
    have HRP := Lib.hid hrp
    have HORD := Lib.hid hord
    have HOL := Lib.hid hol
    have HGET := Lib.hid hget
    have HT0 := Lib.hid hT0
    have HZ6 := Lib.hid hz6
    have HB6 := Lib.hid hB6
    have HS1 := Lib.hid hs1
    clear hrs hrp hord hol hget hmk ho6 hT0 hz6 hB6 hs1 hs2
    go_wp2_with (go_at_call 8; refine (num_ _ _).mono ?_; rintro e w6 ⟨rfl, rfl⟩)
    go_loopw [14] (fun i' wr => ∃ i : Nat, i ≤ ord.length ∧ i' = .int .i64 i ∧ Hid (Sl wr 3 1 (.slice (some ⟨w5.heap.size, o6, none⟩) h.length h.length) h.length ((tab l h.length i).flatMap intC) (fun j => j = w5.heap.size)) ∧ Chg (fun j => j = w5.heap.size) (mk w5) wr) (fun i' _ => ord.length - (intOf i').toNat)
    case atStart => exact ⟨0, by omega, rfl, HT0, Chg.refl _ _⟩
    case round =>
      obtain ⟨i, hil, rfl, HS6, hCr⟩ := hrel
      have hz6 := HZ6.out
      have hcz := hCr.size
      have hbw : Below w5.heap.size w5 wr := HB6.out.trans (hCr.below (fun j hj => by omega) (by omega))
      by_cases hlt : i < ord.length
      · obtain ⟨x, hx⟩ : ∃ x, ord[i]? = some x := ⟨_, List.getElem?_eq_getElem hlt⟩
        obtain ⟨t, rfl, ht⟩ := HGET.out i x hx
        obtain ⟨b, o, c2, hq, hb, q0⟩ := (HRS.out wr hbw).get1 hx (wr := wr) (fun _ _ => rfl) rfl
        cases hq
        have hbr : b < wr.heap.size := by omega
        have hgr : w5.heap.size < wr.heap.size := by omega
        have hii : (i : Int) < ord.length := by omega
        have htn := HS1.out.inH ht
        have htl : (t : Int) < h.length := by omega
        have ht0 : ¬ (t : Int) < 0 := by omega
        have htg : ¬ (h.length : Int) ≤ t := by omega
        have hlen := tab_len l h.length i
        have hic := int_cell (w := wr) (W := wr) (l := tab l h.length i) (F := fun j => j = w5.heap.size) (cap := h.length) (g := w5.heap.size) (off := o6) (by rw [hlen]; exact HS6.out) rfl (tab_get l _ i htn)
        obtain ⟨p0, p1⟩ := hic
        have HX := Lib.hid (And.intro hx ht)
        have HCR := Lib.hid hCr
        clear hx ht hCr hbw hlen hcz hz6
        go_wp2
        obtain ⟨s1, s2⟩ := Sl.set1 HS6.out t (by omega) (.int .i64 i)
        rw [tab_step HS1.out.nd HX.out.2] at s1
        exact ⟨⟨i + 1, by omega, by simp, Lib.hid s1, HCR.out.trans s2 (fun j _ h => h)⟩, by simp [intOf]; omega⟩
      · obtain rfl : i = ord.length := by omega
        have hii : ¬ (ord.length : Int) < ord.length := by omega
        have HCR := Lib.hid hbw
        have HSZ := Lib.hid (show w5.heap.size < wr.heap.size by omega)
        clear hCr hbw hcz hz6
        obtain ⟨wo, hwo⟩ : ∃ wo : World, wo = wr := ⟨_, rfl⟩
        subst hwo
        have HTB : Hid (Sl wo 3 1 (.slice (some ⟨w5.heap.size, o6, none⟩) h.length h.length) h.length ((tab l h.length l.length).flatMap intC) (fun j => j = w5.heap.size)) := by rw [← HOL.out]; exact HS6
        go_wp2
        go_loopw [15] (fun i' wr => ∃ i : Nat, i ≤ (edgesOf h).length ∧ i' = .int .i64 i ∧ Below wo.heap.size wo wr) (fun i' _ => (edgesOf h).length - (intOf i').toNat)
        case atStart => exact ⟨0, by omega, rfl, Below.refl _ _⟩
        case round =>
          obtain ⟨i, hil, rfl, hBr⟩ := hrel
          have hsz := HSZ.out
          have hzr := hBr.size
          have hcw : Below w5.heap.size w5 wr := HCR.out.trans (hBr.mono (by omega))
          by_cases hlt : i < (edgesOf h).length
          · obtain ⟨x, hx⟩ : ∃ x, (edgesOf h)[i]? = some x := ⟨_, List.getElem?_eq_getElem hlt⟩
            obtain ⟨a, d, ha, hd, hal, hdl, hlt2⟩ := HS1.out.edge (List.mem_of_getElem? hx)
            obtain ⟨f, t, kd, ky⟩ := x
            simp only at ha hd
            subst ha hd
            obtain ⟨b, o, c2, hq, hb, q0, q1, q2, q3⟩ := HE.out.1.get4 hx (wr := wr) (fun j hj => hcw.block j hj) rfl
            cases hq
            have hbr : b < wr.heap.size := by omega
            have hgr : w5.heap.size < wr.heap.size := by omega
            have hii : (i : Int) < (edgesOf h).length := by omega
            have hal' : (a : Int) < h.length := by omega
            have hdl' : (d : Int) < h.length := by omega
            have hlen := tab_len l h.length l.length
            have key : ∀ t, t < h.length → wr.cell? ⟨w5.heap.size, o6 + t, none⟩ = some (.int .i64 (placeN l l.length t)) := fun t ht =>
              (int_cell (w := wo) (W := wr) (l := tab l h.length l.length) (F := fun j => j = w5.heap.size) (cap := h.length) (g := w5.heap.size) (off := o6) (by rw [hlen]; exact HTB.out) (hBr.block _ hsz) (tab_get l _ _ ht)).1
            have pa := key a hal
            have pd := key d hdl
            have hnge : ¬ placeN l l.length d ≤ placeN l l.length a := by omega
            obtain ⟨va, hva⟩ : ∃ v, v = placeN l l.length a := ⟨_, rfl⟩
            obtain ⟨vd, hvd⟩ : ∃ v, v = placeN l l.length d := ⟨_, rfl⟩
            rw [← hva] at pa hnge
            rw [← hvd] at pd hnge
            have HBR := Lib.hid hBr
            clear hx hlen key hBr hcw q2 q3 hva hvd hlt2 hzr hsz
            go_wp2_with (with_reducible refine wp_region_free (by kernel_rfl) (fun _ _ => ?_))
            exact ⟨⟨i + 1, by omega, by simp, HBR.out.drew⟩, by simp [intOf]; omega⟩
          · obtain rfl : i = (edgesOf h).length := by omega
            have hii : ¬ ((edgesOf h).length : Int) < (edgesOf h).length := by omega
            obtain ⟨w7, hw7⟩ : ∃ w7 : World, w7 = wr := ⟨_, rfl⟩
            subst hw7
            have HC7 := Lib.hid hcw
            have HLE7 := Lib.hid hcw.size
            have HSZ7 := HLE7
            have HRS7 := HRS.out w7 hcw
            have HK7 := (hk2.out.1.keep (fun j hj => hcw.block j (Nat.lt_of_lt_of_le hj hk2.out.2))).more hk2.out.2
            have o7 := (World.cell?_of_block (a := ⟨w.heap.size, 0, none⟩) (hcw.block w.heap.size (by omega))).trans o5
            have p7 : w.heap.size < w7.heap.size := by omega
            have HRS7 := Lib.hid HRS7
            have HK7 := Lib.hid HK7
            have HSH4 := Lib.hid (shown_ (HRP.out _ HC7.out) HLE7.out 4 4)
            have HSH7 := Lib.hid (shown_ (HRP.out _ HC7.out) HLE7.out 7 8)
            have HREP := Lib.hid (replay_ HK7.out HSZ7.out HRS7.out hops)
            clear hBr hcw hsz hzr
            rcases Classical.em (ReplayOK h l) with hr | hr
            · have HR := Lib.hid hr
              clear hr
              go_wp2_with (first
              | (go_at_call 10; with_reducible refine HSH4.out.mono ?_
                 rintro e w8 ⟨rfl, b, rfl, hb⟩
                 obtain rfl : b = false := by
                   cases b
                   · rfl
                   · exact absurd (hb.1 rfl) (HS1.out.not4 HP.out.1))
              | (go_at_call 10; with_reducible refine HSH7.out.mono ?_
                 rintro e w8 ⟨rfl, b, rfl, hb⟩
                 obtain rfl : b = false := by
                   cases b
                   · rfl
                   · exact absurd (hb.1 rfl) (HS1.out.not78 HP.out.1))
              | (go_at_call 11; with_reducible refine HREP.out.mono ?_
                 rintro e w8 ⟨hB8, b, n, rfl, hr⟩
                 obtain ⟨rfl, hb⟩ : n = 0 ∧ (b = true ↔ ReplayOK h l) := by
                   rcases hr with ⟨h1, _⟩ | ⟨_, _, h1⟩ | ⟨_, h1, l', h2, h3⟩
                   · exact absurd hf h1
                   · exact absurd ⟨l, HORD.out ▸ HS1.out.ord⟩ h1
                   · refine ⟨h1, ?_⟩
                     rw [HORD.out] at h2
                     rw [← h2.uniq HS1.out.ord]
                     exact h3
                 obtain rfl : b = true := hb.2 HR.out
                 have HC8 := Lib.hid (HC7.out.trans (hB8.mono HC7.out.size))
                 have HLE8 := Lib.hid (Nat.le_trans HLE7.out hB8.size)
                 clear hB8 hr hb)
              | (go_at_call 8; refine (num_ _ _).mono ?_; rintro e w6 ⟨rfl, rfl⟩))
              go_ret
              exact ⟨rfl, HBW.out.trans ((HB5.out.trans (HC8.out.mono HB5.out.size)).mono HBW.out.size)⟩
            · have HR := Lib.hid hr
              clear hr
              go_wp2_with (first
              | (go_at_call 10; with_reducible refine HSH4.out.mono ?_
                 rintro e w8 ⟨rfl, b, rfl, hb⟩
                 obtain rfl : b = false := by
                   cases b
                   · rfl
                   · exact absurd (hb.1 rfl) (HS1.out.not4 HP.out.1))
              | (go_at_call 10; with_reducible refine HSH7.out.mono ?_
                 rintro e w8 ⟨rfl, b, rfl, hb⟩
                 obtain rfl : b = false := by
                   cases b
                   · rfl
                   · exact absurd (hb.1 rfl) (HS1.out.not78 HP.out.1))
              | (go_at_call 11; with_reducible refine HREP.out.mono ?_
                 rintro e w8 ⟨hB8, b, n, rfl, hr⟩
                 obtain ⟨rfl, hb⟩ : n = 0 ∧ (b = true ↔ ReplayOK h l) := by
                   rcases hr with ⟨h1, _⟩ | ⟨_, _, h1⟩ | ⟨_, h1, l', h2, h3⟩
                   · exact absurd hf h1
                   · exact absurd ⟨l, HORD.out ▸ HS1.out.ord⟩ h1
                   · refine ⟨h1, ?_⟩
                     rw [HORD.out] at h2
                     rw [← h2.uniq HS1.out.ord]
                     exact h3
                 obtain rfl : b = false := by
                   cases b
                   · rfl
                   · exact absurd (hb.1 rfl) HR.out
                 have HC8 := Lib.hid (HC7.out.trans (hB8.mono HC7.out.size))
                 have HLE8 := Lib.hid (Nat.le_trans HLE7.out hB8.size)
                 clear hB8 hr hb)
              | (go_at_call 8; refine (num_ _ _).mono ?_; rintro e w6 ⟨rfl, rfl⟩)
              | (go_at_call 10; with_reducible refine (shown_ (HRP.out _ HC8.out) HLE8.out 2 3).mono ?_
                 rintro e w9 ⟨rfl, b, rfl, hb⟩
                 obtain rfl : b = true := by
                   cases b
                   · have hn : ¬ ∃ x ∈ ps, (2 : Int) ≤ x ∧ x ≤ 3 := fun hx => by cases hb.2 hx
                     exact absurd (line_replays FF.out HS1.out (not23 HP.out.1 hn).1 (not23 HP.out.1 hn).2) HR.out
                   · rfl))
              go_ret
              exact ⟨rfl, HBW.out.trans ((HB5.out.trans (HC8.out.mono HB5.out.size)).mono HBW.out.size)⟩
end Go.Proofs.YtooigfkjdemnlaaGreat

namespace Go.Proofs.YtooigfkjdemnlaaGreat
set_option maxRecDepth 100000

def kX : ByteArray := ⟨#[120]⟩
def kV : ByteArray := ⟨#[118]⟩
def kE : ByteArray := ⟨#[]⟩
def hWk : List HTx := [⟨2, 1, 1, 2, 0, 0, 0, 0, [⟨2, ⟨kX, 0, 0⟩, false, kV, kE, [], 0⟩]⟩, ⟨4, 1, 3, 4, 0, 0, 0, 0, [⟨1, ⟨kX, 0, 1⟩, false, kV, kE, [], 3⟩]⟩]
theorem hWk_fault : histFault hWk = none := by kernel_rfl
theorem hWk_edges : edgesOf hWk = [⟨0, 1, 2, kX⟩] := by kernel_rfl
theorem hWk_com (t : Nat) : com hWk t = true ↔ t = 0 ∨ t = 1 := by
  match t with
  | 0 => exact ⟨fun _ => .inl rfl, fun _ => rfl⟩
  | 1 => exact ⟨fun _ => .inr rfl, fun _ => rfl⟩
  | n + 2 => exact ⟨fun h => (by cases h), fun h => by omega⟩
theorem hWk_rise : ¬ ∃ e ∈ edgesOf hWk, e.to < e.frm := by
  rw [hWk_edges]
  rintro ⟨e, he, h⟩
  simp only [List.mem_singleton] at he
  subst he
  exact absurd h (by decide)
theorem hWk_line : Line hWk [0, 1] := ⟨by decide, fun t => by rw [hWk_com]; simp, fun e he => by
  rw [hWk_edges] at he
  simp only [List.mem_singleton] at he
  subst he
  exact ⟨0, 1, 0, 1, by omega, rfl, rfl, rfl, rfl⟩⟩
theorem hWk_uniq {l : List Nat} (L : Line hWk l) : l = [0, 1] := by
  obtain ⟨i, j, a, b, h1, h2, h3, h4, h5⟩ := L.rise ⟨0, 1, 2, kX⟩ (by rw [hWk_edges]; exact List.mem_singleton.2 rfl)
  simp only at h4 h5
  obtain rfl : a = 0 := by omega
  obtain rfl : b = 1 := by omega
  have hp : l.Perm [0, 1] := (List.perm_ext_iff_of_nodup L.nd (by decide)).2 fun t => by rw [L.cm, hWk_com]; simp
  have hl := hp.length_eq
  match l, hl with
  | [x, y], _ =>
    have hi : i < 2 := (List.getElem?_eq_some_iff.1 h2).1
    have hj : j < 2 := (List.getElem?_eq_some_iff.1 h3).1
    obtain rfl : i = 0 := by omega
    obtain rfl : j = 1 := by omega
    simp at h2 h3
    rw [h2, h3]
theorem hWk_told (bad : Nat → HVer → Bool) (hb : bad 1 ⟨kX, 0, 1⟩ = false) : ¬ ToldB hWk bad := by
  rintro ⟨t, x, o, v, h1, h2, h3, h4, h5, h6⟩
  rcases (hWk_com t).1 h2 with rfl | rfl
  · cases h1
    simp only [List.mem_singleton] at h3
    subst h3
    exact absurd h4 (by simp [seenOf])
  · cases h1
    simp only [List.mem_singleton] at h3
    subst h3
    simp [seenOf] at h4
    subst h4
    rw [hb] at h6
    cases h6
theorem hWk_phen {ps : List Int} (P : PhenL hWk 8 ps) : ps = [] := by
  refine List.eq_nil_iff_forall_not_mem.2 fun x hx => ?_
  obtain ⟨q, h1, h2, h3, -⟩ := (P.2 x).1 hx
  have hq : q = 1 ∨ q = 2 ∨ q = 3 ∨ q = 4 ∨ q = 5 ∨ q = 6 ∨ q = 7 ∨ q = 8 := by omega
  rcases hq with rfl | rfl | rfl | rfl | rfl | rfl | rfl | rfl
  · exact hWk_line.no_cycle h3
  · exact hWk_told _ rfl h3
  · exact hWk_told _ (by kernel_rfl) h3
  · exact hWk_line.no_cycle h3
  · obtain ⟨e, he, h⟩ := h3
    rw [hWk_edges] at he
    simp only [List.mem_singleton] at he
    subst he
    exact absurd h (by decide)
  · obtain ⟨e, he, h, _⟩ := h3
    rw [hWk_edges] at he
    simp only [List.mem_singleton] at he
    subst he
    exact absurd h (by decide)
  · exact hWk_line.no_cycle h3
  · exact hWk_line.no_cycle h3
theorem hWk_replay : ReplayOK hWk [0, 1] := line_replays (fine_of hWk_fault) hWk_line (hWk_told _ rfl) (hWk_told _ (by kernel_rfl))
end Go.Proofs.YtooigfkjdemnlaaGreat

namespace Go.Proofs.YtooigfkjdemnlaaGreat
set_option maxRecDepth 100000

def lWk : List Pt := [⟨0, false, 0⟩, ⟨0, true, 0⟩, ⟨1, false, 0⟩, ⟨1, true, 0⟩]
theorem hWk_pts : ptsRaw hWk hWk.length = lWk := by kernel_rfl
theorem hWk_moments {l : List Pt} (M : Moments hWk l) : l = lWk := by
  have hp := M.1
  rw [hWk_pts] at hp
  refine List.Perm.eq_of_pairwise (le := fun a b => ptLt hWk b a = false) (fun x y hx hy h1 h2 => ?_) M.2 (by decide) hp
  have hx' := hp.mem_iff.1 hx
  simp only [lWk, List.mem_cons, List.not_mem_nil, or_false] at hx' hy
  rcases hx' with rfl | rfl | rfl | rfl <;> rcases hy with rfl | rfl | rfl | rfl <;> first | rfl | exact absurd h1 (by decide) | exact absurd h2 (by decide)
theorem hWk_fits : FitsN hWk lWk lWk.length := by
  intro i p hi hp
  have : i < 4 := hi
  match i, this with
  | 0, _ => cases hp; decide
  | 1, _ => cases hp; decide
  | 2, _ => cases hp; decide
  | 3, _ => cases hp; decide
theorem hWk_run : RunOK hWk lWk := by
  intro p q x hq hc hx hiso
  match p with
  | 0 => cases hq; cases hc
  | 2 => cases hq; cases hc
  | 1 =>
    cases hq; cases hx
    refine ⟨fun u hu => ?_, fun i o ho hk => ?_⟩
    · have : sinceF lWk 1 0 = [] := by kernel_rfl
      rw [show ((⟨0, true, 0⟩ : Pt).txn : Int) = 0 from rfl, this] at hu
      cases hu
    · match i with
      | 0 => cases ho; exact absurd rfl hk
      | i + 1 => cases ho
  | 3 =>
    cases hq; cases hx
    refine ⟨fun u hu => ?_, fun i o ho hk => ?_⟩
    · have : sinceF lWk 3 1 = [] := by kernel_rfl
      rw [show ((⟨1, true, 0⟩ : Pt).txn : Int) = 1 from rfl, this] at hu
      cases hu
    · match i with
      | 0 =>
        cases ho
        unfold SameP
        rw [if_pos rfl]
        kernel_rfl
      | i + 1 => cases ho
  | n + 4 => cases hq
end Go.Proofs.YtooigfkjdemnlaaGreat

namespace Go.Proofs.YtooigfkjdemnlaaGreat
set_option maxRecDepth 100000
open Go.RowKit Go.Lib Go.Sort Go.Shelf Xw

def wkOp0 : List Value := [.int .i64 2, .string kX, .int .i64 0, .int .i64 0, .bool false, .string kV, .string kE, .slice none 0 0, .int .u64 0]
def wkOp1 : List Value := [.int .i64 1, .string kX, .int .i64 0, .int .i64 1, .bool false, .string kV, .string kE, .slice none 0 0, .int .u64 3]
def wkTx (b : Nat) : List Value := [.int .i64 2, .int .i64 1, .int .u64 1, .int .u64 2, .int .i64 0, .int .i64 0, .int .i64 0, .int .i64 0, .slice (some ⟨b, 0, none⟩) 1 1, .int .i64 4, .int .i64 1, .int .u64 3, .int .u64 4, .int .i64 0, .int .i64 0, .int .i64 0, .int .i64 0, .slice (some ⟨b + 1, 0, none⟩) 1 1]
theorem lit_cell {w : World} {b : Nat} {cs : List Value} {ty : TypeId} (h : w.heap[b]? = some (.cells cs.toArray ty)) {k : Nat} {u : Value} (hu : cs[k]? = some u) : w.cell? ⟨b, k, none⟩ = some u := by
  rw [(cells_of h).1 k, hu]
theorem wk_hist {W : World} {n : Nat} {t0 t1 t2 : TypeId} (h0 : W.heap[n]? = some (.cells wkOp0.toArray t0)) (h1 : W.heap[n + 1]? = some (.cells wkOp1.toArray t1)) (h2 : W.heap[n + 2]? = some (.cells (wkTx n).toArray t2)) :
    HistV W (n + 3) (.slice (some ⟨n + 2, 0, none⟩) 2 2) hWk := by
  have r0 : Rows W (n + 3) 9 (OpR (n + 3)) (.slice (some ⟨n, 0, none⟩) 1 1) [⟨2, ⟨kX, 0, 0⟩, false, kV, kE, [], 0⟩] := by
    refine .inr ⟨n, 0, 1, rfl, by omega, by simp, by simp only [maxLen]; omega, by simp, fun i x hx => ?_⟩
    match i with
    | 0 => cases hx; exact ⟨wkOp0, rfl, ⟨.slice none 0 0, rfl, Rows.nil 0 (by simp) none⟩, fun j u hu => by simpa using lit_cell h0 hu⟩
    | i + 1 => cases hx
  have r1 : Rows W (n + 3) 9 (OpR (n + 3)) (.slice (some ⟨n + 1, 0, none⟩) 1 1) [⟨1, ⟨kX, 0, 1⟩, false, kV, kE, [], 3⟩] := by
    refine .inr ⟨n + 1, 0, 1, rfl, by omega, by simp, by simp only [maxLen]; omega, by simp, fun i x hx => ?_⟩
    match i with
    | 0 => cases hx; exact ⟨wkOp1, rfl, ⟨.slice none 0 0, rfl, Rows.nil 0 (by simp) none⟩, fun j u hu => by simpa using lit_cell h1 hu⟩
    | i + 1 => cases hx
  refine .inr ⟨n + 2, 0, 2, rfl, by omega, by simp [hWk], by simp only [maxLen]; omega, by simp [hWk], fun i x hx => ?_⟩
  match i with
  | 0 => cases hx; exact ⟨(wkTx n).take 9, rfl, ⟨_, rfl, r0⟩, fun j u hu => by
      have hj : j < 9 := by simpa [wkTx] using (List.getElem?_eq_some_iff.1 hu).1
      rw [List.getElem?_take, if_pos hj] at hu
      simpa using lit_cell h2 hu⟩
  | 1 => cases hx; exact ⟨(wkTx n).drop 9, rfl, ⟨_, rfl, r1⟩, fun j u hu => by
      rw [List.getElem?_drop] at hu
      simpa using lit_cell h2 hu⟩
  | i + 2 => cases hx
/-- The world in which it lies. -/
def wkW (w : World) : World := ((((w.alloc (.cells wkOp0.toArray 53)).alloc (.cells wkOp1.toArray 53)).alloc (.cells (wkTx w.heap.size).toArray 56)).alloc (.cells #[.slice (some ⟨w.heap.size + 1 + 1, 0, none⟩) 2 2] 24))
theorem size_al2 (w : World) (o : Obj) : (w.alloc o).heap.size = w.heap.size + 1 := by simp
theorem wkW_size (w : World) : (wkW w).heap.size = w.heap.size + 4 := by simp [wkW]
theorem wkW_below (w : World) : Below w.heap.size w (wkW w) := by
  unfold wkW
  exact (((bel1 w _).trans ((bel1 _ _).mono (by simp only [size_al2]; omega))).trans ((bel1 _ _).mono (by simp only [size_al2]; omega))).trans ((bel1 _ _).mono (by simp only [size_al2]; omega))
theorem wkW_box (w : World) : (wkW w).heap[w.heap.size + 3]? = some (.cells #[.slice (some ⟨w.heap.size + 2, 0, none⟩) 2 2] 24) := by
  unfold wkW
  rw [show w.heap.size + 3 = (((w.alloc (.cells wkOp0.toArray 53)).alloc (.cells wkOp1.toArray 53)).alloc (.cells (wkTx w.heap.size).toArray 56)).heap.size by simp]
  exact heap_alloc_new _ _
theorem wkW_hist (w : World) : HistV (wkW w) (w.heap.size + 3) (.slice (some ⟨w.heap.size + 2, 0, none⟩) 2 2) hWk := by
  refine wk_hist (t0 := 53) (t1 := 53) (t2 := 56) ?_ ?_ ?_
  · unfold wkW
    rw [heap_alloc_lt (by simp only [size_al2]; omega), heap_alloc_lt (by simp only [size_al2]; omega), heap_alloc_lt (by simp only [size_al2]; omega)]
    exact heap_alloc_new _ _
  · unfold wkW
    rw [heap_alloc_lt (by simp only [size_al2]; omega), heap_alloc_lt (by simp only [size_al2]; omega), show w.heap.size + 1 = (w.alloc (.cells wkOp0.toArray 53)).heap.size by simp only [size_al2]]
    exact heap_alloc_new _ _
  · unfold wkW
    rw [heap_alloc_lt (by simp only [size_al2]; omega), show w.heap.size + 2 = ((w.alloc (.cells wkOp0.toArray 53)).alloc (.cells wkOp1.toArray 53)).heap.size by simp only [size_al2]]
    exact heap_alloc_new _ _
end Go.Proofs.YtooigfkjdemnlaaGreat
