/- Own texts of this claim, joined in build order: W11. -/
import Derived.Test.YtooigfkjdemnlaaGreatDoorG23
import Derived.Test.YtooigfkjdemnlaaGreatDoorG24
import Derived.Test.YtooigfkjdemnlaaGreatDoorG01
set_option linter.all false
namespace Go.Proofs.YtooigfkjdemnlaaGreatDoor
open Go.RowKit Xw

def faultV (f : Int × Nat × Nat) : Value := .iface 76 (.agg #[.int .i64 f.1, .int .i64 f.2.1, .int .i64 f.2.2])
def faultEnd (ok : Value) : Option (Int × Nat × Nat) → Ending
  | none => .returned ok
  | some f => .panicked [{ v := faultV f, recovered := false }]

set_option maxHeartbeats 8000000 in
set_option maxRecDepth 100000 in
theorem check_ {w : World} {B lp : Nat} {h : List HTx} (hl : Led w B lp h) :
    Calls Tryz.prog 45 #[.pointer (some ⟨lp, 0, none⟩)] w fun e w' => e = faultEnd (.tuple #[]) (checkFault h h.length) ∧ Below w.heap.size w w' := by
  have hle := hl.le
  have hlp := hl.lt
  obtain ⟨tv, wv, ob, kv, ty, h1, h2, h3, h4, h5⟩ := hl.ex
  have l0 := (cells_of h1).1 0
  obtain ⟨A, c, rfl, hn0, hm0⟩ := Rows.shape h2
  have hlw : lp < w.heap.size := by omega
  simp only [maxLen] at hm0
  clear h1 h3 h4 h5
  go_enter Tryz.func45, Tryz.ntmps45
  go_wp2
  go_loopw [2, 3, 4, 5, 6, 13] (fun _ _ _ _ _ i' wr => ∃ t : Nat, t ≤ h.length ∧ i' = .int .i64 t ∧ Hid (checkFault h t = none) ∧ Below w.heap.size w wr) (fun _ _ _ _ _ i' _ => h.length - (intOf i').toNat)
  case atStart => exact ⟨0, by omega, rfl, Lib.hid rfl, Below.refl _ _⟩
  case round =>
    obtain ⟨t, ht, rfl, hE, hB⟩ := hrel
    obtain ⟨wo, rfl⟩ : ∃ wo : World, wo = wr := ⟨_, rfl⟩
    have hsz := hB.size
    by_cases hlt2 : t < h.length
    · obtain ⟨x, hx⟩ : ∃ x, h[t]? = some x := ⟨_, List.getElem?_eq_getElem hlt2⟩
      obtain ⟨b, p, c2, ov, he, hb, ⟨a0, a1, a2, a3, a4, a5, a6, a7, a8⟩, hro⟩ := h2.get hx (wr := wo) (keep_of hB hle)
      cases he
      obtain ⟨Ao, co, rfl, hno, hmo⟩ := hro.shape
      have hbr : b < wo.heap.size := by omega
      have hlr : Led wo B lp h := hl.below hB hle
      have hl2 := hlr.below (bel1 wo (.cells #[.int .i64 x.iso, .int .i64 x.fate, .int .u64 x.bgn, .int .u64 x.fin, .int .i64 x.bi, .int .i64 x.bo, .int .i64 x.ei, .int .i64 x.eo, .slice Ao x.ops.length co] 53)) (by omega)
      have hstep : checkFault h (t + 1) = (txFault h t x).map fun f => (f.1, t, f.2) := by simp only [checkFault, hE.out, hx]
      have HX := Lib.hid hx; clear hx
      have HS := Lib.hid hstep; clear hstep
      simp only [maxLen] at hmo
      by_cases hol : 256 < x.ops.length
      · have HF : Hid (checkFault h h.length = some (141, t, 0)) := Lib.hid (checkFault_mono (by rw [HS.out]; unfold txFault; rw [if_pos hol]; rfl) (show t + 1 ≤ _ by omega))
        have hoi : (256 : Int) < x.ops.length := by omega
        go_wp2
        exact ⟨rfl, by rw [HF.out]; rfl, hB.alloc (by omega) _⟩
      · have hoi : (x.ops.length : Int) ≤ 256 := by omega
        have hoi2 : x.ops.length ≤ 256 := by omega
        cases hsh : shaped h t x
        · have HF : Hid (checkFault h h.length = some (140, t, 0)) := Lib.hid (checkFault_mono (by rw [HS.out]; unfold txFault; rw [if_neg hol, if_pos hsh]; rfl) (show t + 1 ≤ _ by omega))
          have HSH := Lib.hid hsh; clear hsh
          go_wp2_with (go_at_call 89; refine (shaped_ hl2 t x HX.out).mono ?_; rw [HSH.out]; rintro e w1 ⟨rfl, hB1⟩)
          have hz := hB1.size
          simp only [World.size_alloc] at hz
          exact ⟨rfl, by rw [HF.out]; rfl, (hB.alloc (by omega) _).trans (hB1.mono (by simp; omega))⟩
        · have HTF : Hid (txFault h t x = opsFault h t x x.ops.length) := Lib.hid (by unfold txFault; rw [if_neg hol, if_neg (by rw [hsh]; simp)])
          have HSH := Lib.hid hsh; clear hsh
          have hbx := heap_alloc_new wo (.cells #[.int .i64 x.iso, .int .i64 x.fate, .int .u64 x.bgn, .int .u64 x.fin, .int .i64 x.bi, .int .i64 x.bo, .int .i64 x.ei, .int .i64 x.eo, .slice Ao x.ops.length co] 53)
          go_wp2_with fail
          refine (shaped_ hl2 t x HX.out).mono ?_
          rw [HSH.out]
          rintro e w1 ⟨rfl, hB1⟩
          have hz := hB1.size
          simp only [World.size_alloc] at hz
          have hbx1 := (hB1.block wo.heap.size (by simp)).trans hbx
          obtain ⟨r0, r1, r2, r3, r4, r5, r6, r7, r8⟩ := tx_cells hbx1
          have hw1 : wo.heap.size < w1.heap.size := by omega
          have hBw1 : Below w.heap.size w w1 := (hB.alloc (by omega) _).trans (hB1.mono (by simp; omega))
          have hBr1 : Below wo.heap.size wo w1 := (bel1 wo _).trans (hB1.mono (by simp))
          go_wp2
          go_loopw [4, 5, 6, 35] (fun _ _ _ i2 wr => ∃ j : Nat, j ≤ x.ops.length ∧ i2 = .int .i64 j ∧ Hid (opsFault h t x j = none) ∧ Below w1.heap.size w1 wr) (fun _ _ _ i2 _ => x.ops.length - (intOf i2).toNat)
          case atStart => exact ⟨0, by omega, rfl, Lib.hid rfl, Below.refl _ _⟩
          case round =>
            obtain ⟨j, hj, rfl, hE2, hB2⟩ := hrel
            have hzq := hB2.size
            have hBq : Below w.heap.size w wr := hBw1.trans (hB2.mono (by omega))
            have hBrq : Below wo.heap.size wo wr := hBr1.trans (hB2.mono (by omega))
            by_cases hlt3 : j < x.ops.length
            · obtain ⟨o, ho⟩ : ∃ o, x.ops[j]? = some o := ⟨_, List.getElem?_eq_getElem hlt3⟩
              obtain ⟨b2, p2, c3, sv, he, hb2, ⟨o0, o1, o2, o3, o4, o5, o6, o7, o8⟩, hsr⟩ := ops_get hro ho (wr := wr) (keep_of hBrq (by omega))
              cases he
              obtain ⟨sA, sc, rfl, hsn, hsm⟩ := hsr.shape
              have hb2q : b2 < wr.heap.size := by omega
              have hlq : Led wr B lp h := hl.below hBq hle
              have hlq2 := hlq.below (bel1 wr (.cells #[.int .i64 o.kind, .string o.ver.key, .int .i64 o.ver.frm, .int .i64 o.ver.nth, .bool o.dead, .string o.value, .string o.hi, .slice sA o.seen.length sc, .int .u64 o.at_] 59)) (by omega)
              have hsr2 := hsr.flat (keep_of (bel1 wr (.cells #[.int .i64 o.kind, .string o.ver.key, .int .i64 o.ver.frm, .int .i64 o.ver.nth, .bool o.dead, .string o.value, .string o.hi, .slice sA o.seen.length sc, .int .u64 o.at_] 59)) (by omega))
              obtain ⟨E, hEE⟩ : ∃ E, E = operation h t x j o := ⟨_, rfl⟩
              have hst2 : opsFault h t x (j + 1) = if E = 0 then none else some (E, j) := by simp only [opsFault, hE2.out, ho, hEE]
              have HO := Lib.hid ho; clear ho
              have HEE := Lib.hid hEE; clear hEE
              by_cases he0 : E = 0
              · rw [if_pos he0] at hst2
                have HS2 := Lib.hid hst2; clear hst2
                have hb0 : (E != 0) = false := by simp [he0]
                clear he0
                go_wp2_with (go_at_call 90; refine (operation_ hlq2 t x HX.out j _ o hsr2).mono ?_; rw [← HEE.out]; rintro e w2 ⟨rfl, hB3⟩)
                have hz3 := hB3.size
                simp only [World.size_alloc] at hz3
                exact ⟨⟨j + 1, by omega, by simp, HS2, (hB2.alloc (by omega) _).trans (hB3.mono (by simp; omega))⟩, by simp [intOf]; omega⟩
              · rw [if_neg he0] at hst2
                have HF : Hid (checkFault h h.length = some (E, t, j)) := Lib.hid (checkFault_mono (by rw [HS.out, HTF.out, opsFault_mono hst2 (show j + 1 ≤ _ by omega)]; rfl) (show t + 1 ≤ _ by omega))
                have hb0 : (E != 0) = true := by simp [he0]
                clear he0 hst2
                go_wp2_with (go_at_call 90; refine (operation_ hlq2 t x HX.out j _ o hsr2).mono ?_; rw [← HEE.out]; rintro e w2 ⟨rfl, hB3⟩)
                have hz3 := hB3.size
                simp only [World.size_alloc] at hz3
                exact ⟨rfl, by rw [HF.out]; rfl, (hBq.alloc (by omega) _).trans (hB3.mono (by simp; omega))⟩
            · obtain rfl : j = x.ops.length := by omega
              have HS2 : Hid (checkFault h (t + 1) = none) := Lib.hid (by rw [HS.out, HTF.out, hE2.out]; rfl)
              go_wp2
              exact ⟨⟨t + 1, by omega, by simp, HS2, hBq⟩, by simp [intOf]; omega⟩
    · obtain rfl : t = h.length := by omega
      go_wp2
      go_end0
      exact ⟨by rw [hE.out]; rfl, hB⟩
end Go.Proofs.YtooigfkjdemnlaaGreatDoor
