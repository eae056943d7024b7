/- Own texts of this claim, joined in build order: D4, Th1, D5. -/
import Derived.Test.YtooigfkjdemnlaaGreatDoorG28
import Derived.Test.YtooigfkjdemnlaaGreatDoorG21
import Derived.Deep.CutBlock
set_option linter.all false
namespace Go.Proofs.YtooigfkjdemnlaaGreatDoor
set_option maxRecDepth 100000
open Go.RowKit Go.Lib Go.Sort Go.Shelf Xw

def seenOf (o : HOpr) : List HVer := if o.kind = 1 then [o.ver] else if o.kind = 2 then [] else o.seen
def ToldB (h : List HTx) (bad : Nat → HVer → Bool) : Prop := ∃ t x o v, h[t]? = some x ∧ com h t = true ∧ o ∈ x.ops ∧ v ∈ seenOf o ∧ v.frm ≠ t ∧ bad t v = true
theorem seenOf_ok {h : List HTx} (H : Fine h) {t : Nat} {x : HTx} {j : Nat} {o : HOpr} (hx : h[t]? = some x) (ho : x.ops[j]? = some o) {v : HVer} (hv : v ∈ seenOf o) : verOk h v := by
  have L := H.lim
  have hxm := List.mem_of_getElem? hx
  have hom := List.mem_of_getElem? ho
  unfold seenOf at hv
  rcases op_kind (H.op t x hx j o ho) with h1 | h1 | h1
  · rw [if_pos h1] at hv
    simp at hv
    subst hv
    exact L.ver x hxm o hom h1
  · rw [if_neg (by omega), if_pos h1] at hv
    cases hv
  · rw [if_neg (by omega), if_neg (by omega)] at hv
    exact L.vers x hxm o hom h1 v hv
theorem seenOf_len {h : List HTx} (H : Fine h) {t : Nat} {x : HTx} {j : Nat} {o : HOpr} (hx : h[t]? = some x) (ho : x.ops[j]? = some o) : (seenOf o).length ≤ 256 := by
  have L := H.lim
  unfold seenOf
  split
  · simp
  · split
    · simp
    · rename_i h1 h2
      rcases op_kind (H.op t x hx j o ho) with h3 | h3 | h3
      · exact absurd h3 h1
      · exact absurd h3 h2
      · exact L.seen x (List.mem_of_getElem? hx) o (List.mem_of_getElem? ho) h3
set_option maxHeartbeats 8000000 in
theorem told_ {w : World} {B lp gb : Nat} {a1 a2 : Value} {h : List HTx} (hl : Led w B lp h) (H : Fine h) (hg : w.heap[gb]? = some (.cells #[.pointer (some ⟨lp, 0, none⟩), a1, a2] 95)) (hgB : gb < B)
    (M : FuncId) (caps : Array Value) (bad : Nat → HVer → Bool) (eg : ∀ args w, (callFunc M args).run Tryz.prog w = .ok (.enter M args) w)
    (hbad : ∀ (t : Nat) (v : HVer) (W : World), verOk h v → v.frm ≠ t → Below w.heap.size w W → Calls Tryz.prog M (#[.int .i64 t, .agg #[.string v.key, .int .i64 v.frm, .int .i64 v.nth]] ++ caps) W fun r W' => r = .returned (.bool (bad t v)) ∧ Below W.heap.size W W') :
    Calls Tryz.prog 61 #[.pointer (some ⟨gb, 0, none⟩), .func (.func M) #[] caps] w fun e w' => Below w.heap.size w w' ∧ ((e = .returned (.slice none 0 0) ∧ ¬ ToldB h bad) ∨ (∃ a n c, e = .returned (.slice (some a) n c) ∧ ToldB h bad)) := by
  obtain ⟨tv, wv, ob, kv, ty, l1, l2, l3, l4, l5⟩ := hl.ex
  have q0 := (cells_of l1).1 0
  have u0 := (cells_of hg).1 0
  have hlp := hl.lt
  have hle := hl.le
  have hlpw : lp < w.heap.size := by omega
  have hgw : gb < w.heap.size := by omega
  obtain ⟨TA, tc, rfl, ht1, ht2⟩ := Rows.shape l2
  simp only [maxLen] at ht2
  have HBAD := Lib.hid hbad
  clear hbad
  go_enter Tryz.func61, Tryz.ntmps61
  go_wp2
  go_loopw [5, 6, 8, 9, 11, 21] (fun _ _ _ _ _ i' wr => ∃ t : Nat, t ≤ h.length ∧ i' = .int .i64 t ∧ Hid (∀ t' < t, ∀ x o v, h[t']? = some x → com h t' = true → o ∈ x.ops → v ∈ seenOf o → v.frm ≠ t' → bad t' v = false) ∧ Below w.heap.size w wr) (fun _ _ _ _ _ i' _ => h.length - (intOf i').toNat)
  case atStart => exact ⟨0, by omega, rfl, Lib.hid (fun t' ht => by omega), Below.refl _ _⟩
  case round =>
    obtain ⟨t, ht, rfl, HT, hB⟩ := hrel
    have hz := hB.size
    have hlow : ∀ j, j < B → wr.heap[j]? = w.heap[j]? := fun j hj => hB.block j (by omega)
    by_cases hlt : t < h.length
    · obtain ⟨x, hx⟩ : ∃ x, h[t]? = some x := ⟨_, List.getElem?_eq_getElem hlt⟩
      obtain ⟨b, p, c2, ov, he, hb, ⟨x0, x1, x2, x3, x4, x5, x6, x7, x8⟩, hro⟩ := HistV.get l2 hx (wr := wr) hlow
      cases he
      obtain ⟨Ao, co, rfl, hno, hmo⟩ := hro.shape
      simp only [maxLen] at hmo
      have hbr : b < wr.heap.size := by omega
      have hgr : gb < wr.heap.size := by omega
      have v0 := (World.cell?_of_block (a := ⟨gb, 0, none⟩) (hlow gb hgB)).trans u0
      have hlr : Led (wr.alloc (.cells #[.int .i64 x.iso, .int .i64 x.fate, .int .u64 x.bgn, .int .u64 x.fin, .int .i64 x.bi, .int .i64 x.bo, .int .i64 x.ei, .int .i64 x.eo, .slice Ao x.ops.length co] 53)) B lp h :=
        (hl.keep hlow hz).below (bel1 wr _) (by omega)
      have HX := Lib.hid hx
      cases hct : com h t with
      | false =>
        have HC := Lib.hid hct
        clear hct hx
        go_wp2_with (go_at_call 20; refine (committed_ hlr t x HX.out).mono ?_; rw [HC.out]; rintro e w1 ⟨rfl, rfl⟩)
        refine ⟨⟨t + 1, by omega, by simp, Lib.hid (fun t' ht' x' o v hx' hc' => ?_), hB.trans ((bel1 _ _).mono (by omega))⟩, by simp [intOf]; omega⟩
        by_cases h1 : t' = t
        · subst h1
          rw [HC.out] at hc'; cases hc'
        · exact HT.out t' (by omega) x' o v hx' hc'
      | true =>
        have HC := Lib.hid hct
        clear hct hx
        go_wp2_with (go_at_call 20; refine (committed_ hlr t x HX.out).mono ?_; rw [HC.out]; rintro e w1 ⟨rfl, rfl⟩)
        obtain ⟨wt, rfl⟩ : ∃ wt : World, wt = wr := ⟨_, rfl⟩
        go_loopw [8, 9, 11, 36] (fun _ _ _ i' wr => ∃ j : Nat, j ≤ x.ops.length ∧ i' = .int .i64 j ∧ Hid (∀ j' < j, ∀ o v, x.ops[j']? = some o → v ∈ seenOf o → v.frm ≠ t → bad t v = false) ∧ Below w.heap.size w wr ∧ wt.heap.size + 1 ≤ wr.heap.size) (fun _ _ _ i' _ => x.ops.length - (intOf i').toNat)
        case atStart => exact ⟨0, by omega, rfl, Lib.hid (fun j' hj => by omega), hB.trans ((bel1 _ _).mono (by omega)), by simp⟩
        case round =>
          obtain ⟨j, hj, rfl, HJ, hBj, hzj⟩ := hrel
          by_cases hjl : j < x.ops.length
          · obtain ⟨o, ho⟩ : ∃ o, x.ops[j]? = some o := ⟨_, List.getElem?_eq_getElem hjl⟩
            have hlowj : ∀ i, i < B → wr.heap[i]? = wt.heap[i]? := fun i hi => (hBj.block i (by omega)).trans (hlow i hi).symm
            obtain ⟨b2, p2, c3, sv, he, hb2, ⟨o0, o1, o2, o3, o4, o5, o6, o7, o8⟩, hsr⟩ := ops_get hro ho (wr := wr) hlowj
            cases he
            obtain ⟨sA, sc, rfl, hsn, hsm⟩ := hsr.shape
            simp only [maxLen] at hsm
            have hb2r : b2 < wr.heap.size := by omega
            have hsl := seenOf_len H HX.out ho
            have hok := Lib.hid (fun v hv => seenOf_ok H HX.out ho (v := v) hv)
            have hkind := op_kind (H.op t x HX.out j o ho)
            have HO := Lib.hid ho
            clear ho
            obtain ⟨W8, hW8⟩ : ∃ W8, W8 = wr.alloc (.cells #[.int .i64 o.kind, .string o.ver.key, .int .i64 o.ver.frm, .int .i64 o.ver.nth, .bool o.dead, .string o.value, .string o.hi, .slice sA o.seen.length sc, .int .u64 o.at_] 59) := ⟨_, rfl⟩
            have hB8 : Below wr.heap.size wr W8 := by rw [hW8]; exact bel1 _ _
            have hz8 : W8.heap.size = wr.heap.size + 1 := by rw [hW8]; simp
            have hbx : W8.heap[wr.heap.size]? = some (.cells #[.int .i64 o.kind, .string o.ver.key, .int .i64 o.ver.frm, .int .i64 o.ver.nth, .bool o.dead, .string o.value, .string o.hi, .slice sA o.seen.length sc, .int .u64 o.at_] 59) := by rw [hW8]; exact heap_alloc_new _ _
            obtain ⟨q, qf⟩ := cells_of (cs := [.int .i64 o.kind, .string o.ver.key, .int .i64 o.ver.frm, .int .i64 o.ver.nth, .bool o.dead, .string o.value, .string o.hi, .slice sA o.seen.length sc, .int .u64 o.at_]) hbx
            have e0 := q 0
            have e1 := q 1
            have e2 := q 2
            have e3 := q 3
            have e7 := q 7
            have hs8 : Rows W8 W8.heap.size 3 (Flat verC) (.slice sA o.seen.length sc) o.seen := hsr.to hB8 (by omega) (by omega)
            have HW8 := Lib.hid hW8
            have HS8 := Lib.hid hs8
            have HRO := Lib.hid hro
            have HSR := Lib.hid hsr
            clear q qf hbx hW8 hs8 hro hsr
            go_upto_region 8 with (fail)
            rw [← HW8.out]
            go_upto_block 4 with (fail)
            go_cut [9] from 44 to 51 (fun v wx => ∃ A c, v = .slice A (seenOf o).length c ∧ c ≤ 9223372036854775807 ∧ (seenOf o).length ≤ c ∧ Hid (Rows wx wx.heap.size 3 (Flat verC) v (seenOf o)) ∧ Below W8.heap.size W8 wx)
            case first =>
              by_cases hk1 : o.kind = 1
              · have hkb : (o.kind == 1) = true := by simp [hk1]
                have hsn : seenOf o = [o.ver] := by unfold seenOf; rw [if_pos hk1]
                have HSN := Lib.hid hsn
                clear hk1 hkind hsn
                go_wp2
                go_meet
                case rel =>
                  rw [HSN.out]
                  refine ⟨_, _, rfl, by omega, by simp, Lib.hid ?_, bel1 _ _⟩
                  have := Sl.of_block (w := W8.alloc (.cells #[.string o.ver.key, .int .i64 o.ver.frm, .int .i64 o.ver.nth] 56)) (e := 56) (size := 3) (n := 1) (F := fun _ => True) (cur := #[.string o.ver.key, .int .i64 o.ver.frm, .int .i64 o.ver.nth]) (heap_alloc_new _ _) trivial rfl (by simp only [maxLen]; omega)
                  exact Rows.of_sl (enc := verC) (l := [o.ver]) (e := 56) (F := fun _ => True) (fun _ => rfl) (by rw [← hz8]; simpa [verC] using this) (Nat.le_refl _)
              · have hkb : (o.kind == 1) = false := by simp [hk1]
                by_cases hk2 : o.kind = 2
                · have hkb2 : (o.kind == 2) = true := by simp [hk2]
                  have hsn : seenOf o = [] := by unfold seenOf; rw [if_neg hk1, if_pos hk2]
                  have HSN := Lib.hid hsn
                  clear hk1 hk2 hkind hsn
                  go_wp2
                  go_meet
                  case rel =>
                    rw [HSN.out]
                    exact ⟨none, 0, rfl, by omega, by simp, Lib.hid (Rows.nil _ (by simp) _), Below.refl _ _⟩
                · have hkb2 : (o.kind == 2) = false := by simp [hk2]
                  have hsn : seenOf o = o.seen := by unfold seenOf; rw [if_neg hk1, if_neg hk2]
                  have HSN := Lib.hid hsn
                  clear hk1 hk2 hkind hsn
                  go_wp2
                  go_meet
                  case rel =>
                    rw [HSN.out]
                    exact ⟨sA, sc, rfl, by omega, by omega, HS8, Below.refl _ _⟩
            case rest =>
              obtain ⟨SA, sc', rfl, hsc1, hsc2, HSO, hB8c⟩ := hcut
              have hzc := hB8c.size
              have hBwc : Below w.heap.size w wc := hBj.trans ((hB8.trans (hB8c.mono (by omega))).mono (by omega))
              clear e0 e1 e2 e3 e7 o0 o1 o2 o3 o4 o5 o6 o7 o8
              obtain ⟨so, hso⟩ : ∃ so, so = seenOf o := ⟨_, rfl⟩
              rw [← hso] at HSO hsc2 hsl hok
              have HSOE := Lib.hid hso
              rw [← hso]
              clear hso
              go_wp2
              go_loopw [11, 53] (fun _ i' wr => ∃ s : Nat, s ≤ so.length ∧ i' = .int .i64 s ∧ Hid (∀ s' < s, ∀ v, so[s']? = some v → v.frm ≠ t → bad t v = false) ∧ Below wc.heap.size wc wr) (fun _ i' _ => so.length - (intOf i').toNat)
              case atStart => exact ⟨0, by omega, rfl, Lib.hid (fun s' hs => by omega), Below.refl _ _⟩
              case round =>
                obtain ⟨s, hs, rfl, HS, hBs⟩ := hrel
                have hzs := hBs.size
                by_cases hsl2 : s < so.length
                · obtain ⟨v, hv⟩ : ∃ v, so[s]? = some v := ⟨_, List.getElem?_eq_getElem hsl2⟩
                  obtain ⟨b5, p5, c5, he, hb5, z0, z1, z2⟩ := HSO.out.get3 hv (wr := wr) (fun i hi => hBs.block i hi) rfl
                  cases he
                  have hb5r : b5 < wr.heap.size := by omega
                  obtain ⟨W9, hW9⟩ : ∃ W9, W9 = wr.alloc (.cells #[.string v.key, .int .i64 v.frm, .int .i64 v.nth] 56) := ⟨_, rfl⟩
                  have hB9 : Below wr.heap.size wr W9 := by rw [hW9]; exact bel1 _ _
                  have hz9 : W9.heap.size = wr.heap.size + 1 := by rw [hW9]; simp
                  have hbx : W9.heap[wr.heap.size]? = some (.cells #[.string v.key, .int .i64 v.frm, .int .i64 v.nth] 56) := by rw [hW9]; exact heap_alloc_new _ _
                  obtain ⟨q, qf⟩ := cells_of (cs := [.string v.key, .int .i64 v.frm, .int .i64 v.nth]) hbx
                  have d0 := q 0
                  have d1 := q 1
                  have d2 := q 2
                  have hBw9 : Below w.heap.size w W9 := hBwc.trans ((hBs.trans (hB9.mono (by omega))).mono (by omega))
                  have hvok := hok.out v (List.mem_of_getElem? hv)
                  have HV := Lib.hid hv
                  have HW9 := Lib.hid hW9
                  have HVOK := Lib.hid hvok
                  clear q qf hbx hW9 hv hvok
                  by_cases hf : v.frm = t
                  · have hfb : (v.frm != (t : Int)) = false := by simp [hf]
                    have HF := Lib.hid hf
                    clear hf
                    go_upto_region 17 with (fail)
                    rw [← HW9.out]
                    go_wp2
                    refine ⟨⟨s + 1, by omega, by simp, Lib.hid (fun s' hs' v' hv' hf' => ?_), hBs.trans (hB9.mono (by omega))⟩, by simp [intOf]; omega⟩
                    by_cases h1 : s' = s
                    · subst h1
                      rw [HV.out] at hv'; cases hv'
                      exact absurd HF.out hf'
                    · exact HS.out s' (by omega) v' hv' hf'
                  · have hfb : (v.frm != (t : Int)) = true := by simp [hf]
                    have hcall := Lib.hid (HBAD.out t v W9 HVOK.out hf hBw9)
                    have HF := Lib.hid hf
                    clear hf
                    cases hbd : bad t v with
                    | false =>
                      have HBD := Lib.hid hbd
                      clear hbd
                      go_upto_region 17 with (fail)
                      rw [← HW9.out]
                      go_wp2_with (go_at_fn M; refine hcall.out.mono ?_; rw [HBD.out]; rintro r w10 ⟨rfl, hB10⟩)
                      have hz10 := hB10.size
                      refine ⟨⟨s + 1, by omega, by simp, Lib.hid (fun s' hs' v' hv' hf' => ?_), hBs.trans ((hB9.trans (hB10.mono (by omega))).mono (by omega))⟩, by simp [intOf]; omega⟩
                      by_cases h1 : s' = s
                      · subst h1
                        rw [HV.out] at hv'; cases hv'
                        exact HBD.out
                      · exact HS.out s' (by omega) v' hv' hf'
                    | true =>
                      have HBD := Lib.hid hbd
                      clear hbd
                      go_upto_region 17 with (fail)
                      rw [← HW9.out]
                      go_wp2_with (
                        go_at_fn M; refine hcall.out.mono ?_; rw [HBD.out]; rintro r w10 ⟨rfl, hB10⟩
                        have hz10 := hB10.size
                        have f0 := (World.cell?_of_block (a := ⟨wr.heap.size, 0, none⟩) (hB10.block wr.heap.size (by omega))).trans d0
                        have f1 := (World.cell?_of_block (a := ⟨wr.heap.size, 1, none⟩) (hB10.block wr.heap.size (by omega))).trans d1)
                      go_ret
                      refine ⟨(hBw9.trans (hB10.mono (by omega))).trans ((bel1 _ _).mono (by omega)), .inr ⟨_, _, _, rfl, t, x, o, v, HX.out, HC.out, List.mem_of_getElem? HO.out, ?_, HF.out, HBD.out⟩⟩
                      rw [← HSOE.out]
                      exact List.mem_of_getElem? HV.out
                · obtain rfl : s = so.length := by omega
                  go_wp2
                  refine ⟨⟨j + 1, by omega, by simp, Lib.hid (fun j' hj' o' v ho' hv' hf' => ?_), hBwc.trans (hBs.mono (by omega)), by omega⟩, by simp [intOf]; omega⟩
                  by_cases h1 : j' = j
                  · subst h1
                    rw [HO.out] at ho'; cases ho'
                    rw [← HSOE.out] at hv'
                    obtain ⟨s', hs'⟩ := List.mem_iff_getElem?.1 hv'
                    exact HS.out s' (List.getElem?_eq_some_iff.1 hs').1 v hs' hf'
                  · exact HJ.out j' (by omega) o' v ho' hv' hf'
          · obtain rfl : j = x.ops.length := by omega
            go_wp2
            refine ⟨⟨t + 1, by omega, by simp, Lib.hid (fun t' ht' x' o v hx' hc' ho hv hf => ?_), hBj⟩, by simp [intOf]; omega⟩
            by_cases h1 : t' = t
            · subst h1
              rw [HX.out] at hx'; cases hx'
              obtain ⟨j', hj'⟩ := List.mem_iff_getElem?.1 ho
              exact HJ.out j' (List.getElem?_eq_some_iff.1 hj').1 o v hj' hv hf
            · exact HT.out t' (by omega) x' o v hx' hc' ho hv hf
    · obtain rfl : t = h.length := by omega
      go_wp2
      go_ret
      refine ⟨hB, .inl ⟨rfl, fun ⟨t', x, o, v, hx, hc, ho, hv, hf, hbd⟩ => ?_⟩⟩
      have := HT.out t' (List.getElem?_eq_some_iff.1 hx).1 x o v hx hc ho hv hf
      rw [hbd] at this
      cases this
end Go.Proofs.YtooigfkjdemnlaaGreatDoor

namespace Go.Proofs.YtooigfkjdemnlaaGreatDoor

theorem mem_addE {l : List Edge} {f t k : Int} {s : ByteArray} {e : Edge} : e ∈ addE l f t k s ↔ e ∈ l ∨ (f ≠ t ∧ e = ⟨f, t, k, s⟩) := by
  unfold addE
  split
  · rename_i h; simp [h]
  · rename_i h; simp [h]
def QItem (h : List HTx) (t : Nat) (v : HVer) (e : Edge) : Prop :=
  v.frm ≠ t ∧ com h v.frm.toNat = true ∧ (e = ⟨v.frm, t, 2, v.key⟩ ∨ ∃ u, 0 ≤ standing h v ∧ (order h v.key)[(standing h v + 1).toNat]? = some u ∧ (t : Int) ≠ u.txn ∧ e = ⟨t, u.txn, 4, v.key⟩)
theorem mem_itemE {h : List HTx} {t : Nat} {v : HVer} {l : List Edge} {e : Edge} : e ∈ itemE h t v l ↔ e ∈ l ∨ QItem h t v e := by
  unfold itemE QItem
  by_cases h1 : v.frm = t ∨ com h v.frm.toNat = false
  · rw [if_pos h1]
    constructor
    · exact .inl
    · rintro (h2 | ⟨h2, h3, _⟩)
      · exact h2
      · rcases h1 with h1 | h1
        · exact absurd h1 h2
        · rw [h1] at h3; cases h3
  · rw [if_neg h1]
    have h2 : v.frm ≠ t := fun h => h1 (.inl h)
    have h3 : com h v.frm.toNat = true := by
      cases hc : com h v.frm.toNat
      · exact absurd (.inr hc) h1
      · rfl
    cases ho : (order h v.key)[(standing h v + 1).toNat]? with
    | none => simp only [mem_addE]; simp [h2, h3]
    | some u =>
      simp only
      by_cases h0 : 0 ≤ standing h v
      · rw [if_pos h0]
        simp only [mem_addE, or_assoc]
        constructor
        · rintro (h4 | h4 | h4)
          · exact .inl h4
          · exact .inr ⟨h2, h3, .inl h4.2⟩
          · exact .inr ⟨h2, h3, .inr ⟨u, h0, rfl, h4⟩⟩
        · rintro (h4 | ⟨_, _, h4 | ⟨u', _, h5, h6⟩⟩)
          · exact .inl h4
          · exact .inr (.inl ⟨h2, h4⟩)
          · cases h5; exact .inr (.inr h6)
      · rw [if_neg h0]
        simp only [mem_addE]
        constructor
        · rintro (h4 | h4)
          · exact .inl h4
          · exact .inr ⟨h2, h3, .inl h4.2⟩
        · rintro (h4 | ⟨_, _, h4 | ⟨u', h5, _⟩⟩)
          · exact .inl h4
          · exact .inr ⟨h2, h4⟩
          · exact absurd h5 h0
def QScan (h : List HTx) (t : Nat) (o : HOpr) (k : ByteArray) (e : Edge) : Prop :=
  ¬ ((tellsAt o k).isSome = true ∧ scanN h t o k = 0) ∧
  ((∃ i u, downTurn (order h k) (scanN h t o k) = some i ∧ (order h k)[i]? = some u ∧ (u.txn : Int) ≠ t ∧ e = ⟨u.txn, t, 3, k⟩) ∨
   (∃ i u, upTurn (order h k) (scanN h t o k) ((order h k).length - scanN h t o k) = some i ∧ (order h k)[i]? = some u ∧ (t : Int) ≠ u.txn ∧ e = ⟨t, u.txn, 5, k⟩))
theorem mem_edgeAt {ord : List Inst} {p : Option Nat} {mk : Inst → List Edge} {l : List Edge} {Q : Inst → Edge → Prop} (hm : ∀ u e, e ∈ mk u ↔ e ∈ l ∨ Q u e) {e : Edge} : e ∈ edgeAt ord p mk l ↔ e ∈ l ∨ ∃ i u, p = some i ∧ ord[i]? = some u ∧ Q u e := by
  unfold edgeAt
  cases p with
  | none => simp
  | some i =>
    simp only
    cases ho : ord[i]? with
    | none =>
      simp only
      constructor
      · exact .inl
      · rintro (h1 | ⟨i', u, h1, h2, _⟩)
        · exact h1
        · cases h1; rw [ho] at h2; cases h2
    | some u =>
      simp only [hm]
      constructor
      · rintro (h1 | h1)
        · exact .inl h1
        · exact .inr ⟨i, u, rfl, ho, h1⟩
      · rintro (h1 | ⟨i', u', h1, h2, h3⟩)
        · exact .inl h1
        · cases h1; rw [ho] at h2; cases h2; exact .inr h3
theorem mem_scanE {h : List HTx} {t : Nat} {o : HOpr} {k : ByteArray} {l : List Edge} {e : Edge} : e ∈ scanE h t o k l ↔ e ∈ l ∨ QScan h t o k e := by
  unfold scanE QScan
  by_cases h1 : (tellsAt o k).isSome = true ∧ scanN h t o k = 0
  · rw [if_pos h1]
    constructor
    · exact .inl
    · rintro (h2 | ⟨h2, _⟩)
      · exact h2
      · exact absurd h1 h2
  · rw [if_neg h1]
    unfold scanUp scanDown
    rw [mem_edgeAt (Q := fun u e => (t : Int) ≠ u.txn ∧ e = ⟨t, u.txn, 5, k⟩) (fun u e => mem_addE), mem_edgeAt (Q := fun u e => (u.txn : Int) ≠ t ∧ e = ⟨u.txn, t, 3, k⟩) (fun u e => mem_addE)]
    constructor
    · rintro ((h2 | h2) | h2)
      · exact .inl h2
      · exact .inr ⟨h1, .inl h2⟩
      · exact .inr ⟨h1, .inr h2⟩
    · rintro (h2 | ⟨_, h2 | h2⟩)
      · exact .inl (.inl h2)
      · exact .inl (.inr h2)
      · exact .inr h2
theorem mem_seenE {h : List HTx} {t : Nat} {o : HOpr} {l : List Edge} {e : Edge} : ∀ n, e ∈ seenE h t o l n ↔ e ∈ l ∨ ∃ j v, j < n ∧ o.seen[j]? = some v ∧ QItem h t v e
  | 0 => by simp [seenE]
  | n + 1 => by
    have ih := mem_seenE (h := h) (t := t) (o := o) (l := l) (e := e) n
    simp only [seenE]
    cases hs : o.seen[n]? with
    | none =>
      simp only [ih]
      constructor
      · rintro (h1 | ⟨j, v, h1, h2⟩)
        · exact .inl h1
        · exact .inr ⟨j, v, by omega, h2⟩
      · rintro (h1 | ⟨j, v, h1, h2, h3⟩)
        · exact .inl h1
        · by_cases hj : j = n
          · subst hj; rw [hs] at h2; cases h2
          · exact .inr ⟨j, v, by omega, h2, h3⟩
    | some v0 =>
      simp only [mem_itemE, ih]
      constructor
      · rintro ((h1 | ⟨j, v, h1, h2⟩) | h1)
        · exact .inl h1
        · exact .inr ⟨j, v, by omega, h2⟩
        · exact .inr ⟨n, v0, by omega, hs, h1⟩
      · rintro (h1 | ⟨j, v, h1, h2, h3⟩)
        · exact .inl (.inl h1)
        · by_cases hj : j = n
          · subst hj; rw [hs] at h2; cases h2; exact .inr h3
          · exact .inl (.inr ⟨j, v, by omega, h2, h3⟩)
def QKey (h : List HTx) (t : Nat) (x : HTx) (i : Nat) (o : HOpr) (k : ByteArray) (e : Edge) : Prop := (aheadL x k i).length = 0 ∧ covers o k = true ∧ QScan h t o k e
theorem mem_keysE {h : List HTx} {t : Nat} {x : HTx} {i : Nat} {o : HOpr} {l : List Edge} {e : Edge} : ∀ n, e ∈ keysE h t x i o l n ↔ e ∈ l ∨ ∃ j k, j < n ∧ (keysOf h)[j]? = some k ∧ QKey h t x i o k e
  | 0 => by simp [keysE]
  | n + 1 => by
    have ih := mem_keysE (h := h) (t := t) (x := x) (i := i) (o := o) (l := l) (e := e) n
    simp only [keysE]
    have more : (e ∈ l ∨ ∃ j k, j < n ∧ (keysOf h)[j]? = some k ∧ QKey h t x i o k e) → (e ∈ l ∨ ∃ j k, j < n + 1 ∧ (keysOf h)[j]? = some k ∧ QKey h t x i o k e) := by
      rintro (h1 | ⟨j, v, h1, h2⟩)
      · exact .inl h1
      · exact .inr ⟨j, v, by omega, h2⟩
    cases hs : (keysOf h)[n]? with
    | none =>
      simp only [ih]
      refine ⟨more, ?_⟩
      rintro (h1 | ⟨j, v, h1, h2, h3⟩)
      · exact .inl h1
      · by_cases hj : j = n
        · subst hj; rw [hs] at h2; cases h2
        · exact .inr ⟨j, v, by omega, h2, h3⟩
    | some k0 =>
      simp only
      by_cases hc : (aheadL x k0 i).length = 0 ∧ covers o k0 = true
      · rw [if_pos hc, mem_scanE, ih]
        constructor
        · rintro (h1 | h1)
          · exact more h1
          · exact .inr ⟨n, k0, by omega, hs, hc.1, hc.2, h1⟩
        · rintro (h1 | ⟨j, v, h1, h2, h3⟩)
          · exact .inl (.inl h1)
          · by_cases hj : j = n
            · subst hj; rw [hs] at h2; cases h2; exact .inr h3.2.2
            · exact .inl (.inr ⟨j, v, by omega, h2, h3⟩)
      · rw [if_neg hc, ih]
        refine ⟨more, ?_⟩
        rintro (h1 | ⟨j, v, h1, h2, h3⟩)
        · exact .inl h1
        · by_cases hj : j = n
          · subst hj; rw [hs] at h2; cases h2; exact absurd ⟨h3.1, h3.2.1⟩ hc
          · exact .inr ⟨j, v, by omega, h2, h3⟩
def QOp (h : List HTx) (t : Nat) (x : HTx) (i : Nat) (o : HOpr) (e : Edge) : Prop :=
  (o.kind = 1 ∧ QItem h t o.ver e) ∨ (o.kind = 3 ∧ ((∃ v ∈ o.seen, QItem h t v e) ∨ ∃ k ∈ keysOf h, QKey h t x i o k e))
theorem mem_idx {α : Type} {l : List α} {P : α → Prop} : (∃ j v, j < l.length ∧ l[j]? = some v ∧ P v) ↔ ∃ v ∈ l, P v := by
  constructor
  · rintro ⟨j, v, _, h1, h2⟩
    exact ⟨v, List.mem_of_getElem? h1, h2⟩
  · rintro ⟨v, h1, h2⟩
    obtain ⟨j, hj⟩ := List.mem_iff_getElem?.1 h1
    exact ⟨j, v, (List.getElem?_eq_some_iff.1 hj).1, hj, h2⟩
theorem mem_opE {h : List HTx} {t : Nat} {x : HTx} {i : Nat} {o : HOpr} {l : List Edge} {e : Edge} : e ∈ opE h t x i o l ↔ e ∈ l ∨ QOp h t x i o e := by
  unfold opE QOp
  by_cases h1 : o.kind = 1
  · rw [if_pos h1, mem_itemE]; simp [h1]
  · rw [if_neg h1]
    by_cases h3 : o.kind = 3
    · rw [if_pos h3, mem_keysE, mem_seenE, mem_idx, mem_idx]
      simp [h3, or_assoc]
    · rw [if_neg h3]; simp [h1, h3]
theorem mem_opsE {h : List HTx} {t : Nat} {x : HTx} {l : List Edge} {e : Edge} : ∀ n, e ∈ opsE h t x l n ↔ e ∈ l ∨ ∃ j o, j < n ∧ x.ops[j]? = some o ∧ QOp h t x j o e
  | 0 => by simp [opsE]
  | n + 1 => by
    have ih := mem_opsE (h := h) (t := t) (x := x) (l := l) (e := e) n
    simp only [opsE]
    cases hs : x.ops[n]? with
    | none =>
      simp only [ih]
      constructor
      · rintro (h1 | ⟨j, v, h1, h2⟩)
        · exact .inl h1
        · exact .inr ⟨j, v, by omega, h2⟩
      · rintro (h1 | ⟨j, v, h1, h2, h3⟩)
        · exact .inl h1
        · by_cases hj : j = n
          · subst hj; rw [hs] at h2; cases h2
          · exact .inr ⟨j, v, by omega, h2, h3⟩
    | some v0 =>
      simp only [mem_opE, ih]
      constructor
      · rintro ((h1 | ⟨j, v, h1, h2⟩) | h1)
        · exact .inl h1
        · exact .inr ⟨j, v, by omega, h2⟩
        · exact .inr ⟨n, v0, by omega, hs, h1⟩
      · rintro (h1 | ⟨j, v, h1, h2, h3⟩)
        · exact .inl (.inl h1)
        · by_cases hj : j = n
          · subst hj; rw [hs] at h2; cases h2; exact .inr h3
          · exact .inl (.inr ⟨j, v, by omega, h2, h3⟩)
def QWW (h : List HTx) (k : ByteArray) (e : Edge) : Prop := ∃ i u v, (order h k)[i]? = some u ∧ (order h k)[i + 1]? = some v ∧ (u.txn : Int) ≠ v.txn ∧ e = ⟨u.txn, v.txn, 1, k⟩
theorem mem_wwE {k : ByteArray} {o : List Inst} {l : List Edge} {e : Edge} : ∀ n, e ∈ wwE k o l n ↔ e ∈ l ∨ ∃ i u v, i + 1 < n ∧ o[i]? = some u ∧ o[i + 1]? = some v ∧ (u.txn : Int) ≠ v.txn ∧ e = ⟨u.txn, v.txn, 1, k⟩
  | 0 => by simp [wwE]
  | n + 1 => by
    have ih := mem_wwE (k := k) (o := o) (l := l) (e := e) n
    cases n with
    | zero => simp [wwE]
    | succ i =>
      have more : (e ∈ l ∨ ∃ i' u v, i' + 1 < i + 1 ∧ o[i']? = some u ∧ o[i' + 1]? = some v ∧ (u.txn : Int) ≠ v.txn ∧ e = ⟨u.txn, v.txn, 1, k⟩) → (e ∈ l ∨ ∃ i' u v, i' + 1 < i + 1 + 1 ∧ o[i']? = some u ∧ o[i' + 1]? = some v ∧ (u.txn : Int) ≠ v.txn ∧ e = ⟨u.txn, v.txn, 1, k⟩) := by
        rintro (h1 | ⟨j, u, v, h1, h2⟩)
        · exact .inl h1
        · exact .inr ⟨j, u, v, by omega, h2⟩
      have less : ((o[i]? = none ∨ o[i + 1]? = none) ∧ (e ∈ l ∨ ∃ i' u v, i' + 1 < i + 1 + 1 ∧ o[i']? = some u ∧ o[i' + 1]? = some v ∧ (u.txn : Int) ≠ v.txn ∧ e = ⟨u.txn, v.txn, 1, k⟩)) → (e ∈ l ∨ ∃ i' u v, i' + 1 < i + 1 ∧ o[i']? = some u ∧ o[i' + 1]? = some v ∧ (u.txn : Int) ≠ v.txn ∧ e = ⟨u.txn, v.txn, 1, k⟩) := by
        rintro ⟨hn, h1 | ⟨j, u, v, h1, h2, h3, h4⟩⟩
        · exact .inl h1
        · by_cases hj : j = i
          · subst hj
            rcases hn with hn | hn
            · rw [h2] at hn; cases hn
            · rw [h3] at hn; cases hn
          · exact .inr ⟨j, u, v, by omega, h2, h3, h4⟩
      conv => lhs; rw [wwE.eq_def]
      simp only
      cases hv : o[i + 1]? with
      | none => simp only [ih]; exact ⟨more, fun h => less ⟨.inr hv, h⟩⟩
      | some v0 =>
        simp only
        cases hu : o[i]? with
        | none => simp only [ih]; exact ⟨more, fun h => less ⟨.inl hu, h⟩⟩
        | some u0 =>
          simp only [mem_addE, ih]
          constructor
          · rintro (h1 | ⟨h1, h2⟩)
            · exact more h1
            · exact .inr ⟨i, u0, v0, by omega, hu, hv, h1, h2⟩
          · rintro (h1 | ⟨j, u, v, h1, h2, h3, h4, h5⟩)
            · exact .inl (.inl h1)
            · by_cases hj : j = i
              · subst hj
                rw [hu] at h2; rw [hv] at h3; cases h2; cases h3
                exact .inr ⟨h4, h5⟩
              · exact .inl (.inr ⟨j, u, v, by omega, h2, h3, h4, h5⟩)
theorem mem_wwE_all {h : List HTx} {k : ByteArray} {l : List Edge} {e : Edge} : e ∈ wwE k (order h k) l (order h k).length ↔ e ∈ l ∨ QWW h k e := by
  rw [mem_wwE]
  unfold QWW
  constructor
  · rintro (h1 | ⟨i, u, v, _, h2⟩)
    · exact .inl h1
    · exact .inr ⟨i, u, v, h2⟩
  · rintro (h1 | ⟨i, u, v, h2, h3, h4⟩)
    · exact .inl h1
    · exact .inr ⟨i, u, v, (List.getElem?_eq_some_iff.1 h3).1, h2, h3, h4⟩
theorem mem_wwAll {h : List HTx} {e : Edge} : ∀ n, e ∈ wwAll h n ↔ ∃ j k, j < n ∧ (keysOf h)[j]? = some k ∧ QWW h k e
  | 0 => by simp [wwAll]
  | n + 1 => by
    have ih := mem_wwAll (h := h) (e := e) n
    simp only [wwAll]
    cases hs : (keysOf h)[n]? with
    | none =>
      simp only [ih]
      constructor
      · rintro ⟨j, v, h1, h2⟩
        exact ⟨j, v, by omega, h2⟩
      · rintro ⟨j, v, h1, h2, h3⟩
        by_cases hj : j = n
        · subst hj; rw [hs] at h2; cases h2
        · exact ⟨j, v, by omega, h2, h3⟩
    | some k0 =>
      simp only [mem_wwE_all, ih]
      constructor
      · rintro (⟨j, v, h1, h2⟩ | h1)
        · exact ⟨j, v, by omega, h2⟩
        · exact ⟨n, k0, by omega, hs, h1⟩
      · rintro ⟨j, v, h1, h2, h3⟩
        by_cases hj : j = n
        · subst hj; rw [hs] at h2; cases h2; exact .inr h3
        · exact .inl ⟨j, v, by omega, h2, h3⟩
def QTx (h : List HTx) (t : Nat) (e : Edge) : Prop := ∃ x j o, h[t]? = some x ∧ com h t = true ∧ x.ops[j]? = some o ∧ QOp h t x j o e
theorem mem_txsE {h : List HTx} {e : Edge} : ∀ n, e ∈ txsE h n ↔ (∃ k ∈ keysOf h, QWW h k e) ∨ ∃ t, t < n ∧ QTx h t e
  | 0 => by simp only [txsE, mem_wwAll, mem_idx]; simp
  | n + 1 => by
    have ih := mem_txsE (h := h) (e := e) n
    simp only [txsE]
    have more : ((∃ k ∈ keysOf h, QWW h k e) ∨ ∃ t, t < n ∧ QTx h t e) → ((∃ k ∈ keysOf h, QWW h k e) ∨ ∃ t, t < n + 1 ∧ QTx h t e) := by
      rintro (h1 | ⟨t, h1, h2⟩)
      · exact .inl h1
      · exact .inr ⟨t, by omega, h2⟩
    have less : ¬ QTx h n e → ((∃ k ∈ keysOf h, QWW h k e) ∨ ∃ t, t < n + 1 ∧ QTx h t e) → ((∃ k ∈ keysOf h, QWW h k e) ∨ ∃ t, t < n ∧ QTx h t e) := by
      rintro hn (h1 | ⟨t, h1, h2⟩)
      · exact .inl h1
      · by_cases ht : t = n
        · subst ht; exact absurd h2 hn
        · exact .inr ⟨t, by omega, h2⟩
    cases hx : h[n]? with
    | none =>
      simp only [ih]
      exact ⟨more, less (by rintro ⟨x, j, o, h1, _⟩; rw [hx] at h1; cases h1)⟩
    | some x =>
      simp only
      by_cases hc : com h n = true
      · rw [if_pos hc, mem_opsE, ih]
        constructor
        · rintro (h1 | ⟨j, o, h1, h2, h3⟩)
          · exact more h1
          · exact .inr ⟨n, by omega, x, j, o, hx, hc, h2, h3⟩
        · rintro (h1 | ⟨t, h1, h2⟩)
          · exact .inl (.inl h1)
          · by_cases ht : t = n
            · subst ht
              obtain ⟨x', j, o, h3, h4, h5, h6⟩ := h2
              rw [hx] at h3; cases h3
              exact .inr ⟨j, o, (List.getElem?_eq_some_iff.1 h5).1, h5, h6⟩
            · exact .inl (.inr ⟨t, by omega, h2⟩)
      · rw [if_neg hc, ih]
        exact ⟨more, less (by rintro ⟨x', j, o, _, h1, _⟩; exact hc h1)⟩
theorem mem_dedup {e : Edge} : ∀ l : List Edge, e ∈ dedup l ↔ e ∈ l
  | [] => by simp [dedup]
  | [a] => by simp [dedup]
  | a :: b :: r => by
    have ih := mem_dedup (e := e) (b :: r)
    simp only [dedup]
    split
    · rename_i h1
      rw [ih]
      subst h1
      simp
    · rw [List.mem_cons, ih]; simp
theorem mem_edgesOf {h : List HTx} {e : Edge} : e ∈ edgesOf h ↔ (∃ k ∈ keysOf h, QWW h k e) ∨ ∃ t, QTx h t e := by
  unfold edgesOf
  rw [mem_dedup, List.mem_mergeSort, mem_txsE]
  constructor
  · rintro (h1 | ⟨t, _, h1⟩)
    · exact .inl h1
    · exact .inr ⟨t, h1⟩
  · rintro (h1 | ⟨t, h1⟩)
    · exact .inl h1
    · obtain ⟨x, j, o, h3, _⟩ := id h1
      exact .inr ⟨t, (List.getElem?_eq_some_iff.1 h3).1, h1⟩
end Go.Proofs.YtooigfkjdemnlaaGreatDoor

namespace Go.Proofs.YtooigfkjdemnlaaGreatDoor
set_option maxRecDepth 100000
open Go.RowKit Go.Lib Go.Sort Go.Shelf Xw

def badA (h : List HTx) (t : Nat) (v : HVer) : Bool := !com h v.frm.toNat
def badB (h : List HTx) (t : Nat) (v : HVer) : Bool := match h[v.frm.toNat]? with
  | some x => decide (v.nth ≠ (writes x v.key).length)
  | none => true
theorem verOk_nat {h : List HTx} {v : HVer} (hv : verOk h v) : ∃ (u : Nat) (y : HTx), v.frm = u ∧ h[u]? = some y := by
  obtain ⟨y, hy⟩ := hv
  by_cases h0 : 0 ≤ v.frm
  · rw [if_pos h0] at hy
    exact ⟨v.frm.toNat, y, by omega, hy⟩
  · rw [if_neg h0] at hy; cases hy
set_option maxHeartbeats 2000000 in
theorem shows1_ {w : World} {B lp gb bx : Nat} {a1 a2 : Value} {ty : TypeId} {h : List HTx} (hl : Led w B lp h) (hg : w.heap[gb]? = some (.cells #[.pointer (some ⟨lp, 0, none⟩), a1, a2] 95))
    (hbx : w.heap[bx]? = some (.cells #[.pointer (some ⟨gb, 0, none⟩)] ty)) (t : Nat) (v : HVer) (hv : verOk h v) :
    Calls Tryz.prog 62 #[.int .i64 t, .agg #[.string v.key, .int .i64 v.frm, .int .i64 v.nth], .pointer (some ⟨bx, 0, none⟩)] w fun r w' => r = .returned (.bool (badA h t v)) ∧ Below w.heap.size w w' := by
  obtain ⟨u, y, hu, hy⟩ := verOk_nat hv
  obtain ⟨k, f, n⟩ := v
  dsimp only at *
  subst hu
  have b0 := (cells_of (cs := [.pointer (some ⟨gb, 0, none⟩)]) hbx).1 0
  have g0 := (cells_of hg).1 0
  have hgl := lt_of_heap hg
  have hbl := lt_of_heap hbx
  have hl1 : Led (w.alloc (.cells #[.string k, .int .i64 u, .int .i64 n] 56)).drew B lp h := (hl.below (bel1 w _) hl.le).drew
  have HY := Lib.hid hy
  have HR : Hid (badA h t ⟨k, u, n⟩ = !com h u) := Lib.hid rfl
  clear hy hv hg hbx
  go_enter Tryz.func62, Tryz.ntmps62
  go_wp2_with (first
    | (with_reducible refine wp_region_free (by kernel_rfl) (fun _ _ => ?_))
    | (go_at_call 20; refine (committed_ hl1 u y HY.out).mono ?_; rintro e w1 ⟨rfl, rfl⟩))
  go_ret
  exact ⟨ret_bool (by rw [HR.out]), (bel1 _ _).drew⟩
set_option maxHeartbeats 4000000 in
theorem between1_ {w : World} {B lp gb bx : Nat} {a1 a2 : Value} {ty : TypeId} {h : List HTx} (hl : Led w B lp h) (hg : w.heap[gb]? = some (.cells #[.pointer (some ⟨lp, 0, none⟩), a1, a2] 95))
    (hbx : w.heap[bx]? = some (.cells #[.pointer (some ⟨gb, 0, none⟩)] ty)) (t : Nat) (v : HVer) (hv : verOk h v) :
    Calls Tryz.prog 103 #[.int .i64 t, .agg #[.string v.key, .int .i64 v.frm, .int .i64 v.nth], .pointer (some ⟨bx, 0, none⟩)] w fun r w' => r = .returned (.bool (badB h t v)) ∧ Below w.heap.size w w' := by
  obtain ⟨u, y, hu, hy⟩ := verOk_nat hv
  obtain ⟨k, f, n⟩ := v
  dsimp only at *
  subst hu
  have hul : u < h.length := (List.getElem?_eq_some_iff.1 hy).1
  have b0 := (cells_of (cs := [.pointer (some ⟨gb, 0, none⟩)]) hbx).1 0
  have g0 := (cells_of hg).1 0
  have hgl := lt_of_heap hg
  have hbl := lt_of_heap hbx
  obtain ⟨W1, hW1⟩ : ∃ W1, W1 = w.alloc (.cells #[.string k, .int .i64 u, .int .i64 n] 56) := ⟨_, rfl⟩
  have hB1 : Below w.heap.size w W1 := by rw [hW1]; exact bel1 _ _
  have hz1 : W1.heap.size = w.heap.size + 1 := by rw [hW1]; simp
  have hl1 : Led W1 B lp h := hl.below hB1 hl.le
  have hle := hl.le
  obtain ⟨tv, wv, ob, kv, tyl, l1, l2, l3, l4, l5⟩ := hl1.ex
  have q1 := (cells_of l1).1 1
  have hlp := hl.lt
  have hlpw : lp < W1.heap.size := by omega
  have hcm := l3.shape
  obtain ⟨wb, wo, wc, mb, L, rfl, hwb, w1, hmb, hL, hlk⟩ := wr_get l3 hy (wr := W1) (fun _ _ => rfl)
  obtain ⟨_, _, he, hc1, hc2⟩ := hcm
  cases he
  simp only [maxLen] at hc2
  have hwbw : wb < W1.heap.size := by omega
  have hlkk := hlk k
  obtain ⟨V, hV⟩ : ∃ V, V = (kget L k).getD (.slice none 0 0) := ⟨_, rfl⟩
  rw [← hV] at hlkk
  obtain ⟨OA, oc, rfl, hoc1, hoc2⟩ := hlkk.shape
  simp only [maxLen] at hoc2
  have b1 := (World.cell?_of_block (a := ⟨bx, 0, none⟩) (hB1.block bx hbl)).trans b0
  have g1 := (World.cell?_of_block (a := ⟨gb, 0, none⟩) (hB1.block gb hgl)).trans g0
  have hbn : W1.heap[w.heap.size]? = some (.cells #[.string k, .int .i64 u, .int .i64 n] 56) := by rw [hW1]; exact heap_alloc_new _ _
  have v0 := (cells_of (cs := [.string k, .int .i64 u, .int .i64 n]) hbn).1 0
  have v1 := (cells_of (cs := [.string k, .int .i64 u, .int .i64 n]) hbn).1 1
  have v2 := (cells_of (cs := [.string k, .int .i64 u, .int .i64 n]) hbn).1 2
  have hbb : bx < W1.heap.size := by omega
  have hgg : gb < W1.heap.size := by omega
  have hnn : w.heap.size < W1.heap.size := by omega
  have hui : (u : Int) < h.length := by omega
  have HR : Hid (badB h t ⟨k, u, n⟩ = (n != ((writes y k).length : Int))) := Lib.hid (by
    show (match h[u]? with | some x => decide (n ≠ (writes x k).length) | none => true) = _
    rw [hy]
    by_cases hq : n = (writes y k).length
    · simp [hq]
    · simp [hq])
  have HV := Lib.hid hV
  have HW1 := Lib.hid hW1
  have lk1 : (Instr.lookup 159 (.map (some mb)) (.string k) false).run Tryz.prog W1.drew = .ok (.slice OA (writes y k).length oc) W1.drew := by
    have := run_lookup_kmap kString Tryz.underlying159 (zero_slice_wrote W1.drew) (hL.keep (w' := W1.drew) rfl) k false
    rw [HV.out]
    exact this
  clear hy hv hg hbx hV hW1 hbn l1 hlk b0 g0
  go_enter Tryz.func103, Tryz.ntmps103
  go_upto_region 1 with (fail)
  rw [← HW1.out]
  go_wp2_with (with_reducible refine wp_region_free (by kernel_rfl) (fun _ _ => ?_))
  go_ret
  exact ⟨ret_bool (by rw [HR.out]), hB1.drew⟩
end Go.Proofs.YtooigfkjdemnlaaGreatDoor
