/- Own texts of this claim, joined in build order: H2. -/
import Derived.Test.YtooigfkjdemnlaaGreatDoorG31
import Derived.Test.YtooigfkjdemnlaaGreatDoorG33
set_option linter.all false
namespace Go.Proofs.YtooigfkjdemnlaaGreatDoor
set_option maxRecDepth 100000
open Go.RowKit Go.Lib Go.Sort Go.Shelf Xw

def MapN {K : Type} [DecidableEq K] (enc : K → Value) (w : World) (mb : Nat) (bf : K → Int) : Prop := ∃ L : List (K × Value), KMap enc w mb L ∧ ∀ x, (kget L x).getD (.int .i64 0) = .int .i64 (bf x)
section
variable {K : Type} [DecidableEq K] {enc : K → Value} {w w' : World} {mb : Nat} {bf : K → Int}
theorem MapN.keep (h : MapN enc w mb bf) (hk : w'.heap[mb]? = w.heap[mb]?) : MapN enc w' mb bf := let ⟨L, h1, h2⟩ := h; ⟨L, h1.keep hk, h2⟩
theorem MapN.lt (h : MapN enc w mb bf) : mb < w.heap.size := let ⟨L, h1, h2⟩ := h; h1.lt
theorem MapN.made (enc : K → Value) (w : World) : MapN enc (w.alloc (.map #[] 0)) w.heap.size (fun _ => 0) := ⟨[], KMap.made _ w, fun x => rfl⟩
end
theorem MapN.look {w : World} {mb : Nat} {bf : Int → Int} (h : MapN kInt.enc w mb bf) (x : Int) (W : World) (e : W.heap[mb]? = w.heap[mb]?) : (Instr.lookup 79 (.map (some mb)) (.int .i64 x) false).run Tryz.prog W = .ok (.int .i64 (bf x)) W := by
  obtain ⟨L, h1, h2⟩ := h
  have := run_lookup_kmap kInt Tryz.underlying79 (zero_int W) (h1.keep e) x false
  rw [← h2 x]
  exact this
theorem MapN.store {w : World} {mb : Nat} {bf : Int → Int} (h : MapN kInt.enc w mb bf) (x n : Int) : ∃ w6, (Instr.mapUpdate 79 (.map (some mb)) (.int .i64 x) (.int .i64 n)).run Tryz.prog w = .ok () w6 ∧ MapN kInt.enc w6 mb (fun y => if y = x then n else bf y) ∧ Chg (fun j => j = mb) w w6 := by
  obtain ⟨L, h1, h2⟩ := h
  obtain ⟨w6, hrun, hk, hc⟩ := run_store_kmap kInt Tryz.underlying79 h1 x (.int .i64 n)
  refine ⟨w6, hrun, ⟨_, hk, fun y => ?_⟩, hc⟩
  rw [kget_kset]
  by_cases hy : y = x
  · simp only [if_pos hy]; rfl
  · simp only [if_neg hy]; exact h2 y
def outLen (w : World) (b : Nat) : Nat := match w.heap[b]? with
  | some (.cells cs _ _) => lenOf (cs.getD 0 undef)
  | _ => 0
theorem outLen_of {w : World} {b n c : Nat} {A : Option Addr} {ty : TypeId} (h : w.heap[b]? = some (.cells #[.slice A n c] ty)) : outLen w b = n := by
  unfold outLen; rw [h]; rfl
theorem sl_some {w : World} {e : TypeId} {size n : Nat} {v : Value} {xs : List Value} {F : Nat → Prop} (h : Sl w e size v n xs F) (hn : 0 < n) : ∃ g off cap, v = .slice (some ⟨g, off, none⟩) n cap := by
  rcases h.2 with ⟨_, h1⟩ | ⟨g, off, cap, cur, h1, _⟩
  · omega
  · exact ⟨g, off, cap, h1⟩
def toN (es : List Edge) (s : Nat) (x : Int) : Nat := ((es.take s).filter fun e => decide (e.to = x)).length
theorem toN_le (es : List Edge) (s : Nat) (x : Int) : toN es s x ≤ s := by
  unfold toN
  have h1 := List.length_filter_le (fun e : Edge => decide (e.to = x)) (es.take s)
  have h2 := List.length_take (i := s) (l := es)
  omega
theorem toN_succ {es : List Edge} {s : Nat} {e : Edge} (he : es[s]? = some e) (x : Int) : toN es (s + 1) x = if x = e.to then toN es s x + 1 else toN es s x := by
  unfold toN
  rw [List.take_add_one, he, List.filter_append, List.length_append]
  by_cases hx : x = e.to
  · subst hx; simp
  · rw [if_neg hx]; simp [Ne.symm hx]
theorem toN_all (es : List Edge) (x : Int) : toN es es.length x = cntE es [] x := by
  unfold toN cntE
  rw [List.take_length]
  simp
theorem KahnI.bound {h : List HTx} {es : List Edge} {ol rd : List Int} {bf : Int → Int} {m : Int} {s : Nat} (K : KahnI h es ol rd bf m s) (x : Int) : 0 ≤ bf x ∧ bf x ≤ 2 * es.length := by
  have h1 := cntE_le es (ol ++ [m]) x
  have h2 := List.length_filter_le (fun e : Edge => decide (e.to = x)) ((es.filter fun e => decide (e.frm = m)).drop s)
  have h3 := List.length_filter_le (fun e : Edge => decide (e.frm = m)) es
  rw [List.length_drop] at h2
  rw [K.cnt x]
  omega
theorem eqTest_ (m u : Int) (tb : Nat) (ty : TypeId) (w : World) (hb : w.heap[tb]? = some (.cells #[.int .i64 m] ty)) : Calls Tryz.prog 27 #[.int .i64 u, .pointer (some ⟨tb, 0, none⟩)] w fun r w' => r = .returned (.bool (decide (u = m))) ∧ Below w.heap.size w w' := by
  have b0 := (cells_of (cs := [.int .i64 m]) hb).1 0
  have hlt := lt_of_heap hb
  clear hb
  by_cases hum : u = m
  · have hbq : (u == m) = true := by simp [hum]
    have HU := Lib.hid hum
    clear hum
    go_enter Tryz.func27, Tryz.ntmps27
    go_wp2
    go_ret
    exact ⟨ret_bool (by simp [HU.out]), Below.refl _ _⟩
  · have hbq : (u == m) = false := by simp [hum]
    have HU := Lib.hid hum
    clear hum
    go_enter Tryz.func27, Tryz.ntmps27
    go_wp2
    go_ret
    exact ⟨ret_bool (by simp [HU.out]), Below.refl _ _⟩
def SerialR (w : World) (ob : Nat) (h : List HTx) (e : Ending) (w' : World) : Prop :=
  ∃ f, e = faultEnd (.tuple #[]) f ∧ Chg (fun j => j = ob) w w' ∧ ∃ v, w'.heap[ob]? = some (.cells #[v] 34) ∧ ((f = none ∧ ∃ l : List Nat, Line h l ∧ RowsN w' w.heap.size 1 intC v (l.map fun (t : Nat) => (t : Int))) ∨ (f = some (143, 0, 0) ∧ ∃ e ∈ edgesOf h, e.to < e.frm))
set_option maxHeartbeats 16000000 in
theorem serial1_ {w : World} {lp ob : Nat} {h : List HTx} (hl : Led w w.heap.size lp h) (H : Fine h) (hob : w.heap[ob]? = some (.cells #[.slice none 0 0] 34)) :
    Calls Tryz.prog 23 #[.pointer (some ⟨lp, 0, none⟩), .pointer (some ⟨ob, 0, none⟩)] w (SerialR w ob h) := by
  have hmk : ∀ (t : TypeId) (w : World), (Instr.makeMap t none).run Tryz.prog w = .ok (.map (some w.heap.size)) (w.alloc (.map #[] 0)) := fun _ _ => rfl
  have hol := lt_of_heap hob
  have L := H.lim
  have hn := L.n
  have hesl := edgesOf_len L
  have hbd := Lib.hid (build_ hl L)
  have hec : ∀ e ∈ edgesOf h, EdgeC h e := fun e he => edge_com H he
  obtain ⟨ii, zi, j0, j1, j2, j3, j4⟩ := info_of int_info
  obtain ⟨es, hes⟩ : ∃ es, es = edgesOf h := ⟨_, rfl⟩
  rw [← hes] at hbd hesl hec
  have HES := Lib.hid hes
  have HEC := Lib.hid hec
  clear hes hec
  go_enter Tryz.func23, Tryz.ntmps23
  go_wp2_with (go_at_call 24; with_reducible refine hbd.out.mono ?_
               rintro e w1 ⟨gb, rfl, hG, hB⟩
               have hob1 := (hB.block ob hol).trans hob
               obtain ⟨hled, ⟨ev, gm, g1, hr, hm, hnew⟩, hgl⟩ := hG
               obtain ⟨EA, ec, rfl, hc1, hc2⟩ := hr.shape
               have hW2 : ∃ W2, W2 = w1.alloc (.map #[] 0) := ⟨_, rfl⟩
               have hzb := hB.size
               have q1 := (cells_of g1).1 1
               have HOB := Lib.hid hob1
               have HG1 := Lib.hid g1
               have HR := Lib.hid hr
               have HM := Lib.hid hm
               have HLED := Lib.hid hled
               clear hob1 g1 hr hm hled)
  obtain ⟨W2, hW2⟩ := hW2
  rw [← hW2]
  have hz2 : W2.heap.size = w1.heap.size + 1 := by rw [hW2]; simp
  have hB2 : Below w1.heap.size w1 W2 := by rw [hW2]; exact bel1 _ _
  have hM2 : MapN kInt.enc W2 w1.heap.size (fun _ => 0) := by rw [hW2]; exact MapN.made _ _
  have HM2 := Lib.hid hM2
  simp only [maxLen] at hc2
  clear hW2 hM2 q1
  go_loopw [6, 21] (fun _ i' wr => ∃ s : Nat, s ≤ es.length ∧ i' = .int .i64 s ∧ MapN kInt.enc wr w1.heap.size (fun x => (toN es s x : Int)) ∧ Chg (fun j => j = w1.heap.size) W2 wr) (fun _ i' _ => es.length - (intOf i').toNat)
  case atStart => exact ⟨0, by omega, rfl, by simpa [toN] using HM2.out, Chg.refl _ _⟩
  case round =>
    obtain ⟨s, hs, rfl, hM, hC⟩ := hrel
    have hz := hC.size
    have hlow : ∀ j, j < w1.heap.size → wr.heap[j]? = w1.heap[j]? := fun j hj => (hC.block j (by omega) (by omega)).trans (hB2.block j hj)
    by_cases hlt : s < es.length
    · obtain ⟨e, he⟩ : ∃ e, es[s]? = some e := ⟨_, List.getElem?_eq_getElem hlt⟩
      obtain ⟨b, o, c2, hq, hb, p0, p1, p2, p3⟩ := HR.out.get4 he (wr := wr) hlow rfl
      cases hq
      have hbr : b < wr.heap.size := by omega
      obtain ⟨W8, hW8⟩ : ∃ W8, W8 = wr.alloc (.cells #[.int .i64 e.frm, .int .i64 e.to, .int .i64 e.kind, .string e.key] 66) := ⟨_, rfl⟩
      have hB8 : Below wr.heap.size wr W8 := by rw [hW8]; exact bel1 _ _
      have hz8 : W8.heap.size = wr.heap.size + 1 := by rw [hW8]; simp
      have hbx : W8.heap[wr.heap.size]? = some (.cells #[.int .i64 e.frm, .int .i64 e.to, .int .i64 e.kind, .string e.key] 66) := by rw [hW8]; exact heap_alloc_new _ _
      have d1 := (cells_of (cs := [.int .i64 e.frm, .int .i64 e.to, .int .i64 e.kind, .string e.key]) hbx).1 1
      have hM8 := hM.keep (w' := W8) (hB8.block _ (by omega))
      obtain ⟨cN, hcN⟩ : ∃ cN, cN = toN es s e.to := ⟨_, rfl⟩
      have hcl := toN_le es s e.to
      have lk1 := hM8.look e.to W8 rfl
      rw [← hcN] at lk1 hcl
      have hw : IntKind.i64.wrap ((cN : Int) + 1) = (cN : Int) + 1 := by rw [IntKind.wrap_i64] <;> omega
      obtain ⟨w6, hrun6, hM6, hc6⟩ := hM8.store e.to ((cN : Int) + 1)
      have HE := Lib.hid he
      have HW8 := Lib.hid hW8
      have HCN := Lib.hid hcN
      have hwl : wr.heap.size < W8.heap.size := by omega
      clear he hW8 hcN hM8 hM hbx p0 p1 p2 p3
      obtain ⟨b', o', c2', hq', hb', p0, p1, p2, p3⟩ := HR.out.get4 HE.out (wr := wr) hlow rfl
      cases hq'
      go_upto_region 5 with (fail)
      rw [← HW8.out]
      go_wp2
      have hz6 := hc6.size
      refine ⟨⟨s + 1, by omega, by simp, ?_, ?_⟩, by simp [intOf]; omega⟩
      · have hfun : (fun x => ((toN es (s + 1) x : Nat) : Int)) = fun y => if y = e.to then (cN : Int) + 1 else (fun x => ((toN es s x : Nat) : Int)) y := by
          funext y
          rw [toN_succ HE.out, HCN.out]
          by_cases hy : y = e.to
          · simp [hy]
          · simp [hy]
        rw [hfun]
        exact hM6
      · have hc8 : Chg (fun _ => False) wr W8 := ⟨hB8.tape, hB8.os, hB8.output, hB8.size, fun b hb _ => hB8.block b hb⟩
        exact (hC.trans hc8 (fun _ _ f => f.elim)).trans hc6 (fun _ _ h => h)
    · obtain rfl : s = es.length := by omega
      have hMc : MapN kInt.enc wr w1.heap.size (fun x => (cntE es [] x : Int)) := by
        have hfun : (fun x => ((toN es es.length x : Nat) : Int)) = fun x => ((cntE es [] x : Nat) : Int) := funext fun x => by rw [toN_all]
        rw [← hfun]; exact hM
      obtain ⟨tv, wv, ob', kv, tyl, l1, l2, l3, l4, l5⟩ := HLED.out.ex
      have hlp := HLED.out.lt
      obtain ⟨TA, tc, rfl, ht1, ht2⟩ := Rows.shape l2
      simp only [maxLen] at ht2
      have t0 := (World.cell?_of_block (a := ⟨lp, 0, none⟩) (hlow lp hlp)).trans ((cells_of l1).1 0)
      have hlpr : lp < wr.heap.size := by omega
      have HLD := Lib.hid (HLED.out.keep hlow (by omega))
      have HMC := Lib.hid hMc
      have HLOW := Lib.hid hlow
      have hmbr : w1.heap.size < wr.heap.size := by omega
      clear l1 l2 l3 l4 l5 hM hMc hlow hlt
      obtain ⟨bf0, hbf0⟩ : ∃ bf0 : Int → Int, bf0 = fun x => (cntE es [] x : Int) := ⟨_, rfl⟩
      have HBF := Lib.hid hbf0
      rw [← hbf0] at HMC
      clear hbf0
      obtain ⟨wo, hwo⟩ : ∃ wo : World, wo = wr := ⟨_, rfl⟩
      subst hwo
      have HCo : Hid (Chg (fun j => j = ob) w1 wo) := Lib.hid (((Chg.of_below hB2).mono (G := fun j => j = ob) (fun j hj h => absurd h (by omega))).trans (hC.mono (G := fun j => w1.heap.size ≤ j) (fun j _ h => by omega)) (fun j hj h => absurd h (by omega)))
      clear hC
      go_wp2
      go_loopw [7, 8, 9, 37] (fun v' lf' _ i' wr => ∃ (t : Nat) (F : Nat → Prop), t ≤ h.length ∧ i' = .int .i64 t ∧ lf' = .int .i64 (leftN h t) ∧ Sl wr 3 1 v' (readyN h bf0 t).length ((readyN h bf0 t).flatMap intC) F ∧ (∀ j, F j → wo.heap.size ≤ j ∧ j < wr.heap.size) ∧ Chg (fun _ => False) wo wr) (fun _ _ _ i' _ => h.length - (intOf i').toNat)
      case atStart => exact ⟨0, fun _ => False, by omega, rfl, rfl, Sl.nil _ _ _ _, fun _ f => f.elim, Chg.refl _ _⟩
      case round =>
        obtain ⟨t, F, ht, rfl, rfl, hsl, hF, hC⟩ := hrel
        have hz3 := hC.size
        have hlow3 : ∀ j, j < wo.heap.size → wr.heap[j]? = wo.heap[j]? := fun j hj => hC.block j hj (fun f => f)
        obtain ⟨A, c, rfl, hca, hcb⟩ := hsl.shape
        simp only [maxLen] at hca
        have hll := (readyN_nodup (h := h) (bf := bf0) t).2
        have hlfl := leftN_le h t
        by_cases hlt : t < h.length
        · obtain ⟨x, hx⟩ : ∃ x, h[t]? = some x := ⟨_, List.getElem?_eq_getElem hlt⟩
          have hlr : Led wr w1.heap.size lp h := HLD.out.keep (fun j hj => hlow3 j (by omega)) (by omega)
          have hcm := Lib.hid (committed_ hlr t x hx)
          have HSL := Lib.hid hsl
          clear hsl hlr hx
          have hti : (t : Int) < h.length := by omega
          have hlw : IntKind.i64.wrap ((leftN h t : Int) + 1) = (leftN h t : Int) + 1 := by rw [IntKind.wrap_i64] <;> omega
          cases hct : com h t with
          | false =>
            have HL2 : Hid (leftN h (t + 1) = leftN h t) := Lib.hid (by rw [leftN_succ, hct]; simp)
            have HR2 : Hid (readyN h bf0 (t + 1) = readyN h bf0 t) := Lib.hid (by rw [readyN, if_neg (by rw [hct]; simp)])
            have HC := Lib.hid hct
            clear hct
            go_wp2_with (go_at_call 20; refine hcm.out.mono ?_; rw [HC.out]; rintro e w3 ⟨rfl, rfl⟩)
            refine ⟨⟨t + 1, F, by omega, by simp, by rw [HL2.out], by rw [HR2.out]; exact HSL.out, hF, hC⟩, by simp [intOf]; omega⟩
          | true =>
            have HC := Lib.hid hct
            have HL2 : Hid (leftN h (t + 1) = leftN h t + 1) := Lib.hid (by rw [leftN_succ, hct]; simp)
            have lk1 := HMC.out.look t wr (hlow3 _ hmbr)
            by_cases hb0 : bf0 t = 0
            · have hbq : (bf0 t == 0) = true := by simp [hb0]
              have HR2 : Hid (readyN h bf0 (t + 1) = readyN h bf0 t ++ [(t : Int)]) := Lib.hid (by rw [readyN, if_pos ⟨hct, hb0⟩])
              clear hct hb0
              go_wp2_with (first
                | (go_at_call 20; refine hcm.out.mono ?_; rw [HC.out]; rintro e w3 ⟨rfl, rfl⟩)
                | (refine wpList_append_sl _ rfl (.tmp 49) (.tmp 51) 34 rfl 3 ii zi 1 8 Tryz.underlying34 j0 j1 j2 j3 j4 (by omega) _ _ _ _ rfl (HSL.out.chg ((Chg.refl (fun _ => False) _).alloc _) (fun _ _ f => f)) _ _ 1 1 [.int .i64 t] rfl (reads_new _ _ 1 rfl _) (by intro u hu; simp at hu; subst hu; rfl) (by simp only [maxLen]; omega) (by omega) ?_
                   intro v4 w4 F4 hs4 hc4 hf4 hnz4
                   have HN4 := Lib.hid hnz4
                   clear hnz4))
              have hz4 := hc4.size
              have hza : (wr.alloc (.cells #[.int .i64 t] 3)).heap.size = wr.heap.size + 1 := by simp
              refine ⟨⟨t + 1, F4, by omega, by simp, by rw [HL2.out]; simp, ?_, fun j hj => ?_, ?_⟩, by simp [intOf]; omega⟩
              · rw [HR2.out, List.flatMap_append, List.length_append]
                simpa [intC] using hs4
              · rcases hf4 j hj with h | ⟨h, h'⟩
                · have := hF j h; omega
                · omega
              · have hal : Chg F wr w4 := (((Chg.refl (fun _ => False) wr).alloc _).mono (G := F) (fun _ _ f => f.elim)).trans hc4 (fun _ _ h => h)
                exact hC.trans (hal.mono (G := fun j => wo.heap.size ≤ j) (fun j _ h => (hF j h).1)) (fun j hj h => absurd h (by omega))
            · have hbq : (bf0 t == 0) = false := by simp [hb0]
              have HR2 : Hid (readyN h bf0 (t + 1) = readyN h bf0 t) := Lib.hid (by rw [readyN, if_neg (fun h => hb0 h.2)])
              clear hct hb0
              go_wp2_with (go_at_call 20; refine hcm.out.mono ?_; rw [HC.out]; rintro e w3 ⟨rfl, rfl⟩)
              refine ⟨⟨t + 1, F, by omega, by simp, by rw [HL2.out]; simp, by rw [HR2.out]; exact HSL.out, hF, hC⟩, by simp [intOf]; omega⟩
        · obtain rfl : t = h.length := by omega
          have hK := Kahn.start (h := h) (es := es) (bf := bf0) (fun x => by rw [HBF.out])
          have hMr := HMC.out.keep (hlow3 _ hmbr)
          have hobr := (hlow3 ob (by omega)).trans ((HLOW.out ob (by omega)).trans HOB.out)
          have hCr : Chg (fun j => j = ob) w1 wr := HCo.out.trans hC (fun _ _ f => f.elim)
          have HST := Lib.hid (And.intro hK (And.intro hMr (And.intro hobr (And.intro hsl hCr))))
          have HF := Lib.hid hF
          clear hK hMr hobr hsl hCr hF hlow3 hC hlt
          obtain ⟨wq, hwq⟩ : ∃ wq : World, wq = wr := ⟨_, rfl⟩
          subst hwq
          go_wp2
          go_loopw [7, 10, 12] (fun v' _ _ wr => ∃ (ol rd : List Int) (bf : Int → Int) (OA : Option Addr) (oc : Nat) (Frd Fol : Nat → Prop), Hid (Kahn h es ol rd bf) ∧ MapN kInt.enc wr w1.heap.size bf ∧ wr.heap[ob]? = some (.cells #[.slice OA ol.length oc] 34) ∧ Sl wr 3 1 (.slice OA ol.length oc) ol.length (ol.flatMap intC) Fol ∧
            Sl wr 3 1 v' rd.length (rd.flatMap intC) Frd ∧ Hid ((∀ j, Frd j → w1.heap.size < j ∧ j < wr.heap.size) ∧ (∀ j, Fol j → w1.heap.size < j ∧ j < wr.heap.size) ∧ ∀ j, Frd j → ¬ Fol j) ∧ Chg (fun j => j = ob) w1 wr ∧ W2.heap.size ≤ wr.heap.size) (fun _ _ _ wr => h.length - outLen wr ob)
          case atStart =>
            obtain ⟨a1, a2, a3, a4, a5⟩ := HST.out
            exact ⟨[], readyN h bf0 h.length, bf0, none, 0, F, fun _ => False, Lib.hid a1, a2, a3, Sl.nil _ _ _ _, a4, Lib.hid ⟨fun j hj => by have := HF.out j hj; omega, fun _ f => f.elim, fun _ _ f => f⟩, a5, by omega⟩
          case round =>
            obtain ⟨ol, rd, bf, OA, oc, Frd, Fol, HK, hM, hob', hso, hsr, HD, hCr, hzr⟩ := hrel
            have hkl := HK.out.len
            have hlfl := leftN_le h h.length
            have hobl := lt_of_heap hob'
            obtain ⟨_, _, hshape, hoc1, hoc2⟩ := hso.shape
            cases hshape
            simp only [maxLen] at hoc1
            have o0 := (cells_of (cs := [.slice OA ol.length oc]) hob').1 0
            by_cases hrd : rd = []
            · subst hrd
              obtain ⟨A5, c5, hv0, hc5, hn5⟩ := hsr.shape
              have hv1 : u7 = .slice A5 0 c5 := hv0
              clear hv0
              subst hv1
              have HO := Lib.hid (And.intro hob' (And.intro hso hCr))
              clear hob' hso hCr hsr
              by_cases hlt : ol.length < leftN h h.length
              · have hli : (ol.length : Int) < (leftN h h.length : Nat) := by omega
                have HB := Lib.hid (HK.out.back HEC.out hlt)
                clear hlt
                go_wp2
                exact ⟨rfl, some (143, 0, 0), rfl, ((Chg.of_below hB).mono (G := fun j => j = ob) (fun j hj h => absurd h (by omega))).trans HO.out.2.2 (fun _ _ h => h), _, HO.out.1, .inr ⟨rfl, by rw [← HES.out]; exact HB.out⟩⟩
              · have hli : ¬ (ol.length : Int) < (leftN h h.length : Nat) := by omega
                have HL : Hid (∃ l : List Nat, ol = l.map (fun (t : Nat) => (t : Int)) ∧ Line h l) := Lib.hid (by
                  have := HK.out
                  rw [HES.out] at this
                  exact this.line H hlt)
                clear hlt
                go_wp2
                go_end0
                obtain ⟨l, hl1, hl2⟩ := HL.out
                obtain ⟨h1, h2, h3⟩ := HO.out
                refine ⟨none, rfl, ((Chg.of_below hB).mono (G := fun j => j = ob) (fun j hj h => absurd h (by omega))).trans h3 (fun _ _ h => h), _, h1, .inl ⟨rfl, l, hl2, ?_, fun a n c hv => ?_⟩⟩
                · rw [← hl1]; exact Rows.of_sl (enc := intC) (fun _ => rfl) h2 (Nat.le_refl _)
                · rcases h2.2 with ⟨h4, _⟩ | ⟨g', off', cap', cur', h4, hF', _⟩
                  · rw [h4] at hv; cases hv
                  · rw [h4] at hv; cases hv; have := HD.out.2.1 _ hF'; simp only; omega
            · have hpos : 0 < rd.length := List.length_pos_iff.2 hrd
              have hpi : (0 : Int) < rd.length := by omega
              obtain ⟨g, off, cap, rfl⟩ := sl_some hsr hpos
              obtain ⟨hgr0, hgF, hgc1, hgc2, _⟩ := sl_block (enc := intC) hsr
              have hgD := HD.out.1 g hgF
              have hmin := Lib.hid (minI_ hsr hrd)
              have HSR := Lib.hid hsr
              have HSO := Lib.hid hso
              have HOB' := Lib.hid hob'
              have HM1 := Lib.hid hM
              have HCR := Lib.hid hCr
              have hzc := hCr.size
              clear hsr hso hob' hM hCr hrd
              go_upto_region 19 with (go_at_call 25; with_reducible refine hmin.out.mono ?_; rintro e w2 ⟨m, rfl, hmem, hmle, hB2'⟩)
              obtain ⟨W5, hW5⟩ : ∃ W5, W5 = w2.alloc (.cells #[.int .i64 m] 3) := ⟨_, rfl⟩
              rw [← hW5]
              have hz2' := hB2'.size
              have hz5 : W5.heap.size = w2.heap.size + 1 := by rw [hW5]; simp
              have hB25 : Below w2.heap.size w2 W5 := by rw [hW5]; exact bel1 _ _
              have hb5 : W5.heap[w2.heap.size]? = some (.cells #[.int .i64 m] 3) := by rw [hW5]; exact heap_alloc_new _ _
              have hc5 : Chg (fun _ => False) wr W5 := by
                have hq : Below wr.heap.size wr W5 := hB2'.trans (hB25.mono (by omega))
                exact ⟨hq.tape, hq.os, hq.output, hq.size, fun b hb _ => hq.block b hb⟩
              have hs5 := HSR.out.chg hc5 (fun _ _ f => f)
              have hdel := Lib.hid (deleteI_ (tb := w2.heap.size) hs5 27 #[.pointer (some ⟨w2.heap.size, 0, none⟩)] (fun u => decide (u = m)) (enters_of Tryz.func27 (by kernel_rfl) rfl) (by omega) (by omega)
                (fun u W hW hlt => eqTest_ m u w2.heap.size _ W (hW.trans hb5)) (by omega))
              have hmf : ∀ (fn : Fn) (first cap : Array Value) (w : World), (Instr.makeFunc fn first cap).run Tryz.prog w = .ok (.func fn first cap) w := fun _ _ _ _ => rfl
              obtain ⟨rd1, hrd1⟩ : ∃ rd1, rd1 = rd.filter (fun u => !decide (u = m)) := ⟨_, rfl⟩
              have HTK : Hid (KahnI h es ol rd1 bf m 0) := Lib.hid (by rw [hrd1]; exact HK.out.take hmem)
              rw [← hrd1] at hdel
              have hrl : rd1.length ≤ rd.length := by rw [hrd1]; exact List.length_filter_le _ _
              have HB5 := Lib.hid hb5
              have HC5 := Lib.hid hc5
              clear hW5 hs5 hrd1 hb5 hc5 hmle hmem hB2' hB25
              go_upto_region 21 with (first
                | (go_at_call 26; with_reducible refine hdel.out.mono ?_
                   rintro e w3 ⟨rfl, hs3, hc3⟩
                   have hz3' := hc3.size
                   have ho3 := (hc3.block ob (by omega) (by omega)).trans ((HC5.out.block ob (by omega) (fun f => f)).trans HOB'.out)
                   have k0 := (cells_of (cs := [.slice OA ol.length oc]) ho3).1 0
                   have k1 := (cells_of (cs := [.slice OA ol.length oc]) ho3).2 0
                   have hb3 := (hc3.block w2.heap.size (by omega) (by omega)).trans HB5.out
                   have k2 := (cells_of (cs := [.int .i64 m]) hb3).1 0
                   have hi1 : ob < w3.heap.size := by omega
                   have hi2 : w2.heap.size < w3.heap.size := by omega
                   have HS3 := Lib.hid hs3
                   have HC3 := Lib.hid hc3
                   have HO3 := Lib.hid ho3
                   have HB3 := Lib.hid hb3
                   have HSO3 := Lib.hid ((HSO.out.chg HC5.out (fun _ _ f => f)).chg hc3 (fun j hj e => HD.out.2.2 g hgF (e ▸ hj)))
                   clear hs3 hc3 ho3 hb3)
                | (refine wpList_append_sl _ rfl (.tmp 62) (.tmp 64) 34 rfl 3 ii zi 1 8 Tryz.underlying34 j0 j1 j2 j3 j4 (by omega) _ _ _ _ rfl (HSO3.out.chg ((Chg.refl (fun _ => False) _).alloc _) (fun _ _ f => f)) _ _ 1 1 [.int .i64 m] rfl (reads_new _ _ 1 rfl _) (by intro u hu; simp at hu; subst hu; rfl) (by simp only [maxLen]; omega) (by omega) ?_
                   intro v4 w4 F4 hs4 hc4 hf4 hnz4
                   obtain ⟨A4, c4, rfl, hc4a, hc4b⟩ := hs4.shape
                   simp only [maxLen] at hc4a
                   have hal : Chg Fol w3 w4 := (((Chg.refl (fun _ => False) w3).alloc _).mono (G := Fol) (fun _ _ f => f.elim)).trans hc4 (fun _ _ h => h)
                   have ho4 := (hal.block ob hi1 (fun h => by have := HD.out.2.1 _ h; omega)).trans HO3.out
                   have n0 := (cells_of (cs := [.slice OA ol.length oc]) ho4).1 0
                   have n1 := (cells_of (cs := [.slice OA ol.length oc]) ho4).2 0
                   have hi4 : ob < w4.heap.size := by have := hal.size; omega
                   have HO4 := Lib.hid ho4
                   have HN4 := Lib.hid hnz4
                   have HS4 := Lib.hid hs4
                   have HF4 := Lib.hid hf4
                   clear hnz4 ho4 hs4 hf4))
              obtain ⟨W6, hW6⟩ : ∃ W6, W6 = w4.setCell ⟨ob, 0, none⟩ (.slice A4 (ol.length + 1) c4) := ⟨_, rfl⟩
              rw [← hW6]
              have hz4 := hal.size
              have hc6 : Chg (fun j => j = ob) w4 W6 := by rw [hW6]; exact (Chg.refl _ _).setCell _ _ (fun _ => rfl)
              have hz6 := hc6.size
              have ho6 : W6.heap[ob]? = some (.cells #[.slice A4 (ol ++ [m]).length c4] 34) := by
                rw [hW6]
                simpa using heap_setCell_same (i := 0) (v := .slice A4 (ol.length + 1) c4) HO4.out
              have hD := HD.out
              have hF4 : ∀ j, F4 j → (Fol j ∨ w3.heap.size ≤ j) ∧ j < w4.heap.size := fun j hj => by
                have h4 := hc4.size
                have hza : (w3.alloc (.cells #[.int .i64 m] 3)).heap.size = w3.heap.size + 1 := by simp
                rcases HF4.out j hj with h | ⟨h, h'⟩
                · have := hD.2.1 j h; exact ⟨.inl h, by omega⟩
                · exact ⟨.inr (by omega), h'⟩
              have hs6 : Sl W6 3 1 (.slice A4 (ol ++ [m]).length c4) (ol ++ [m]).length ((ol ++ [m]).flatMap intC) F4 := by
                have h1 := HS4.out.chg hc6 (fun j hj e => by
                  rcases (hF4 j hj).1 with h | h
                  · have := hD.2.1 j h; omega
                  · omega)
                rw [List.length_append, List.flatMap_append]
                simpa [intC] using h1
              -- from wr to W6
              have hc56 : Chg (fun j => j = ob ∨ j = g ∨ Fol j) wr W6 :=
                (((HC5.out.mono (G := fun j => j = ob ∨ j = g ∨ Fol j) (fun _ _ f => f.elim)).trans HC3.out (fun j hj h => .inr (.inl h))).trans hal (fun j hj h => .inr (.inr h))).trans hc6 (fun j hj h => .inl h)
              have hc16 : Chg (fun j => j = ob) w1 W6 := HCR.out.trans hc56 (fun j hj h => by
                rcases h with h | h | h
                · exact h
                · omega
                · have := hD.2.1 j h; omega)
              have hlow6 : ∀ j, j < w1.heap.size → j ≠ ob → W6.heap[j]? = w1.heap[j]? := fun j hj hn => hc16.block j hj hn
              have hM6 := HM1.out.keep (w' := W6) (hc56.block _ (by omega) (by
                rintro (h | h | h)
                · omega
                · omega
                · have := hD.2.1 _ h; omega))
              have hsr6 : Sl W6 3 1 (.slice (some ⟨g, off, none⟩) rd1.length cap) rd1.length (rd1.flatMap intC) Frd := by
                refine (HS3.out.chg hal (fun j hj h => hD.2.2 j hj h)).chg hc6 (fun j hj h => ?_)
                have := hD.1 j hj; omega
              have hbut : But w1 W6 w1.heap.size ob := ⟨hlow6, ⟨_, _, HOB.out, odd_slice _ _ _⟩⟩
              have hgrow := hbut.mapOfK HM.out (fun x => ⟨_, rfl, nodd_int⟩)
              obtain ⟨Lo, hLo, hlk⟩ := hgrow.look
              have hlkm := hlk m
              obtain ⟨V, hV⟩ : ∃ V, V = (kget Lo m).getD (.slice none 0 0) := ⟨_, rfl⟩
              rw [← hV] at hlkm
              obtain ⟨fl, hfl⟩ : ∃ fl, fl = es.filter fun e => decide (e.frm = m) := ⟨_, rfl⟩
              rw [← hfl] at hlkm
              have hfll : fl.length ≤ es.length := by rw [hfl]; exact List.length_filter_le _ _
              obtain ⟨VA, vc, rfl, hvc1, hvc2⟩ := hlkm.shape
              simp only [maxLen] at hvc2
              have lk1 : (Instr.lookup 93 (.map (some gm)) (.int .i64 m) false).run Tryz.prog W6.drew = .ok (.slice VA fl.length vc) W6.drew := by
                have := run_lookup_kmap kInt Tryz.underlying93 (zero_slice_edge W6.drew) (hLo.keep (w' := W6.drew) rfl) m false
                rw [hV]
                exact this
              have hgbo : gb ≠ ob := by
                rintro rfl
                have := HG1.out
                rw [HOB.out] at this; cases this
              have g2 := (World.cell?_of_block (a := ⟨gb, 2, none⟩) (hlow6 gb hgl hgbo)).trans ((cells_of HG1.out).1 2)
              have hb6 := (hc6.block w2.heap.size (by omega) (by omega)).trans ((hal.block w2.heap.size (by omega) (fun h => by have := hD.2.1 _ h; omega)).trans HB3.out)
              have b6 := (cells_of (cs := [.int .i64 m]) hb6).1 0
              have hi6 : gb < W6.heap.size := by omega
              have hi7 : w2.heap.size < W6.heap.size := by omega
              have HLKM := Lib.hid hlkm
              have HFL := Lib.hid hfl
              have H6 := Lib.hid (And.intro ho6 (And.intro hs6 (And.intro hc16 (And.intro hM6 hsr6))))
              have HF4' := Lib.hid hF4
              have HOL := Lib.hid (outLen_of HOB'.out)
              clear hW6 ho6 hs6 hc56 hc16 hM6 hsr6 hbut hgrow hLo hlk hlkm hV hfl hb6 hF4 hc6 hlow6
              obtain ⟨wp, hwp⟩ : ∃ wp : World, wp = wr := ⟨_, rfl⟩
              subst hwp
              go_wp2_with (with_reducible refine wp_region_free (by kernel_rfl) (fun _ _ => ?_))
              go_loopw [7, 12, 73] (fun v' _ i' wr2 => ∃ (s : Nat) (rd2 : List Int) (bf2 : Int → Int) (F2 : Nat → Prop), s ≤ fl.length ∧ i' = .int .i64 s ∧ Hid (KahnI h es ol rd2 bf2 m s) ∧ MapN kInt.enc wr2 w1.heap.size bf2 ∧ Sl wr2 3 1 v' rd2.length (rd2.flatMap intC) F2 ∧ Hid (∀ j, F2 j → (Frd j ∨ W6.heap.size ≤ j) ∧ j < wr2.heap.size) ∧ Chg (fun j => j = w1.heap.size ∨ Frd j) W6 wr2) (fun _ _ i' _ => fl.length - (intOf i').toNat)
              case atStart =>
                obtain ⟨a1, a2, a3, a4, a5⟩ := H6.out
                exact ⟨0, rd1, bf, Frd, by omega, rfl, HTK, a4.keep rfl, a5.keep (fun _ _ _ => rfl), Lib.hid (fun j hj => ⟨.inl hj, by have := hD.1 j hj; show j < W6.heap.size; omega⟩), (Chg.refl _ _).drew⟩
              case round =>
                obtain ⟨s, rd2, bf2, F2, hs, rfl, HKI, hM, hsr, HF2, hC⟩ := hrel
                have hzc2 := hC.size
                have hlow7 : ∀ j, j < w1.heap.size → wr.heap[j]? = W6.heap[j]? := fun j hj => hC.block j (by omega) (by
                  rintro (h | h)
                  · omega
                  · have := hD.1 j h; omega)
                obtain ⟨A5, c5, rfl, hc5a, hc5b⟩ := hsr.shape
                simp only [maxLen] at hc5a
                by_cases hlt : s < fl.length
                · obtain ⟨e, he⟩ : ∃ e, fl[s]? = some e := ⟨_, List.getElem?_eq_getElem hlt⟩
                  obtain ⟨b, o, c2, hq, hb, p0, p1, p2, p3⟩ := HLKM.out.get4 he (wr := wr) hlow7 rfl
                  cases hq
                  have hbr : b < wr.heap.size := by omega
                  obtain ⟨W8, hW8⟩ : ∃ W8, W8 = wr.alloc (.cells #[.int .i64 e.frm, .int .i64 e.to, .int .i64 e.kind, .string e.key] 66) := ⟨_, rfl⟩
                  have hB8 : Below wr.heap.size wr W8 := by rw [hW8]; exact bel1 _ _
                  have hz8 : W8.heap.size = wr.heap.size + 1 := by rw [hW8]; simp
                  have hc8 : Chg (fun _ => False) wr W8 := ⟨hB8.tape, hB8.os, hB8.output, hB8.size, fun b hb _ => hB8.block b hb⟩
                  have hbx : W8.heap[wr.heap.size]? = some (.cells #[.int .i64 e.frm, .int .i64 e.to, .int .i64 e.kind, .string e.key] 66) := by rw [hW8]; exact heap_alloc_new _ _
                  have d1 := (cells_of (cs := [.int .i64 e.frm, .int .i64 e.to, .int .i64 e.kind, .string e.key]) hbx).1 1
                  have hM8 := hM.keep (w' := W8) (hB8.block _ (by omega))
                  have het := he
                  rw [HFL.out] at het
                  obtain ⟨hpos1, hstep⟩ := HKI.out.step HEC.out het
                  have hbnd := HKI.out.bound e.to
                  have hrl2 : rd2.length ≤ h.length := by
                    have h1 := nodup_len rd2 ((List.range h.length).map (fun (t : Nat) => (t : Int))) (List.nodup_append.1 HKI.out.nd).2.1 (fun x hx => by
                      obtain ⟨t, rfl, hc⟩ := HKI.out.cm x (List.mem_append_right _ hx)
                      exact List.mem_map_of_mem (f := fun (t : Nat) => (t : Int)) (List.mem_range.2 (com_lt hc)))
                    simpa using h1
                  obtain ⟨cI, hcI⟩ : ∃ cI, cI = bf2 e.to := ⟨_, rfl⟩
                  have lk2 := hM8.look e.to W8 rfl
                  rw [← hcI] at lk2 hpos1 hbnd hstep
                  have hw : IntKind.i64.wrap (cI - 1) = cI - 1 := by rw [IntKind.wrap_i64] <;> omega
                  obtain ⟨w7, hrun7, hM7, hc7⟩ := hM8.store e.to (cI - 1)
                  have hz7 := hc7.size
                  have lk3 := hM7.look e.to w7 rfl
                  simp only [if_true] at lk3
                  have d2 := (World.cell?_of_block (a := ⟨wr.heap.size, 1, none⟩) (hc7.block wr.heap.size (by omega) (by omega))).trans d1
                  have hwl : wr.heap.size < W8.heap.size := by omega
                  have hwl7 : wr.heap.size < w7.heap.size := by omega
                  have hs7 := (hsr.chg hc8 (fun _ _ f => f)).chg hc7 (fun j hj e => by
                    rcases (HF2.out j hj).1 with h | h
                    · have := hD.1 j h; omega
                    · omega)
                  have HS7 := Lib.hid hs7
                  have HM7 := Lib.hid hM7
                  have HSTEP := Lib.hid hstep
                  have HW8 := Lib.hid hW8
                  have HC7 : Hid (Chg (fun j => j = w1.heap.size) wr w7) := Lib.hid ((hc8.mono (fun _ _ f => f.elim)).trans hc7 (fun _ _ h => h))
                  clear he hW8 hM8 hM hbx het hs7 hM7 hstep hcI hsr
                  by_cases h0 : cI - 1 = 0
                  · have hbq : (cI - 1 == 0) = true := by simp [h0]
                    have hst2 := HSTEP.out
                    rw [if_pos h0] at hst2
                    have HST2 := Lib.hid hst2
                    clear hst2 h0
                    go_upto_region 24 with (fail)
                    rw [← HW8.out]
                    go_wp2_with (
                      refine wpList_append_sl _ rfl (.tmp 87) (.tmp 90) 34 rfl 3 ii zi 1 8 Tryz.underlying34 j0 j1 j2 j3 j4 (by omega) _ _ _ _ rfl (HS7.out.chg ((Chg.refl (fun _ => False) _).alloc _) (fun _ _ f => f)) _ _ 1 1 [.int .i64 e.to] rfl (reads_new _ _ 1 rfl _) (by intro u hu; simp at hu; subst hu; rfl) (by simp only [maxLen]; omega) (by omega) ?_
                      intro v9 w9 F9 hs9 hc9 hf9 hnz9
                      have HN9 := Lib.hid hnz9
                      clear hnz9)
                    have hal9 : Chg F2 w7 w9 := (((Chg.refl (fun _ => False) w7).alloc _).mono (G := F2) (fun _ _ f => f.elim)).trans hc9 (fun _ _ h => h)
                    have hz9 := hc9.size
                    have hza9 : (w7.alloc (.cells #[.int .i64 e.to] 3)).heap.size = w7.heap.size + 1 := by simp
                    refine ⟨⟨s + 1, rd2 ++ [e.to], _, F9, by omega, by simp, HST2, HM7.out.keep (hal9.block _ (by omega) (fun h => ?_)), ?_, Lib.hid (fun j hj => ?_), ?_⟩, by simp [intOf]; omega⟩
                    · rcases (HF2.out _ h).1 with h | h
                      · have := hD.1 _ h; omega
                      · omega
                    · rw [List.length_append, List.flatMap_append]
                      simpa [intC] using hs9
                    · rcases hf9 j hj with h | ⟨h, h'⟩
                      · have := HF2.out j h; exact ⟨this.1, by omega⟩
                      · exact ⟨.inr (by omega), h'⟩
                    · exact (hC.trans HC7.out (fun j hj h => .inl h)).trans hal9 (fun j hj h => by
                        rcases (HF2.out j h).1 with h | h
                        · exact .inr h
                        · omega)
                  · have hbq : (cI - 1 == 0) = false := by simp [h0]
                    have hst2 := HSTEP.out
                    rw [if_neg h0] at hst2
                    have HST2 := Lib.hid hst2
                    clear hst2 h0
                    go_upto_region 24 with (fail)
                    rw [← HW8.out]
                    go_wp2
                    exact ⟨⟨s + 1, rd2, _, F2, by omega, by simp, HST2, HM7.out, HS7.out, Lib.hid (fun j hj => ⟨(HF2.out j hj).1, by have := (HF2.out j hj).2; omega⟩), hC.trans HC7.out (fun j hj h => .inl h)⟩, by simp [intOf]; omega⟩
                · obtain rfl : s = fl.length := by omega
                  obtain ⟨a1, a2, a3, a4, a5⟩ := H6.out
                  have hho := (hlow7 ob (by omega)).trans a1
                  have hkd : Kahn h es (ol ++ [m]) rd2 bf2 := KahnI.done (by rw [← HFL.out]; exact HKI.out)
                  have hso2 := a2.chg hC (fun j hj h => by
                    have h4 := HF4'.out j hj
                    rcases h with h | h
                    · rcases h4.1 with h5 | h5
                      · have := hD.2.1 j h5; omega
                      · omega
                    · have h6 := hD.1 j h
                      rcases h4.1 with h5 | h5
                      · exact hD.2.2 j h h5
                      · omega)
                  have hchg : Chg (fun j => j = ob) w1 wr := a3.trans hC (fun j hj h => by
                    rcases h with h | h
                    · omega
                    · have := hD.1 j h; omega)
                  have hmeas : outLen wr ob = ol.length + 1 := by rw [outLen_of hho]; simp
                  have HX := Lib.hid (And.intro hho (And.intro hkd (And.intro hso2 (And.intro hchg hmeas))))
                  have HSRl := Lib.hid hsr
                  clear a1 a2 a3 a4 a5 hho hkd hso2 hchg hmeas hsr
                  go_wp2
                  obtain ⟨hho, hkd, hso2, hchg, hmeas⟩ := HX.out
                  refine ⟨⟨ol ++ [m], rd2, bf2, A4, c4, F2, F4, Lib.hid hkd, hM, hho, hso2, HSRl.out, Lib.hid ⟨fun j hj => ?_, fun j hj => ?_, fun j hj h4 => ?_⟩, hchg, by omega⟩, ?_⟩
                  · have h1 := HF2.out j hj
                    refine ⟨?_, h1.2⟩
                    rcases h1.1 with h | h
                    · exact (hD.1 j h).1
                    · omega
                  · have h4 := HF4'.out j hj
                    refine ⟨?_, by omega⟩
                    rcases h4.1 with h | h
                    · exact (hD.2.1 j h).1
                    · omega
                  · have h1 := HF2.out j hj
                    have h5 := HF4'.out j h4
                    rcases h1.1 with h | h
                    · rcases h5.1 with h6 | h6
                      · exact hD.2.2 j h h6
                      · have := hD.1 j h; omega
                    · omega
                  · show h.length - outLen wr ob < h.length - outLen wp ob
                    rw [hmeas, HOL.out]
                    omega
end Go.Proofs.YtooigfkjdemnlaaGreatDoor
