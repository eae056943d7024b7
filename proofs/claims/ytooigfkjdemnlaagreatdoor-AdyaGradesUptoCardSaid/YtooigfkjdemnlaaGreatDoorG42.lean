/- Own texts of this claim, joined in build order: V4, V5, J2. -/
import Derived.Test.YtooigfkjdemnlaaGreatDoorG36
import Derived.Test.YtooigfkjdemnlaaGreatDoorG33
set_option linter.all false
namespace Go.Proofs.YtooigfkjdemnlaaGreatDoor
set_option maxRecDepth 100000
open Go.RowKit Go.Lib Go.Sort Go.Shelf Xw

def OrderL (h : List HTx) (ord : List Int) (l : List Nat) : Prop := ord = l.map (fun (t : Nat) => (t : Int)) ∧ l.Nodup ∧ ∀ t, t ∈ l ↔ com h t = true
def OrdN (h : List HTx) (ord : List Int) (i : Nat) : Prop := (∀ a ∈ ord.take i, ∃ t : Nat, a = t ∧ com h t = true) ∧ (ord.take i).Nodup
theorem OrderL.mem {h : List HTx} {ord : List Int} {l : List Nat} (H : OrderL h ord l) {a : Int} (ha : a ∈ ord) : ∃ t : Nat, a = t ∧ com h t = true := by
  rw [H.1] at ha
  obtain ⟨t, ht, rfl⟩ := List.mem_map.1 ha
  exact ⟨t, rfl, (H.2.2 t).1 ht⟩
theorem OrderL.nodup {h : List HTx} {ord : List Int} {l : List Nat} (H : OrderL h ord l) : ord.Nodup := by
  rw [H.1]
  exact List.Pairwise.map _ (fun a b hab e => hab (by omega)) H.2.1
theorem OrdN.done {h : List HTx} {ord : List Int} (H : OrdN h ord ord.length) (hall : ∀ t : Nat, com h t = true → (t : Int) ∈ ord) : ∃ l, OrderL h ord l := by
  obtain ⟨h1, h2⟩ := H
  rw [List.take_length] at h1 h2
  have he : ord = (ord.map Int.toNat).map (fun (t : Nat) => (t : Int)) := by
    rw [List.map_map]
    conv => lhs; rw [← List.map_id ord]
    apply List.map_congr_left
    intro x hx
    obtain ⟨t, rfl, _⟩ := h1 x hx
    simp
  refine ⟨ord.map Int.toNat, he, ?_, fun t => ⟨fun ht => ?_, fun ht => ?_⟩⟩
  · rw [he] at h2
    exact List.Pairwise.of_map _ (fun a b hab e => hab (by rw [e])) h2
  · obtain ⟨x, hx, rfl⟩ := List.mem_map.1 ht
    obtain ⟨t, rfl, hc⟩ := h1 x hx
    simpa using hc
  · exact List.mem_map.2 ⟨t, hall t ht, by simp⟩
theorem not_ordered_dup {h : List HTx} {ord : List Int} {i : Nat} {a : Int} (ha : ord[i]? = some a) (hm : a ∈ ord.take i) : ¬ ∃ l, OrderL h ord l := fun ⟨l, H⟩ => by
  obtain ⟨j, hj⟩ := List.mem_iff_getElem?.1 hm
  have hjl := (List.getElem?_eq_some_iff.1 hj).1
  rw [List.length_take] at hjl
  rw [List.getElem?_take, if_pos (by omega)] at hj
  have := (List.getElem?_inj (List.getElem?_eq_some_iff.1 hj).1 H.nodup).1 (hj.trans ha.symm)
  omega
def seenF (ord : List Int) (i : Nat) (a : Int) : Int := if a ∈ ord.take i then 1 else 0
theorem seenF_succ {ord : List Int} {i : Nat} {a : Int} (ha : ord[i]? = some a) (y : Int) : seenF ord (i + 1) y = if y = a then 1 else seenF ord i y := by
  unfold seenF
  rw [List.take_add_one, ha]
  by_cases hy : y = a
  · rw [if_pos hy, if_pos (by simp [hy])]
  · rw [if_neg hy]
    have : y ∈ ord.take i ++ (some a).toList ↔ y ∈ ord.take i := by simp [hy]
    by_cases hm : y ∈ ord.take i
    · rw [if_pos hm, if_pos (this.2 hm)]
    · rw [if_neg hm, if_neg (fun h => hm (this.1 h))]
def ReplayN (h : List HTx) (l : List Nat) (n : Nat) : Prop := ∀ m, m < n → ∀ t x i o, l[m]? = some t → h[t]? = some x → x.ops[i]? = some o → o.kind ≠ 2 → SameP (applyN x t (stAt h l m) i) o
def ReplayR (w : World) (fbk : Nat) (h : List HTx) (ord : List Int) (e : Ending) (w' : World) : Prop :=
  ∃ f, e = faultEnd (.tuple #[]) f ∧ Chg (fun j => j = fbk) w w' ∧ ∃ b, w'.heap[fbk]? = some (.cells #[.bool b] 4) ∧ ((f = some (144, 0, 0) ∧ ¬ ∃ l, OrderL h ord l) ∨ (f = none ∧ ∃ l, OrderL h ord l ∧ (b = true ↔ ReplayOK h l)))
set_option maxHeartbeats 16000000 in
theorem replay1_ {w : World} {lp ocb fbk ocap : Nat} {h : List HTx} {OA : Option Addr} {ord : List Int} {ty1 : TypeId} (hl : Led w w.heap.size lp h) (H : Fine h) (hoc : w.heap[ocb]? = some (.cells #[.slice OA ord.length ocap] ty1))
    (hro : Rows w w.heap.size 1 (Flat intC) (.slice OA ord.length ocap) ord) (hfb : w.heap[fbk]? = some (.cells #[.bool true] 4)) :
    Calls Tryz.prog 19 #[.pointer (some ⟨lp, 0, none⟩), .pointer (some ⟨ocb, 0, none⟩), .pointer (some ⟨fbk, 0, none⟩)] w (ReplayR w fbk h ord) := by
  have hmk : ∀ (t : TypeId) (w : World), (Instr.makeMap t none).run Tryz.prog w = .ok (.map (some w.heap.size)) (w.alloc (.map #[] 0)) := fun _ _ => rfl
  have hmf : ∀ (fn : Fn) (first cap : Array Value) (w : World), (Instr.makeFunc fn first cap).run Tryz.prog w = .ok (.func fn first cap) w := fun _ _ _ _ => rfl
  have L := H.lim
  have hn := L.n
  have hocl := lt_of_heap hoc
  have hfbl := lt_of_heap hfb
  have hne : ocb ≠ fbk := by
    rintro rfl
    rw [hoc] at hfb; cases hfb
  obtain ⟨_, _, hsh, hoc1, hoc2⟩ := hro.shape
  cases hsh
  simp only [maxLen] at hoc2
  obtain ⟨tv, wv, ob', kv, tyl, l1, l2, l3, l4, l5⟩ := hl.ex
  have hlp := hl.lt
  obtain ⟨TA, tc, rfl, ht1, ht2⟩ := Rows.shape l2
  simp only [maxLen] at ht2
  obtain ⟨W1, hW1⟩ : ∃ W1, W1 = w.alloc (.map #[] 0) := ⟨_, rfl⟩
  have hB1 : Below w.heap.size w W1 := by rw [hW1]; exact bel1 _ _
  have hz1 : W1.heap.size = w.heap.size + 1 := by rw [hW1]; simp
  have hM1 : MapN kInt.enc W1 w.heap.size (fun _ => 0) := by rw [hW1]; exact MapN.made _ _
  have o1 := (World.cell?_of_block (a := ⟨ocb, 0, none⟩) (hB1.block ocb hocl)).trans ((cells_of (cs := [.slice OA ord.length ocap]) hoc).1 0)
  have hol1 : ocb < W1.heap.size := by omega
  have HW1 := Lib.hid hW1
  have HM1 := Lib.hid hM1
  have HL := Lib.hid (And.intro hl (And.intro hoc (And.intro hfb l1)))
  have HRO := Lib.hid hro
  clear hW1 hM1 hl hoc hfb hro l1 l2 l3 l4 l5
  go_enter Tryz.func19, Tryz.ntmps19
  go_upto_region 1 with (fail)
  rw [← HW1.out]
  go_wp2
  go_loopw [6, 14] (fun _ i' wr => ∃ i : Nat, i ≤ ord.length ∧ i' = .int .i64 i ∧ MapN kInt.enc wr w.heap.size (seenF ord i) ∧ Hid (OrdN h ord i) ∧ Chg (fun j => j = w.heap.size) W1 wr) (fun _ i' _ => ord.length - (intOf i').toNat)
  case atStart => exact ⟨0, by omega, rfl, by rw [show seenF ord 0 = fun _ => 0 from funext fun k => by simp [seenF]]; exact HM1.out, Lib.hid ⟨by simp, by simp⟩, Chg.refl _ _⟩
  case round =>
    obtain ⟨i, hi, rfl, hM, HO, hC⟩ := hrel
    have hz := hC.size
    have hlow : ∀ j, j < w.heap.size → wr.heap[j]? = w.heap[j]? := fun j hj => (hC.block j (by omega) (by omega)).trans (hB1.block j hj)
    have hlr : Led wr w.heap.size lp h := HL.out.1.keep hlow (by omega)
    have t0 := (World.cell?_of_block (a := ⟨lp, 0, none⟩) (hlow lp hlp)).trans ((cells_of HL.out.2.2.2).1 0)
    have hlpr : lp < wr.heap.size := by omega
    have hcw : Chg (fun j => j = fbk) w wr := ((Chg.of_below hB1).mono (G := fun j => j = fbk) (fun j hj h => absurd h (by omega))).trans (hC.mono (G := fun j => w.heap.size ≤ j) (fun j _ h => by omega)) (fun j hj h => absurd h (by omega))
    have hfbr : wr.heap[fbk]? = some (.cells #[.bool true] 4) := (hlow fbk hfbl).trans HL.out.2.2.1
    by_cases hlt : i < ord.length
    · obtain ⟨a, ha⟩ : ∃ a, ord[i]? = some a := ⟨_, List.getElem?_eq_getElem hlt⟩
      obtain ⟨b, o, c2, hq, hb, p0⟩ := HRO.out.get1 ha (wr := wr) hlow rfl
      cases hq
      have hbr : b < wr.heap.size := by omega
      have hii : (i : Int) < ord.length := by omega
      have lk1 := hM.look a wr rfl
      have HA := Lib.hid ha
      have HP := Lib.hid (And.intro hcw hfbr)
      have HMM := Lib.hid hM
      have HLR := Lib.hid hlr
      clear ha hcw hfbr hM hlr
      have hbad : (¬ ∃ t : Nat, a = t ∧ com h t = true) → ¬ ∃ l, OrderL h ord l := fun hn ⟨l, hl⟩ => hn (hl.mem (List.mem_of_getElem? HA.out))
      by_cases ha0 : a < 0
      · have hbb := Lib.hid (hbad (fun ⟨t, h1, _⟩ => by omega))
        clear hbad
        go_wp2
        exact ⟨rfl, some (144, 0, 0), rfl, HP.out.1, true, HP.out.2, .inl ⟨rfl, hbb.out⟩⟩
      · obtain ⟨t, rfl⟩ : ∃ t : Nat, a = t := ⟨a.toNat, by omega⟩
        by_cases hal : (t : Int) < h.length
        · obtain ⟨x, hx⟩ : ∃ x, h[t]? = some x := ⟨_, List.getElem?_eq_getElem (by omega)⟩
          have hcm := Lib.hid (committed_ HLR.out t x hx)
          have hge : ¬ (h.length : Int) ≤ t := by omega
          clear hx
          cases hct : com h t with
          | false =>
            have HC := Lib.hid hct
            have hbb := Lib.hid (hbad (fun ⟨t', h1, h2⟩ => by
              obtain rfl : t = t' := by omega
              rw [hct] at h2; cases h2))
            clear hbad hct
            go_wp2_with (go_at_call 20; refine hcm.out.mono ?_; rw [HC.out]; rintro e w3 ⟨rfl, rfl⟩)
            exact ⟨rfl, some (144, 0, 0), rfl, HP.out.1, true, HP.out.2, .inl ⟨rfl, hbb.out⟩⟩
          | true =>
            have HC := Lib.hid hct
            by_cases hin : (t : Int) ∈ ord.take i
            · have hs1 : seenF ord i t = 1 := by unfold seenF; rw [if_pos hin]
              rw [hs1] at lk1
              have hbb := Lib.hid (not_ordered_dup (h := h) HA.out hin)
              clear hbad hct hin hs1
              go_wp2_with (go_at_call 20; refine hcm.out.mono ?_; rw [HC.out]; rintro e w3 ⟨rfl, rfl⟩)
              exact ⟨rfl, some (144, 0, 0), rfl, HP.out.1, true, HP.out.2, .inl ⟨rfl, hbb.out⟩⟩
            · have hs1 : seenF ord i t = 0 := by unfold seenF; rw [if_neg hin]
              rw [hs1] at lk1
              obtain ⟨w6, hrun6, hM6, hc6⟩ := HMM.out.store (t : Int) 1
              have HX := Lib.hid (And.intro hM6 (And.intro hc6 hin))
              clear hbad hct hs1 hM6 hc6 hin
              go_wp2_with (go_at_call 20; refine hcm.out.mono ?_; rw [HC.out]; rintro e w3 ⟨rfl, rfl⟩)
              obtain ⟨b1, b2, b3⟩ := HX.out
              refine ⟨⟨i + 1, by omega, by simp, ?_, Lib.hid ⟨fun a' ha' => ?_, ?_⟩, hC.trans b2 (fun _ _ h => h)⟩, by simp [intOf]; omega⟩
              · rw [show seenF ord (i + 1) = fun y => if y = (t : Int) then 1 else seenF ord i y from funext fun y => seenF_succ HA.out y]
                exact b1
              · rw [List.take_add_one, HA.out] at ha'
                rcases List.mem_append.1 ha' with h1 | h1
                · exact HO.out.1 a' h1
                · simp at h1; exact ⟨t, h1, HC.out⟩
              · rw [List.take_add_one, HA.out]
                refine List.nodup_append.2 ⟨HO.out.2, by simp, fun a1 h1 a2 h2 => ?_⟩
                simp at h2; subst h2
                exact fun e => b3 (e ▸ h1)
        · have hge : (h.length : Int) ≤ t := by omega
          have hbb := Lib.hid (hbad (fun ⟨t', h1, h2⟩ => by
            have := com_lt h2
            omega))
          clear hbad
          go_wp2
          exact ⟨rfl, some (144, 0, 0), rfl, HP.out.1, true, HP.out.2, .inl ⟨rfl, hbb.out⟩⟩
    · obtain rfl : i = ord.length := by omega
      have hseen : ∀ a, seenF ord ord.length a = if a ∈ ord then 1 else 0 := fun a => by unfold seenF; rw [List.take_length]
      have HSEEN := Lib.hid hseen
      have HMM := Lib.hid hM
      have HLR := Lib.hid hlr
      have HP := Lib.hid (And.intro hcw (And.intro hfbr hlow))
      clear hM hlr hcw hfbr hlow hlt hseen
      obtain ⟨wo, hwo⟩ : ∃ wo : World, wo = wr := ⟨_, rfl⟩
      subst hwo
      go_wp2
      go_loopw [7, 55] (fun _ i' wr => ∃ t : Nat, t ≤ h.length ∧ i' = .int .i64 t ∧ Hid (∀ u : Nat, u < t → com h u = true → (u : Int) ∈ ord) ∧ wr = wo) (fun _ i' _ => h.length - (intOf i').toNat)
      case atStart => exact ⟨0, by omega, rfl, Lib.hid (fun u hu => by omega), rfl⟩
      case round =>
        obtain ⟨t, ht, rfl, HT, rfl⟩ := hrel
        by_cases hlt : t < h.length
        · obtain ⟨x, hx⟩ : ∃ x, h[t]? = some x := ⟨_, List.getElem?_eq_getElem hlt⟩
          have hcm := Lib.hid (committed_ HLR.out t x hx)
          have lk1 := HMM.out.look t wr rfl
          rw [HSEEN.out] at lk1
          have hti : (t : Int) < h.length := by omega
          clear hx
          have hstep : (com h t = true → (t : Int) ∈ ord) → Hid (∀ u : Nat, u < t + 1 → com h u = true → (u : Int) ∈ ord) := fun h0 => Lib.hid (fun u hu hc => by
            by_cases hut : u = t
            · subst hut; exact h0 hc
            · exact HT.out u (by omega) hc)
          cases hct : com h t with
          | false =>
            have HC := Lib.hid hct
            have HS := hstep (fun h => by rw [hct] at h; cases h)
            clear hstep hct
            go_wp2_with (go_at_call 20; refine hcm.out.mono ?_; rw [HC.out]; rintro e w3 ⟨rfl, rfl⟩)
            exact ⟨⟨t + 1, by omega, by simp, HS, trivial⟩, by simp [intOf]; omega⟩
          | true =>
            have HC := Lib.hid hct
            by_cases hin : (t : Int) ∈ ord
            · rw [if_pos hin] at lk1
              have HS := hstep (fun _ => hin)
              clear hstep hct hin
              go_wp2_with (go_at_call 20; refine hcm.out.mono ?_; rw [HC.out]; rintro e w3 ⟨rfl, rfl⟩)
              exact ⟨⟨t + 1, by omega, by simp, HS, trivial⟩, by simp [intOf]; omega⟩
            · rw [if_neg hin] at lk1
              have HB : Hid (¬ ∃ l, OrderL h ord l) := Lib.hid (fun ⟨l, hl⟩ => hin (by rw [hl.1]; exact List.mem_map_of_mem (f := fun (t : Nat) => (t : Int)) ((hl.2.2 t).2 hct)))
              clear hstep hct hin
              go_wp2_with (go_at_call 20; refine hcm.out.mono ?_; rw [HC.out]; rintro e w3 ⟨rfl, rfl⟩)
              exact ⟨rfl, some (144, 0, 0), rfl, HP.out.1, true, HP.out.2.1, .inl ⟨rfl, HB.out⟩⟩
        · obtain rfl : t = h.length := by omega
          obtain ⟨l, hOL⟩ := HO.out.done (fun u hu => HT.out u (com_lt hu) hu)
          have hll : ord.length = l.length := by rw [hOL.1, List.length_map]
          have hlen : l.length ≤ h.length := by
            have := nodup_len l (List.range h.length) hOL.2.1 (fun u hu => List.mem_range.2 (com_lt ((hOL.2.2 u).1 hu)))
            simpa using this
          obtain ⟨W3, hW3⟩ : ∃ W3, W3 = wr.alloc (.map #[] 0) := ⟨_, rfl⟩
          have hB3 : Below wr.heap.size wr W3 := by rw [hW3]; exact bel1 _ _
          have hz3 : W3.heap.size = wr.heap.size + 1 := by rw [hW3]; simp
          have hS3 : StM W3 wr.heap.size (fun _ => none) 0 := by rw [hW3]; exact StM.made _
          have hlow3 : ∀ j, j < w.heap.size → W3.heap[j]? = w.heap[j]? := fun j hj => (hB3.block j (by omega)).trans (HP.out.2.2 j hj)
          have hc3 : Chg (fun j => j = fbk) w W3 := HP.out.1.trans (Chg.of_below hB3) (fun j hj h => absurd h (by omega))
          have hf3 := (hlow3 fbk hfbl).trans HL.out.2.2.1
          have o3 := (World.cell?_of_block (a := ⟨ocb, 0, none⟩) (hlow3 ocb hocl)).trans ((cells_of (cs := [.slice OA ord.length ocap]) HL.out.2.1).1 0)
          have hol3 : ocb < W3.heap.size := by omega
          have hz3' : wr.heap.size ≤ W3.heap.size := hB3.size
          have HW3 := Lib.hid hW3
          have H3 := Lib.hid (And.intro hS3 (And.intro hlow3 (And.intro hc3 hf3)))
          have HOL := Lib.hid hOL
          have HLL := Lib.hid hll
          have HZ3 := Lib.hid hz3
          clear hW3 hB3 hS3 hlow3 hc3 hf3 hOL hll hlt hz3
          obtain ⟨sb, hsb⟩ : ∃ sb, sb = wr.heap.size := ⟨_, rfl⟩
          go_upto_region 15 with (fail)
          rw [← HW3.out]
          rw [← hsb] at H3 HZ3 hz3' ⊢
          have hsbw : w.heap.size < sb := by omega
          clear hsb
          go_wp2
          go_loopw [10, 73] (fun _ i' wr => ∃ (n : Nat) (fb : Bool), n ≤ ord.length ∧ i' = .int .i64 n ∧ wr.heap[fbk]? = some (.cells #[.bool fb] 4) ∧ Hid ((fb = true ∧ StM wr sb (stAt h l n) (256 * n) ∧ ReplayN h l n) ∨ (fb = false ∧ ¬ ReplayOK h l)) ∧ Chg (fun j => j = fbk ∨ j = sb) W3 wr) (fun _ i' _ => ord.length - (intOf i').toNat)
          case atStart => exact ⟨0, true, by omega, rfl, H3.out.2.2.2, Lib.hid (.inl ⟨rfl, H3.out.1, fun m hm => by omega⟩), Chg.refl _ _⟩
          case round =>
            obtain ⟨n, fb, hn1, rfl, hf, HF, hC3⟩ := hrel
            have hzw := hC3.size
            have hZ3 := HZ3.out
            have hbut : But w wr w.heap.size fbk := ⟨fun j hj hn => (hC3.block j (by omega) (by omega)).trans (H3.out.2.1 j hj), ⟨_, _, HL.out.2.2.1, odd_bool _⟩⟩
            by_cases hlt : n < ord.length
            · obtain ⟨a, ha⟩ : ∃ a, ord[n]? = some a := ⟨_, List.getElem?_eq_getElem hlt⟩
              obtain ⟨b, o, c2, hq, hb, p0⟩ := (hbut.flat HRO.out (fun x => ⟨_, rfl, nodd_int⟩)).get1 ha (wr := wr) (fun _ _ => rfl) rfl
              cases hq
              have hbr : b < wr.heap.size := by omega
              have hii : (n : Int) < ord.length := by omega
              obtain ⟨t, ht, hlt2⟩ : ∃ t : Nat, a = t ∧ l[n]? = some t := by
                rw [HOL.out.1, List.getElem?_map] at ha
                obtain ⟨t, h1, h2⟩ := Option.map_eq_some_iff.1 ha
                exact ⟨t, h2.symm, h1⟩
              subst ht
              obtain ⟨x, hx, _⟩ := com_iff.1 ((HOL.out.2.2 t).1 (List.mem_of_getElem? hlt2))
              have f0 := (cells_of (cs := [.bool fb]) hf).1 0
              have f1 := (cells_of (cs := [.bool fb]) hf).2 0
              have hfr := lt_of_heap hf
              have HX := Lib.hid (And.intro hlt2 hx)
              have HFB := Lib.hid hf
              have hll := HLL.out
              have hst1 : stAt h l (n + 1) = applyN x t (stAt h l n) x.ops.length := by simp only [stAt, hlt2, hx]
              have HST1 := Lib.hid hst1
              have hnl : n ≤ 256 := by omega
              clear ha hf hst1 hll
              rcases HF.out with ⟨rfl, hSt, hRN⟩ | ⟨rfl, hno⟩
              · have hlr := hbut.led HL.out.1 (by omega)
                have hap := Lib.hid (apply_ hlr (by omega : w.heap.size ≤ sb) hSt t x hx (H.ops t x hx) (by omega) 22 #[.map (some sb)] #[] (fun i o => SameP (applyN x t (stAt h l n) i) o) (enters_of Tryz.func22 (by kernel_rfl) rfl)
                  (fun i o sv W hi _ hS hr hB => same_ hS (by have h1 := H.ops t x hx; have h2 := (List.getElem?_eq_some_iff.1 hi).1; omega) hr hB))
                have HXO := Lib.hid (H.ops t x hx)
                have HRN := Lib.hid hRN
                clear hlr hSt hRN hbut hlt2 hx
                rcases Classical.em (∀ i o, x.ops[i]? = some o → o.kind ≠ 2 → SameP (applyN x t (stAt h l n) i) o) with hall | hall
                · have HALL := Lib.hid hall
                  clear hall
                  go_wp2_with (
                    go_at_call 21; refine hap.out.mono ?_; rintro e w9 ⟨hc9, hres⟩
                    obtain ⟨rfl, hS9⟩ : e = .returned (.bool true) ∧ StM w9 sb (applyN x t (stAt h l n) x.ops.length) (256 * n + x.ops.length) := by
                      rcases hres with ⟨h1, h2, _⟩ | ⟨_, i, o, h1, h2, h3⟩
                      · exact ⟨h1, h2⟩
                      · exact absurd (HALL.out i o h1 h2) h3
                    have hf9 := (hc9.block fbk hfr (by omega)).trans HFB.out
                    have g0 := (cells_of (cs := [.bool true]) hf9).1 0
                    have g1 := (cells_of (cs := [.bool true]) hf9).2 0
                    have hfr9 := lt_of_heap hf9
                    have HF9 := Lib.hid (And.intro hf9 hS9)
                    clear hf9 hS9 hres)
                  have hset : Chg (fun j => j = fbk) w9 (w9.setCell ⟨fbk, 0, none⟩ (.bool true)) := (Chg.refl _ _).setCell _ _ (fun _ => rfl)
                  obtain ⟨c1, c2⟩ := HF9.out
                  refine ⟨⟨n + 1, true, by omega, by simp, by simpa using heap_setCell_same (i := 0) (v := .bool true) c1, Lib.hid (.inl ⟨rfl, ?_, ?_⟩), (hC3.trans hc9 (fun j _ h => .inr h)).trans hset (fun j _ h => .inl h)⟩, by simp [intOf]; omega⟩
                  · rw [HST1.out]
                    exact (c2.keep (hset.block sb c2.lt (by omega))).more (by have := HXO.out; omega)
                  · intro m hm t' x' i o h1 h2 h3 h4
                    by_cases hmn : m = n
                    · subst hmn
                      rw [HX.out.1] at h1; cases h1
                      rw [HX.out.2] at h2; cases h2
                      exact HALL.out i o h3 h4
                    · exact HRN.out m (by omega) t' x' i o h1 h2 h3 h4
                · have HALL := Lib.hid hall
                  clear hall
                  go_wp2_with (
                    go_at_call 21; refine hap.out.mono ?_; rintro e w9 ⟨hc9, hres⟩
                    obtain rfl : e = .returned (.bool false) := by
                      rcases hres with ⟨h1, _, h2⟩ | ⟨h1, _⟩
                      · exact absurd h2 HALL.out
                      · exact h1
                    have hf9 := (hc9.block fbk hfr (by omega)).trans HFB.out
                    have g0 := (cells_of (cs := [.bool true]) hf9).1 0
                    have g1 := (cells_of (cs := [.bool true]) hf9).2 0
                    have hfr9 := lt_of_heap hf9
                    have HF9 := Lib.hid hf9
                    clear hf9 hres)
                  have hset : Chg (fun j => j = fbk) w9 (w9.setCell ⟨fbk, 0, none⟩ (.bool false)) := (Chg.refl _ _).setCell _ _ (fun _ => rfl)
                  refine ⟨⟨n + 1, false, by omega, by simp, by simpa using heap_setCell_same (i := 0) (v := .bool false) HF9.out, Lib.hid (.inr ⟨rfl, fun hR => HALL.out (fun i o h3 h4 => hR n t x i o HX.out.1 HX.out.2 h3 h4)⟩), (hC3.trans hc9 (fun j _ h => .inr h)).trans hset (fun j _ h => .inl h)⟩, by simp [intOf]; omega⟩
              · have HNO := Lib.hid hno
                clear hno hbut hlt2 hx
                go_wp2
                have hset : Chg (fun j => j = fbk) wr (wr.setCell ⟨fbk, 0, none⟩ (.bool false)) := (Chg.refl _ _).setCell _ _ (fun _ => rfl)
                exact ⟨⟨n + 1, false, by omega, by simp, by simpa using heap_setCell_same (i := 0) (v := .bool false) HFB.out, Lib.hid (.inr ⟨rfl, HNO.out⟩), hC3.trans hset (fun j _ h => .inl h)⟩, by simp [intOf]; omega⟩
            · obtain rfl : n = ord.length := by omega
              have HFB := Lib.hid hf
              have HC3 := Lib.hid hC3
              clear hf hbut hC3
              go_wp2
              go_end0
              refine ⟨none, rfl, H3.out.2.2.1.trans HC3.out (fun j hj h => by omega), fb, HFB.out, .inr ⟨rfl, l, HOL.out, ?_⟩⟩
              rcases HF.out with ⟨h1, _, h2⟩ | ⟨h1, h2⟩
              · refine ⟨fun _ m t x i o h3 h4 h5 h6 => h2 m ?_ t x i o h3 h4 h5 h6, fun _ => h1⟩
                have := (List.getElem?_eq_some_iff.1 h3).1
                have := HLL.out
                omega
              · exact ⟨fun h => (by rw [h1] at h; cases h), fun h => absurd h h2⟩
end Go.Proofs.YtooigfkjdemnlaaGreatDoor

namespace Go.Proofs.YtooigfkjdemnlaaGreatDoor
set_option maxRecDepth 100000
open Go.RowKit Go.Lib Go.Sort Go.Shelf Xw

def ReplayA (w : World) (h : List HTx) (ord : List Int) (e : Ending) (w' : World) : Prop :=
  Below w.heap.size w w' ∧ ∃ b n, e = .returned (.tuple #[.bool b, .int .i64 n]) ∧ ((histFault h ≠ none ∧ n = errOf (histFault h)) ∨ (histFault h = none ∧ n = 144 ∧ ¬ ∃ l, OrderL h ord l) ∨ (histFault h = none ∧ n = 0 ∧ ∃ l, OrderL h ord l ∧ (b = true ↔ ReplayOK h l)))
set_option maxHeartbeats 4000000 in
theorem replay_ {w : World} {B : Nat} {h : List HTx} {tv ov : Value} {ord : List Int} (hh : HistV w B tv h) (hB : B ≤ w.heap.size) (hro : Rows w B 1 (Flat intC) ov ord) (hops : ∀ x ∈ h, x.ops.length ≤ 1048576) :
    Calls Tryz.prog 9 #[.agg #[tv], ov] w (ReplayA w h ord) := by
  obtain ⟨A, c, rfl, hn0, hm0⟩ := Rows.shape hh
  obtain ⟨OA, oc, rfl, hoc1, hoc2⟩ := hro.shape
  obtain ⟨W2, hW2⟩ : ∃ W2, W2 = ((w.alloc (.cells #[.slice A h.length c] 28)).alloc (.cells #[.slice OA ord.length oc] 34)).alloc (.cells #[.bool true] 4) := ⟨_, rfl⟩
  have hz2 : W2.heap.size = w.heap.size + 3 := by rw [hW2]; simp
  have hB2 : Below w.heap.size w W2 := by rw [hW2]; exact bel3 _ _ _ _
  have hob : W2.heap[w.heap.size + 2]? = some (.cells #[.bool true] 4) := by rw [hW2]; exact top_al _ _ (by simp)
  have hocb : W2.heap[w.heap.size + 1]? = some (.cells #[.slice OA ord.length oc] 34) := by rw [hW2, heap_alloc_lt (by simp)]; exact top_al _ _ (by simp)
  have hg := guarded_ (hh.keep (fun j hj => hB2.block j (by omega))) (show B ≤ W2.heap.size by omega) hops 19 #[.pointer (some ⟨w.heap.size + 1, 0, none⟩), .pointer (some ⟨w.heap.size + 2, 0, none⟩)] (enters_of Tryz.func19 (by kernel_rfl) rfl)
    (fun f w' => Below w.heap.size w w' ∧ ∃ b, w'.heap[w.heap.size + 2]? = some (.cells #[.bool b] 4) ∧ ((f ≠ none ∧ f = histFault h) ∨ (f = some (144, 0, 0) ∧ histFault h = none ∧ ¬ ∃ l, OrderL h ord l) ∨ (f = none ∧ histFault h = none ∧ ∃ l, OrderL h ord l ∧ (b = true ↔ ReplayOK h l))))
    (fun lp w1 hl hb hsz hf => by
      refine (replay1_ hl (fine_of hf) ((hb.block (w.heap.size + 1) (by omega)).trans hocb) ((hro.flat (fun j hj => (hb.block j (by omega)).trans (hB2.block j (by omega)))).flatMore (by omega)) ((hb.block (w.heap.size + 2) (by omega)).trans hob)).mono ?_
      rintro e w2 ⟨f, rfl, h2, v, h1, h3⟩
      refine ⟨f, rfl, ⟨?_, v, h1, ?_⟩, h2.block _ hsz (by omega)⟩
      · exact (hB2.trans (hb.mono (by omega))).trans (h2.below (fun j hj => by omega) (by have := hb.size; omega))
      · rcases h3 with ⟨rfl, h4⟩ | ⟨rfl, h4⟩
        · exact .inr (.inl ⟨rfl, hf, h4⟩)
        · exact .inr (.inr ⟨rfl, hf, h4⟩))
    (fun f w2 w3 ⟨h1, v, h3, h4⟩ hc => ⟨h1.trans (hc.below (fun j hj => by omega) h1.size), v, (hc.block _ (lt_of_heap h3) (by omega)).trans h3, h4⟩)
    (fun f w3 hf hb => ⟨hB2.trans (hb.mono (by omega)), _, (hb.block _ (by omega)).trans hob, .inl ⟨by simp, hf.symm⟩⟩)
  have HG := Lib.hid hg
  have HW2 := Lib.hid hW2
  clear hg hW2 hh hro hob hocb
  have hmf : ∀ (fn : Fn) (first cap : Array Value) (w : World), (Instr.makeFunc fn first cap).run Tryz.prog w = .ok (.func fn first cap) w := fun _ _ _ _ => rfl
  go_enter Tryz.func9, Tryz.ntmps9
  go_upto_region 3 with (
       go_at_call 18; rw [← HW2.out]; refine HG.out.mono ?_
       rintro e w1 ⟨f, rfl, hb1, v, hv, hrows⟩
       rw [faultRes_eq]
       have HV := Lib.hid (And.intro hv (And.intro hb1 hrows))
       clear hv hrows
       obtain ⟨E, hE⟩ : ∃ E, E = errOf f := ⟨_, rfl⟩
       obtain ⟨T, hT⟩ : ∃ T, T = txnOf f := ⟨_, rfl⟩
       obtain ⟨O, hO⟩ : ∃ O, O = opOf f := ⟨_, rfl⟩
       rw [← hT, ← hO, ← hE]
       have HE := Lib.hid hE
       clear hT hO hE)
  obtain ⟨h1, h2, h3⟩ := HV.out
  have q0 := (heap_cell h1).1
  have hol := lt_of_heap h1
  have hz1 := h2.size
  have H3 := Lib.hid h3
  clear h1 h3
  by_cases h0 : E = 0
  · have hb : (E != 0) = false := by simp [h0]
    have H0 := Lib.hid h0
    clear h0
    go_wp2
    refine bodyPost_ret (results_tmp2 rfl _ _ _) rfl ?_
    refine ⟨h2.alloc h2.size _, v, 0, rfl, ?_⟩
    rcases H3.out with ⟨h3, h4⟩ | ⟨h3, _⟩ | ⟨h3, h4, h5⟩
    · have := errOf_hist (h := h) (by rw [← h4]; exact h3)
      rw [← h4, ← HE.out, H0.out] at this
      exact absurd rfl this
    · have := HE.out
      rw [h3, H0.out] at this
      exact absurd this (by decide)
    · exact .inr (.inr ⟨h4, rfl, h5⟩)
  · have hb : (E != 0) = true := by simp [h0]
    have H0 := Lib.hid h0
    clear h0
    go_wp2_with (with_reducible refine wp_region_free (by kernel_rfl) (fun _ _ => ?_))
    refine bodyPost_ret (results_tmp2 rfl _ _ _) rfl ?_
    refine ⟨(h2.alloc h2.size _).drew, _, E, rfl, ?_⟩
    rcases H3.out with ⟨h3, h4⟩ | ⟨h3, h4⟩ | ⟨h3, _⟩
    · exact .inl ⟨by rw [← h4]; exact h3, by rw [← h4, HE.out]⟩
    · refine .inr (.inl ⟨h4.1, ?_, h4.2⟩)
      rw [HE.out, h3]; rfl
    · have := HE.out
      rw [h3] at this
      exact absurd this H0.out
end Go.Proofs.YtooigfkjdemnlaaGreatDoor

namespace Go.Proofs.YtooigfkjdemnlaaGreatDoor
variable {h : List HTx} {l : List Nat}

theorem Line.way (L : Line h l) {m : Edge → Bool} {a x : Int} (hw : Way (edgesOf h) m a x) {j n : Nat} (hj : l[j]? = some n) (ha : a = (n : Int)) : ∃ (i b : Nat), j ≤ i ∧ l[i]? = some b ∧ x = (b : Int) := by
  induction hw with
  | start => exact ⟨j, n, Nat.le_refl _, hj, ha⟩
  | step hw he hm ih =>
    obtain ⟨i, b, h1, h2, h3⟩ := ih
    obtain ⟨i', j', a', b', h4, h5, h6, h7, h8⟩ := L.rise _ he
    have hab : a' = b := by omega
    subst hab
    have := L.inj h2 h5
    exact ⟨j', b', by omega, h6, h8⟩
theorem Line.no_cycle (L : Line h l) {m1 m2 : Edge → Bool} : ¬ Cyc (edgesOf h) (edgesOf h) m1 m2 := by
  rintro ⟨e, he, _, hw⟩
  obtain ⟨i, j, a, b, h1, h2, h3, h4, h5⟩ := L.rise _ he
  obtain ⟨i', b', h6, h7, h8⟩ := L.way hw h3 h5
  have hab : a = b' := by omega
  subst hab
  have := L.inj h2 h7
  omega
theorem Line.not4 (L : Line h l) {ps : List Int} (P : PhenL h 8 ps) : ¬ ∃ x ∈ ps, (4 : Int) ≤ x ∧ x ≤ 4 := by
  rintro ⟨x, hx, h1, h2⟩
  obtain ⟨q, h3, h4, h5, rfl⟩ := (P.2 x).1 hx
  have : q = 4 := by omega
  subst this
  exact L.no_cycle h5
theorem Line.not78 (L : Line h l) {ps : List Int} (P : PhenL h 8 ps) : ¬ ∃ x ∈ ps, (7 : Int) ≤ x ∧ x ≤ 8 := by
  rintro ⟨x, hx, h1, h2⟩
  obtain ⟨q, h3, h4, h5, rfl⟩ := (P.2 x).1 hx
  have : q = 7 ∨ q = 8 := by omega
  rcases this with rfl | rfl
  · exact L.no_cycle h5
  · exact L.no_cycle h5
theorem not23 {ps : List Int} (P : PhenL h 8 ps) (hn : ¬ ∃ x ∈ ps, (2 : Int) ≤ x ∧ x ≤ 3) : ¬ ToldB h (badA h) ∧ ¬ ToldB h (badB h) :=
  ⟨fun hp => hn ⟨2, (P.2 2).2 ⟨2, by omega, by omega, hp, rfl⟩, by omega, by omega⟩, fun hp => hn ⟨3, (P.2 3).2 ⟨3, by omega, by omega, hp, rfl⟩, by omega, by omega⟩⟩
theorem Line.ord (L : Line h l) : OrderL h (l.map fun (t : Nat) => (t : Int)) l := ⟨rfl, L.nd, L.cm⟩
theorem OrderL.uniq {ord : List Int} {a b : List Nat} (H : OrderL h ord a) (K : OrderL h ord b) : a = b := by
  have h1 := H.1.symm.trans K.1
  have : (a.map fun (t : Nat) => (t : Int)).map Int.toNat = (b.map fun (t : Nat) => (t : Int)).map Int.toNat := by rw [h1]
  simpa [List.map_map, Function.comp_def] using this
theorem law_end (H : Fine h) (L : Line h l) {ps : List Int} (P : PhenL h 8 ps) {l' : List Nat} (K : OrderL h (l.map fun (t : Nat) => (t : Int)) l') {b : Bool} (hb : b = true ↔ ReplayOK h l') (hn : ¬ ∃ x ∈ ps, (2 : Int) ≤ x ∧ x ≤ 3) : b = true := by
  have := K.uniq L.ord
  subst this
  exact hb.2 (line_replays H L (not23 P hn).1 (not23 P hn).2)
theorem Line.inH (L : Line h l) {i t : Nat} (hi : l[i]? = some t) : t < h.length := by
  have := (L.cm t).1 (List.mem_of_getElem? hi)
  obtain ⟨x, hx, _⟩ := com_iff.1 this
  exact (List.getElem?_eq_some_iff.1 hx).1
def placeN (l : List Nat) (n : Nat) (t : Nat) : Int := if t ∈ l.take n then (l.idxOf t : Nat) else 0
theorem placeN_succ (hl : l.Nodup) {n t : Nat} (ht : l[n]? = some t) (y : Nat) : placeN l (n + 1) y = if y = t then (n : Int) else placeN l n y := by
  have hn := (List.getElem?_eq_some_iff.1 ht).1
  have hgt := (List.getElem?_eq_some_iff.1 ht).2
  unfold placeN
  rw [List.take_add_one, ht]
  by_cases hy : y = t
  · subst hy
    rw [if_pos rfl, if_pos (by simp), ← hgt, hl.idxOf_getElem]
  · rw [if_neg hy]
    have : y ∈ l.take n ++ (some t).toList ↔ y ∈ l.take n := by simp [hy]
    by_cases hm : y ∈ l.take n
    · rw [if_pos hm, if_pos (this.2 hm)]
    · rw [if_neg hm, if_neg (fun h => hm (this.1 h))]
theorem placeN_all (hl : l.Nodup) {n t : Nat} (ht : l[n]? = some t) : placeN l l.length t = n := by
  unfold placeN
  rw [List.take_length, if_pos (List.mem_of_getElem? ht), ← (List.getElem?_eq_some_iff.1 ht).2, hl.idxOf_getElem]
theorem Line.edge (L : Line h l) {e : Edge} (he : e ∈ edgesOf h) : ∃ a b : Nat, e.frm = a ∧ e.to = b ∧ a < h.length ∧ b < h.length ∧ placeN l l.length a < placeN l l.length b := by
  obtain ⟨i, j, a, b, h1, h2, h3, h4, h5⟩ := L.rise _ he
  exact ⟨a, b, h4, h5, L.inH h2, L.inH h3, by rw [placeN_all L.nd h2, placeN_all L.nd h3]; omega⟩
end Go.Proofs.YtooigfkjdemnlaaGreatDoor
