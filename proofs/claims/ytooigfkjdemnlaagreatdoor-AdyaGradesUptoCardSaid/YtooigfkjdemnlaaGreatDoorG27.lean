/- Own texts of this claim, joined in build order: D2, F1. -/
import Derived.Test.YtooigfkjdemnlaaGreatDoorG26
import Derived.Test.YtooigfkjdemnlaaGreatDoorG05
import Derived.Test.YtooigfkjdemnlaaGreatDoorG21
import Derived.Test.YtooigfkjdemnlaaGreatDoorG12
import Derived.Test.YtooigfkjdemnlaaGreatDoorG06
set_option linter.all false
namespace Go.Proofs.YtooigfkjdemnlaaGreatDoor
set_option maxRecDepth 100000
open Go.RowKit Go.Lib Go.Sort Go.Shelf Xw

def edgeV (e : Edge) : Value := .agg #[.int .i64 e.frm, .int .i64 e.to, .int .i64 e.kind, .string e.key]
theorem bfs_len {es : List Edge} {m : Edge → Bool} {a t : Int} {cs : List Edge} {ln dn : List Int} {s : Nat} (h : BfsI es m a cs ln dn t s) : cs.length ≤ es.length :=
  nodup_len cs es h.nodup (fun e he => (h.mem e he).1)
def mapLen (w : World) (b : Nat) : Nat := match w.heap[b]? with
  | some (.map es _) => es.size
  | _ => 0
theorem mapLen_of {K : Type} [DecidableEq K] {enc : K → Value} {w : World} {b : Nat} {L : List (K × Value)} (h : KMap enc w b L) : mapLen w b = L.length := by
  obtain ⟨es, clk, hb, he, _⟩ := h
  unfold mapLen
  rw [hb]
  have := congrArg List.length he
  simpa using this
def lenOf : Value → Nat
  | .slice _ n _ => n
  | _ => 0
def intC (t : Int) : List Value := [.int .i64 t]
def cameL (cs : List Edge) : List (Int × Value) := cs.map fun e => (e.to, edgeV e)
theorem cameL_keys (cs : List Edge) : (cameL cs).map (·.1) = cs.map (·.to) := by unfold cameL; rw [List.map_map]; rfl
theorem kget_cameL {cs : List Edge} (hn : (cs.map (·.to)).Nodup) {e : Edge} (he : e ∈ cs) : kget (cameL cs) e.to = some (edgeV e) :=
  kget_mem (by rw [cameL_keys]; exact hn) (List.mem_map_of_mem (f := fun e => (e.to, edgeV e)) he)
theorem kget_cameL_none {cs : List Edge} {t : Int} (h : t ∉ cs.map (·.to)) : kget (cameL cs) t = none := by
  cases hk : kget (cameL cs) t with
  | none => rfl
  | some v =>
    have := List.mem_map_of_mem (f := (·.1)) (kget_some hk)
    rw [cameL_keys] at this
    exact absurd this h
theorem kset_cameL {cs : List Edge} {e : Edge} (h : e.to ∉ cs.map (·.to)) : kset (cameL cs) e.to (edgeV e) = cameL (cs ++ [e]) := by
  unfold kset
  rw [if_neg (by rw [cameL_keys]; exact h)]
  simp [cameL]

theorem sl_pop {w : World} {g off off' cap : Nat} {t : Int} {ln : List Int} {cur : Array Value} {F : Nat → Prop} (h : Sl w 3 1 (.slice (some ⟨g, off, none⟩) (ln.length + 1) cap) (t :: ln).length ((t :: ln).flatMap intC) F) (hF : F g)
    (hb : w.heap[g]? = some (.cells cur 3)) (hs : off + cap * 1 ≤ cur.size) (ht : (cur.toList.drop off).take ((t :: ln).length * 1) = (t :: ln).flatMap intC) (ho : off' = if cap = 1 then off else off + 1) (hc : ln.length + 1 ≤ cap) (hm : cap ≤ 9223372036854775807) :
    Sl w 3 1 (.slice (some ⟨g, off', none⟩) ln.length (cap - 1)) ln.length (ln.flatMap intC) F := by
  have hlen : (ln.flatMap intC).length = ln.length * 1 := flat_len (enc := intC) (size := 1) (fun _ => rfl) ln
  refine ⟨hlen, .inr ⟨g, off', cap - 1, cur, rfl, hF, hb, by omega, by simp only [maxLen]; omega, by split at ho <;> omega, ?_⟩⟩
  by_cases h1 : cap = 1
  · obtain rfl : ln = [] := List.eq_nil_of_length_eq_zero (by omega)
    simp
  · rw [if_neg h1] at ho
    subst ho
    rw [List.flatMap_cons, List.length_cons] at ht
    have h2 := congrArg (List.drop 1) ht
    rw [show (intC t ++ ln.flatMap intC).drop 1 = ln.flatMap intC from rfl, List.drop_take, List.drop_drop] at h2
    rw [← h2]
    congr 1
theorem int_info : (Tryz.prog.info? 3).map (fun i => (i.zero.map (·.cells.size), i.size, i.bytes)) = some (some 1, 1, 8) := by kernel_rfl
theorem bfs_len0 {es : List Edge} {m : Edge → Bool} {a : Int} {cs : List Edge} {ln dn : List Int} (h : Bfs es m a cs ln dn) : cs.length ≤ es.length :=
  nodup_len cs es (List.Pairwise.of_map (fun x => x.to) (fun a b hab e => hab (by rw [e])) h.nd) (fun e he => (h.mem e he).1)
def posOf (cs : List Edge) (a x : Int) : Nat := if x = a then 0 else (cs.findIdx fun e => decide (e.to = x)) + 1
theorem findIdx_nodup {cs : List Edge} (hn : (cs.map (·.to)).Nodup) {j : Nat} {e : Edge} (he : cs[j]? = some e) : (cs.findIdx fun e' => decide (e'.to = e.to)) = j := by
  have hj := (List.getElem?_eq_some_iff.1 he)
  obtain ⟨hlt, hje⟩ := hj
  rw [List.findIdx_eq hlt]
  refine ⟨by simp [hje], fun i hi => ?_⟩
  simp only [decide_eq_false_iff_not]
  intro h
  have h1 : (cs.map (·.to))[i]? = (cs.map (·.to))[j]? := by rw [List.getElem?_map, List.getElem?_map, List.getElem?_eq_getElem (by omega), he]; simp [h]
  have := (List.getElem?_inj (by simpa using (by omega : i < cs.length)) hn).1 h1
  omega
theorem posOf_step {es : List Edge} {m : Edge → Bool} {a x : Int} {cs : List Edge} {ln dn : List Int} (h : Bfs es m a cs ln dn) {e : Edge} (he : e ∈ cs) (hx : e.to = x) (hxa : x ≠ a) : visited a cs e.frm ∧ posOf cs a e.frm < posOf cs a x ∧ posOf cs a x ≤ cs.length := by
  obtain ⟨i, hi⟩ := List.mem_iff_getElem?.1 he
  have hil := (List.getElem?_eq_some_iff.1 hi).1
  have h1 := findIdx_nodup h.nd hi
  rw [hx] at h1
  have hpx : posOf cs a x = i + 1 := by unfold posOf; rw [if_neg hxa, h1]
  rcases h.ord i e hi with h2 | ⟨j, e', h2, h3, h4⟩
  · exact ⟨.inl h2, by rw [hpx]; unfold posOf; rw [if_pos h2]; omega, by omega⟩
  · refine ⟨.inr (h4 ▸ List.mem_map_of_mem (f := fun x => x.to) (List.mem_of_getElem? h3)), ?_, by omega⟩
    rw [hpx]
    unfold posOf
    split
    · omega
    · have := findIdx_nodup h.nd h3
      rw [h4] at this
      omega
set_option maxHeartbeats 8000000 in
theorem path_ {w : World} {B gb mb : Nat} {a0 ev : Value} {es : List Edge} (g1 : w.heap[gb]? = some (.cells #[a0, ev, .map (some mb)] 95)) (hm : MapOfK kInt.enc w B mb 4 edgeC (fun t => es.filter fun e => decide (e.frm = t))) (hgl : gb < B) (hle : B ≤ w.heap.size) (fm tt : Int) (hft : fm ≠ tt) (M : FuncId) (caps : Array Value) (m : Edge → Bool)
    (eg : ∀ args w, (callFunc M args).run Tryz.prog w = .ok (.enter M args) w) (hes : es.length < 68719476736)
    (hmay : ∀ (e : Edge) (W : World), Calls Tryz.prog M (#[edgeV e] ++ caps) W fun r W' => r = .returned (.bool (m e)) ∧ Below W.heap.size W W') :
    Calls Tryz.prog 102 #[.pointer (some ⟨gb, 0, none⟩), .int .i64 fm, .int .i64 tt, .func (.func M) #[] caps] w fun e w' => Below w.heap.size w w' ∧ ((e = .returned (.slice none 0 0) ∧ ¬ Way es m fm tt) ∨ (∃ v l F, e = .returned v ∧ l ≠ [] ∧ Sl w' 66 4 v l.length (l.flatMap edgeC) F ∧ (∀ j, F j → w.heap.size ≤ j ∧ j < w'.heap.size) ∧ l.length ≤ es.length ∧ Way es m fm tt)) := by
  have hmk : ∀ (t : TypeId) (w : World), (Instr.makeMap t none).run Tryz.prog w = .ok (.map (some w.heap.size)) (w.alloc (.map #[] 0)) := fun _ _ => rfl
  have hgw : gb < w.heap.size := by omega
  have q2 := (cells_of g1).1 2
  obtain ⟨W0, hW0⟩ : ∃ W0, W0 = (w.alloc (.map #[] 0)).alloc (.cells #[.int .i64 fm] 3) := ⟨_, rfl⟩
  have hz0 : W0.heap.size = w.heap.size + 2 := by rw [hW0]; simp
  have hB0 : Below w.heap.size w W0 := by rw [hW0]; exact bel2 _ _ _
  have hm0 : KMap kInt.enc W0 w.heap.size [] := by rw [hW0]; exact (KMap.made _ w).keep (heap_alloc_lt (by simp))
  have hs0 : Sl W0 3 1 (.slice (some ⟨w.heap.size + 1, 0, none⟩) 1 1) 1 [.int .i64 fm] (fun j => w.heap.size + 1 ≤ j ∧ j < W0.heap.size) := by
    have := Sl.of_block (w := W0) (e := 3) (size := 1) (n := 1) (g := w.heap.size + 1) (cur := #[.int .i64 fm]) (F := fun j => w.heap.size + 1 ≤ j ∧ j < W0.heap.size) (by rw [hW0]; exact top_al _ _ (by simp)) (by omega) rfl (by simp only [maxLen]; omega)
    simpa using this
  have HW0 := Lib.hid hW0
  clear hW0
  go_enter Tryz.func102, Tryz.ntmps102
  go_wp2
  rw [← HW0.out]
  go_loopw [10, 11, 13, 14, 15] (fun v' _ _ _ _ wr => ∃ (cs : List Edge) (ln dn : List Int) (Fl : Nat → Prop), Hid (Bfs es m fm cs ln dn) ∧ KMap kInt.enc wr w.heap.size (cameL cs) ∧ Sl wr 3 1 v' ln.length (ln.flatMap intC) Fl ∧ (∀ j, Fl j → w.heap.size + 1 ≤ j ∧ j < wr.heap.size) ∧ Below w.heap.size w wr ∧ w.heap.size + 2 ≤ wr.heap.size ∧ ln.length + dn.length = cs.length + 1) (fun v' _ _ _ _ wr => 2 * (es.length - mapLen wr w.heap.size) + lenOf v')
  case atStart => exact ⟨[], [fm], [], _, Lib.hid (Bfs.start es m fm), hm0, hs0, fun _ h => h, hB0, by omega, rfl⟩
  case round =>
    obtain ⟨cs, ln, dn, Fl, HB, hk, hs, hF, hBw, hz, hct⟩ := hrel
    have hlow : ∀ j, j < w.heap.size → wr.heap[j]? = w.heap[j]? := fun j hj => hBw.block j hj
    cases ln with
    | nil =>
      have hall := HB.out.all tt
      obtain ⟨A, c, hv0, hc, hnc⟩ := hs.shape
      have hv1 : u10 = .slice A 0 c := hv0
      clear hv0
      subst hv1
      have lk : ∀ W : World, W.heap[w.heap.size]? = wr.heap[w.heap.size]? → ∀ x ok, (Instr.lookup 206 (.map (some w.heap.size)) (.int .i64 x) ok).run Tryz.prog W = .ok (if ok then .tuple #[(kget (cameL cs) x).getD (edgeV ⟨0, 0, 0, ⟨#[]⟩⟩), .bool (kget (cameL cs) x).isSome] else (kget (cameL cs) x).getD (edgeV ⟨0, 0, 0, ⟨#[]⟩⟩)) W := fun W e' x ok =>
        run_lookup_kmap kInt Tryz.underlying206 (by kernel_rfl) (hk.keep e') x ok
      have lk1 := lk wr rfl tt true
      have LK := Lib.hid lk
      have HK := Lib.hid hk
      clear lk hk
      by_cases hin : tt ∈ cs.map (·.to)
      · have hway := hall.1 (.inr hin)
        obtain ⟨e1, he1, he2⟩ := List.mem_map.1 hin
        have hg1 := kget_cameL HB.out.nd he1
        rw [he2] at hg1
        rw [hg1] at lk1
        simp only [Option.getD_some, Option.isSome_some, edgeV, if_true] at lk1
        have hbl := bfs_len0 HB.out
        have hp0 := (posOf_step HB.out he1 he2 (Ne.symm hft)).2.2
        have HG1 := Lib.hid hg1
        have HW := Lib.hid hway
        have HIN := Lib.hid hin
        clear hg1 hall hway he1 hin he2
        obtain ⟨wo, rfl⟩ : ∃ wo : World, wo = wr := ⟨_, rfl⟩
        go_wp2
        go_loopw [18, 19] (fun v' t' wr2 => ∃ (l : List Edge) (x : Int) (Fb : Nat → Prop), t' = .int .i64 x ∧ Hid (visited fm cs x ∧ (l = [] → x = tt)) ∧ Sl wr2 66 4 v' l.length (l.flatMap edgeC) Fb ∧ (∀ j, Fb j → wo.heap.size ≤ j ∧ j < wr2.heap.size) ∧ Below wo.heap.size wo wr2 ∧ l.length + posOf cs fm x ≤ cs.length) (fun _ t' _ => posOf cs fm (intOf t'))
        case atStart => exact ⟨[], tt, fun _ => False, rfl, Lib.hid ⟨.inr HIN.out, fun _ => rfl⟩, Sl.nil _ _ _ _, fun _ f => f.elim, bel1 _ _, by simpa using hp0⟩
        case round =>
          obtain ⟨l, x, Fb, rfl, HX, hsb, hFb, hBb, hlen⟩ := hrel
          obtain ⟨A2, c2, rfl, hc2, hnc2⟩ := hsb.shape
          have hzb := hBb.size
          by_cases hxf : x = fm
          · have hlne : l ≠ [] := fun h => hft (hxf.symm.trans (HX.out.2 h))
            obtain ⟨-, hs0 | ⟨g, off, cap, cur, hv0, hFg, hcur, hcp, hcm, hsz, htk⟩⟩ := id hsb
            · exact absurd (List.eq_nil_of_length_eq_zero hs0.2) hlne
            cases hv0
            have hrev := Lib.hid (reverse_ hsb (by simp only [maxLen] at hcm; omega))
            have HLN := Lib.hid hlne
            have hxb : (x != fm) = false := by simp [hxf]
            have hgl := lt_of_heap hcur
            have hgo := hFb g hFg
            clear hlne hxf hcur htk hsb
            go_wp2_with (go_at_call 136; refine hrev.out.mono ?_; rintro e w5 ⟨rfl, hs5, hc5⟩)
            go_ret
            have hz5 := hc5.size
            refine ⟨((hBw.trans (hBb.mono (by omega)))).trans (hc5.below (fun j hj => by omega) (by omega)), .inr ⟨_, l.reverse, Fb, rfl, by simpa using HLN.out, by rw [List.length_reverse]; exact hs5, fun j hj => by have := hFb j hj; omega, by rw [List.length_reverse]; omega, HW.out⟩⟩
          · have hxb : (x != fm) = true := by simp [hxf]
            have hxin : x ∈ cs.map (·.to) := HX.out.1.elim (fun h => absurd h hxf) id
            obtain ⟨e2, he2, he3⟩ := List.mem_map.1 hxin
            have hps := posOf_step HB.out he2 he3 hxf
            have hg2 := kget_cameL HB.out.nd he2
            rw [he3] at hg2
            have lkw : ∀ W : World, W.heap[w.heap.size]? = wo.heap[w.heap.size]? → (Instr.lookup 206 (.map (some w.heap.size)) (.int .i64 x) false).run Tryz.prog W = .ok (.agg #[.int .i64 e2.frm, .int .i64 e2.to, .int .i64 e2.kind, .string e2.key]) W := fun W e => by
              have := LK.out W e x false
              rw [hg2] at this
              exact this
            have lkr := lkw wr (hBb.block _ (by omega))
            have HLW := Lib.hid lkw
            have HPS := Lib.hid hps
            have HX2 := Lib.hid he3
            obtain ⟨i0, z0, j0, j1, j2, j3, j4⟩ := info_edge
            simp only [maxLen] at hc2
            have hmx : (l.length + 1) * 40 ≤ 140737488355328 := by omega
            have hfld : ∀ (a b c d : Value) (W : World), (Instr.field 66 (.agg #[a, b, c, d]) 0).run Tryz.prog W = .ok a W := fun _ _ _ _ _ => by kernel_rfl
            clear lkw hps hxin he2 he3 hg2 hxf
            go_wp2_with (refine wpList_append_sl _ rfl (.tmp 88) (.tmp 92) 61 rfl 66 i0 z0 4 40 Tryz.underlying61 j0 j1 j2 j3 j4 (by omega) _ _ _ _ rfl (hsb.chg ((Chg.refl (fun _ => False) _).alloc _) (fun _ _ f => f)) _ _ 1 1 [.int .i64 e2.frm, .int .i64 e2.to, .int .i64 e2.kind, .string e2.key] rfl (reads_new4 _ _ _ _ _ _) (by intro u hu; simp at hu; rcases hu with rfl | rfl | rfl | rfl <;> rfl) (by simp only [maxLen]; omega) hmx ?_
                         intro v4 w4 F4 hs4 hc4 hf4 hnz4
                         have hal : Chg Fb wr w4 := (((Chg.refl (fun _ => False) wr).alloc _).mono (G := Fb) (fun _ _ f => f.elim)).trans hc4 (fun _ _ h => h)
                         have lk4 := HLW.out w4 ((hal.block _ (by omega) (fun h => by have := hFb _ h; omega)).trans (hBb.block _ (by omega)))
                         have HN := Lib.hid hnz4
                         clear hnz4)
            have hz4 := hal.size
            have hza : (wr.alloc (.cells #[.int .i64 e2.frm, .int .i64 e2.to, .int .i64 e2.kind, .string e2.key] 66)).heap.size = wr.heap.size + 1 := by simp
            refine ⟨⟨l ++ [e2], e2.frm, F4, rfl, Lib.hid ⟨HPS.out.1, fun h => by simp at h⟩, ?_, fun j hj => ?_, ?_, by have := HPS.out.2; simp; omega⟩, ?_⟩
            · rw [List.flatMap_append]
              simpa [edgeC] using hs4
            · have h4 := hc4.size
              rcases hf4 j hj with h | ⟨h, h'⟩
              · have := hFb j h; omega
              · omega
            · exact hBb.trans (hal.below (fun j hj => (hFb j hj).1) hBb.size)
            · have := HPS.out.2.1
              simpa [intOf] using this
      · have hno : ¬ Way es m fm tt := fun h => (hall.2 h).elim (fun h => hft h.symm) hin
        rw [kget_cameL_none hin] at lk1
        simp only [Option.getD_none, Option.isSome_none, edgeV, if_true] at lk1
        have HNO := Lib.hid hno
        clear hno hall hin
        go_wp2
        go_ret
        exact ⟨hBw.trans ((bel1 _ _).mono (by omega)), .inl ⟨rfl, HNO.out⟩⟩
    | cons t ln =>
      obtain ⟨-, hs0 | ⟨g, off, cap, cur, hv0, hFg, hcur, hcp, hcm, hsz, htk⟩⟩ := id hs
      · cases hs0.2
      have hv1 : u10 = .slice (some ⟨g, off, none⟩) (ln.length + 1) cap := hv0
      clear hv0
      subst hv1
      have g2' := (World.cell?_of_block (a := ⟨gb, 2, none⟩) (hlow gb hgw)).trans q2
      have hgr := lt_of_heap hcur
      have hgbr : gb < wr.heap.size := by omega
      have ht0 : wr.cell? ⟨g, off, none⟩ = some (.int .i64 t) := by
        have := hs.cells.2 (by simp)
        obtain ⟨a, ha, -, h2⟩ := this
        cases ha
        have := h2 0 (.int .i64 t) (by simp [intC])
        simpa [Addr.add] using this
      obtain ⟨Lo, hLo, hlk⟩ := (hm.keep (fun j hj => hlow j (by omega))).look
      have hlkt := hlk t
      obtain ⟨V, hV⟩ : ∃ V, V = (kget Lo t).getD (.slice none 0 0) := ⟨_, rfl⟩
      rw [← hV] at hlkt
      obtain ⟨OA, oc, rfl, hoc1, hoc2⟩ := hlkt.shape
      simp only [maxLen] at hoc2 hcm
      have lk0 : (Instr.lookup 93 (.map (some mb)) (.int .i64 t) false).run Tryz.prog wr = .ok (.slice OA (es.filter fun e => decide (e.frm = t)).length oc) wr := by
        have := run_lookup_kmap kInt Tryz.underlying93 (zero_slice_edge wr) hLo t false
        rw [hV]
        exact this
      have hB1 := HB.out.pop
      have HB1 := Lib.hid hB1
      have HK := Lib.hid hk
      have HSL := Lib.hid (And.intro hs (And.intro hFg (And.intro hcur (And.intro hsz htk))))
      have hcp' : ln.length + 1 ≤ cap := hcp
      simp only [List.length_cons] at hct
      clear hV hlk hB1 hcur htk hs hk
      go_upto_region 5 with (fail)
      go_cut [10] from 29 to 31 (fun v wx => ∃ off', v = .slice (some ⟨g, off', none⟩) ln.length (cap - 1) ∧ Hid (off' = if cap = 1 then off else off + 1) ∧ wx = wr)
      case first =>
        by_cases hc1 : cap = 1
        · subst hc1
          go_wp2
          go_meet
          case rel => exact ⟨off, by simp; omega, Lib.hid (by simp), rfl⟩
        · have hc2 : 1 < cap := by omega
          go_wp2
          go_meet
          case rel => exact ⟨_, rfl, Lib.hid (by simp [hc1]), rfl⟩
      case rest =>
        obtain ⟨off', rfl, HO, rfl⟩ := hcut
        have hst : Hid (Sl wc 3 1 (.slice (some ⟨g, off', none⟩) ln.length (cap - 1)) ln.length (ln.flatMap intC) Fl) := Lib.hid (by
          have := HO.out
          obtain ⟨h1, h2, h3, h4, h5⟩ := HSL.out
          refine sl_pop h1 h2 h3 h4 h5 this hcp' hcm)
        have hml := mapLen_of HK.out
        have hbl := bfs_len HB1.out
        have hcl : (cameL cs).length = cs.length := by simp [cameL]
        obtain ⟨fl, hfl⟩ : ∃ fl, fl = es.filter fun e => decide (e.frm = t) := ⟨_, rfl⟩
        rw [← hfl] at hlkt hoc1 lk0
        have HFL := Lib.hid hfl
        have HML := Lib.hid (hml.trans hcl)
        clear HO HSL hfl hml hcl
        go_wp2
        obtain ⟨wo, rfl⟩ : ∃ wo : World, wo = wc := ⟨_, rfl⟩
        go_loopw [10, 13, 14, 15, 38] (fun v' _ _ _ j' wr2 => ∃ (s : Nat) (cs' : List Edge) (ln' : List Int) (Fl' : Nat → Prop), s ≤ fl.length ∧ j' = .int .i64 s ∧ Hid (BfsI es m fm cs' ln' dn t s) ∧ KMap kInt.enc wr2 w.heap.size (cameL cs') ∧ Sl wr2 3 1 v' ln'.length (ln'.flatMap intC) Fl' ∧ (∀ j, Fl' j → w.heap.size + 1 ≤ j ∧ j < wr2.heap.size) ∧ Below w.heap.size w wr2 ∧ w.heap.size + 2 ≤ wr2.heap.size ∧ ln'.length + dn.length = cs'.length ∧ cs.length ≤ cs'.length) (fun _ _ _ _ j' _ => fl.length - (intOf j').toNat)
        case atStart => exact ⟨0, cs, ln, Fl, by omega, rfl, HB1, HK.out, hst.out, hF, hBw, hz, by omega, Nat.le_refl _⟩
        case round =>
          obtain ⟨s, cs', ln', Fl', hsl, rfl, HBs, hk, hs, hF', hBs, hzs, hlc, hcc⟩ := hrel
          have hlow2 : ∀ j, j < w.heap.size → wr.heap[j]? = w.heap[j]? := fun j hj => hBs.block j hj
          obtain ⟨A, c, rfl, hc, hnc⟩ := hs.shape
          simp only [maxLen] at hc
          by_cases hlt : s < fl.length
          · obtain ⟨e, he⟩ : ∃ e, fl[s]? = some e := ⟨_, List.getElem?_eq_getElem hlt⟩
            obtain ⟨b, o, c2, hq, hb, p0, p1, p2, p3⟩ := hlkt.get4 he (wr := wr) (fun j hj => (hlow2 j (by omega)).trans (hlow j (by omega)).symm) rfl
            cases hq
            have hbr : b < wr.heap.size := by omega
            have lk : ∀ W : World, W.heap[w.heap.size]? = wr.heap[w.heap.size]? → (Instr.lookup 206 (.map (some w.heap.size)) (.int .i64 e.to) true).run Tryz.prog W = .ok (.tuple #[(kget (cameL cs') e.to).getD (edgeV ⟨0, 0, 0, ⟨#[]⟩⟩), .bool (kget (cameL cs') e.to).isSome]) W := fun W e' =>
              run_lookup_kmap kInt Tryz.underlying206 (by kernel_rfl) (hk.keep e') e.to true
            have lk1 := lk (wr.alloc (.cells #[.int .i64 e.frm, .int .i64 e.to, .int .i64 e.kind, .string e.key] 66)) (heap_alloc_lt (by omega))
            have HE := Lib.hid he
            have HKs := Lib.hid hk
            have HSs := Lib.hid hs
            have LK := Lib.hid lk
            have HLKT := Lib.hid hlkt
            clear he hk hs lk hlkt
            by_cases hin : e.to ∈ cs'.map (·.to)
            · obtain ⟨e1, he1, he2⟩ := List.mem_map.1 hin
              have hg1 := kget_cameL HBs.out.nd he1
              rw [he2] at hg1
              rw [hg1] at lk1
              simp only [Option.getD_some, Option.isSome_some, edgeV] at lk1
              have hskip := HBs.out.skip (by rw [← HFL.out]; exact HE.out) (.inl (.inr hin))
              have HSK := Lib.hid hskip
              clear hskip hin he1 he2 hg1
              go_wp2
              refine ⟨⟨s + 1, cs', ln', Fl', by omega, by simp, HSK, HKs.out.keep (by rw [heap_alloc_lt (by simp; omega), heap_alloc_lt (by omega)]), HSs.out.chg (((Chg.refl (fun _ => False) _).alloc _).alloc _) (fun _ _ f => f), fun j hj => ?_, ?_, ?_, hlc, hcc⟩, by simp [intOf]; omega⟩
              · have := hF' j hj
                simp; omega
              · exact hBs.trans ((bel2 _ _ _).mono (by omega))
              · simp; omega
            · have hg1 := kget_cameL_none hin
              rw [hg1] at lk1
              simp only [Option.getD_none, Option.isSome_none, edgeV] at lk1
              by_cases hef : e.to = fm
              · have hbe : (e.to == fm) = true := by simp [hef]
                have hskip := HBs.out.skip (by rw [← HFL.out]; exact HE.out) (.inl (.inl hef))
                have HSK := Lib.hid hskip
                clear hskip hin hg1 hef
                go_wp2
                refine ⟨⟨s + 1, cs', ln', Fl', by omega, by simp, HSK, HKs.out.keep (by rw [heap_alloc_lt (by simp; omega), heap_alloc_lt (by omega)]), HSs.out.chg (((Chg.refl (fun _ => False) _).alloc _).alloc _) (fun _ _ f => f), fun j hj => ?_, ?_, ?_, hlc, hcc⟩, by simp [intOf]; omega⟩
                · have := hF' j hj
                  simp; omega
                · exact hBs.trans ((bel2 _ _ _).mono (by omega))
                · simp; omega
              · have hbe : (e.to == fm) = false := by simp [hef]
                have hvis : ¬ visited fm cs' e.to := fun h => h.elim hef hin
                have het := HE.out
                rw [HFL.out] at het
                obtain ⟨W8, hW8⟩ : ∃ W8, W8 = (wr.alloc (.cells #[.int .i64 e.frm, .int .i64 e.to, .int .i64 e.kind, .string e.key] 66)).alloc (.cells #[.int .i64 0, .int .i64 0, .int .i64 0, .string ⟨#[]⟩] 66) := ⟨_, rfl⟩
                have hB8 : Below wr.heap.size wr W8 := by rw [hW8]; exact bel2 _ _ _
                have hz8 : W8.heap.size = wr.heap.size + 2 := by rw [hW8]; simp
                have hbx : W8.heap[wr.heap.size]? = some (.cells #[.int .i64 e.frm, .int .i64 e.to, .int .i64 e.kind, .string e.key] 66) := by rw [hW8, heap_alloc_lt (by simp)]; exact heap_alloc_new _ _
                obtain ⟨q, qf⟩ := cells_of (cs := [.int .i64 e.frm, .int .i64 e.to, .int .i64 e.kind, .string e.key]) hbx
                have e0 := q 0
                have e1 := q 1
                have e2 := q 2
                have e3 := q 3
                have HW8 := Lib.hid hW8
                have HMAY := Lib.hid (hmay e W8)
                have HBX := Lib.hid hbx
                clear hW8 q qf hg1 hef hbx
                cases hme : m e with
                | false =>
                  have HSK := Lib.hid (HBs.out.skip het (.inr hme))
                  have HME := Lib.hid hme
                  clear hme het hvis hin
                  go_upto_region 10 with (fail)
                  rw [← HW8.out]
                  go_wp2_with (go_at_fn M; refine HMAY.out.mono ?_; rw [HME.out]; rintro r w9 ⟨rfl, hB9⟩)
                  have hz9 := hB9.size
                  have hB := (hB8.trans (hB9.mono (by omega)))
                  refine ⟨⟨s + 1, cs', ln', Fl', by omega, by simp, HSK, HKs.out.keep (hB.block _ (by omega)), HSs.out.keep (fun j hj _ => hB.block j hj), fun j hj => ?_, hBs.trans (hB.mono (by omega)), by omega, hlc, hcc⟩, by simp [intOf]; omega⟩
                  have := hF' j hj
                  omega
                | true =>
                  have HTK := Lib.hid (HBs.out.take het hvis hme)
                  have HME := Lib.hid hme
                  have HIN := Lib.hid hin
                  clear hme het hvis hin
                  go_upto_region 10 with (fail)
                  rw [← HW8.out]
                  obtain ⟨ii, zi, j0, j1, j2, j3, j4⟩ := info_of int_info
                  have hlnb := hcc
                  have hbl3 := bfs_len HTK.out
                  simp only [List.length_append, List.length_singleton] at hbl3
                  have hml : ln'.length + 1 ≤ 9223372036854775807 := by omega
                  have hmb : (ln'.length + 1) * 8 ≤ 140737488355328 := by omega
                  go_wp2_with (first
                    | (go_at_fn M; refine HMAY.out.mono ?_; rw [HME.out]; rintro r w9 ⟨rfl, hB9⟩
                       have hz9 := hB9.size
                       have f0 := (World.cell?_of_block (a := ⟨wr.heap.size, 0, none⟩) (hB9.block wr.heap.size (by omega))).trans e0
                       have f1 := (World.cell?_of_block (a := ⟨wr.heap.size, 1, none⟩) (hB9.block wr.heap.size (by omega))).trans e1
                       have f2 := (World.cell?_of_block (a := ⟨wr.heap.size, 2, none⟩) (hB9.block wr.heap.size (by omega))).trans e2
                       have f3 := (World.cell?_of_block (a := ⟨wr.heap.size, 3, none⟩) (hB9.block wr.heap.size (by omega))).trans e3
                       obtain ⟨w6, hrun6, hk6, hc6⟩ := run_store_kmap kInt Tryz.underlying206 (HKs.out.keep ((hB9.block _ (by omega)).trans (hB8.block _ (by omega)))) e.to (edgeV e)
                       have hrun6' : (Instr.mapUpdate 206 (.map (some w.heap.size)) (.int .i64 e.to) (.agg #[.int .i64 e.frm, .int .i64 e.to, .int .i64 e.kind, .string e.key])).run Tryz.prog w9 = .ok () w6 := hrun6
                       have hz6 := hc6.size
                       have f4 := (World.cell?_of_block (a := ⟨wr.heap.size, 1, none⟩) (hc6.block wr.heap.size (by omega) (by omega))).trans f1
                       have hs6 := Lib.hid ((HSs.out.keep (w' := w9) (fun j hj _ => (hB9.block j (by omega)).trans (hB8.block j hj))).chg hc6 (fun j hj e => by have := hF' j hj; omega))
                       have HC6 := Lib.hid hc6
                       have HK6 := Lib.hid hk6
                       clear hrun6 hc6 hk6)
                    | (refine wpList_append_sl _ rfl (.tmp 66) (.tmp 69) 34 rfl 3 ii zi 1 8 Tryz.underlying34 j0 j1 j2 j3 j4 (by omega) _ _ _ _ rfl (hs6.out.chg ((Chg.refl (fun _ => False) _).alloc _) (fun _ _ f => f)) _ _ 1 1 [.int .i64 e.to] rfl (reads_new _ _ 1 rfl _) (by intro u hu; simp at hu; subst hu; rfl) (by simp only [maxLen]; omega) hmb ?_
                       intro v2 w7 F7 hs7 hc7 hf7 hnz7
                       have HN7 := Lib.hid hnz7
                       clear hnz7))
                  have hB9w : Below wr.heap.size wr w9 := hB8.trans (hB9.mono (by omega))
                  have hal : Chg (fun _ => False) w6 (w6.alloc (.cells #[.int .i64 e.to] 3)) := (Chg.refl _ _).alloc _
                  have hz7 := hc7.size
                  have hza : (w6.alloc (.cells #[.int .i64 e.to] 3)).heap.size = w6.heap.size + 1 := by simp
                  have hcA := (hal.mono (G := Fl') (fun _ _ f => f.elim)).trans hc7 (fun _ _ h => h)
                  refine ⟨⟨s + 1, cs' ++ [e], ln' ++ [e.to], F7, by omega, by simp, HTK, ?_, ?_, fun j hj => ?_, ?_, by omega, by simp; omega, by simp; omega⟩, by simp [intOf]; omega⟩
                  · rw [← kset_cameL HIN.out]
                    exact HK6.out.chg hcA (fun h => by have := hF' _ h; omega)
                  · rw [List.flatMap_append]
                    simpa [intC] using hs7
                  · rcases hf7 j hj with h | ⟨h, h'⟩
                    · have := hF' j h; omega
                    · omega
                  · have hcc9 := (HC6.out.mono (G := fun j => Fl' j ∨ j = w.heap.size) (fun _ _ h => .inr h)).trans hcA (fun _ _ h => .inl h)
                    refine (hBs.trans (hB9w.mono (by omega))).trans (hcc9.below (fun j hj => ?_) (by omega))
                    rcases hj with h | h
                    · have := hF' j h; omega
                    · omega
          · obtain rfl : s = fl.length := by omega
            have hdone : Bfs es m fm cs' ln' (t :: dn) := BfsI.done (by rw [← HFL.out]; exact HBs.out)
            have hml2 := mapLen_of hk
            have hbl2 := bfs_len HBs.out
            rw [show (cameL cs').length = cs'.length by simp [cameL]] at hml2
            have HML2 := Lib.hid hml2
            clear hml2
            go_wp2
            refine ⟨⟨cs', ln', t :: dn, Fl', Lib.hid hdone, hk, hs, hF', hBs, hzs, by simp; omega⟩, ?_⟩
            rw [HML2.out, HML.out]
            show 2 * (es.length - cs'.length) + ln'.length < 2 * (es.length - cs.length) + (ln.length + 1)
            omega
end Go.Proofs.YtooigfkjdemnlaaGreatDoor

namespace Go.Proofs.YtooigfkjdemnlaaGreatDoor
set_option maxRecDepth 100000
open Go.RowKit Go.Lib Go.Sort Go.Shelf Xw

def Grs (w w' : World) : Prop := ∃ q os, w' = grow (w.drewN q) os
theorem Grs.refl (w : World) : Grs w w := ⟨0, #[], by simp; rfl⟩
theorem Grs.trans {w w1 w2 : World} (h : Grs w w1) (h' : Grs w1 w2) : Grs w w2 := by
  obtain ⟨q, os, rfl⟩ := h
  obtain ⟨q', os', rfl⟩ := h'
  refine ⟨q + q', os ++ os', ?_⟩
  show grow (grow ((w.drewN q).drewN q') os) os' = _
  rw [grow_grow, World.drewN_drewN]
theorem Grs.alloc (w : World) (o : Obj) : Grs w (w.alloc o) := ⟨0, #[o], by rw [alloc_eq_grow]; rfl⟩
theorem Grs.drew (w : World) : Grs w w.drew := ⟨1, #[], by simp; rfl⟩
theorem Grs.below {w w' : World} (h : Grs w w') : Below w.heap.size w w' := by
  obtain ⟨q, os, rfl⟩ := h
  refine ⟨rfl, rfl, rfl, ?_, fun j hj => ?_⟩
  · rw [size_grow]; exact Nat.le_add_right _ _
  · exact heap_grow_old _ _ hj
structure Pt where
  txn : Nat
  cm : Bool
  pat : Int
instance : Inhabited Pt := ⟨⟨0, false, 0⟩⟩
def ptC (p : Pt) : List Value := [.int .i64 p.txn, .bool p.cm, .int .i64 p.pat]
def rank1 (h : List HTx) (p : Pt) : Int := match h[p.txn]? with
  | some x => if p.cm then x.fin else x.bgn
  | none => 0
def rank2 (h : List HTx) (p : Pt) : Int := match h[p.txn]? with
  | some x => if p.cm then 1 else if x.bgn = x.fin then 0 else 2
  | none => 0
def ptCmp (h : List HTx) (a b : Pt) : Int := orL [cmpI (rank1 h a) (rank1 h b), cmpI (rank2 h a) (rank2 h b), cmpI a.txn b.txn]
set_option maxHeartbeats 4000000 in
theorem rankT_ {w : World} {B lp lb : Nat} {h : List HTx} {ty : TypeId} (hl : Led w B lp h) (hlb : w.heap[lb]? = some (.cells #[.pointer (some ⟨lp, 0, none⟩)] ty)) (t : Nat) (pa : Int) (x : HTx) (hx : h[t]? = some x) :
    Calls Tryz.prog 71 #[.agg #[.int .i64 t, .bool true, .int .i64 pa], .pointer (some ⟨lb, 0, none⟩)] w fun e w' => e = .returned (.tuple #[.int .u64 (rank1 h ⟨t, true, pa⟩), .int .i64 (rank2 h ⟨t, true, pa⟩)]) ∧ Grs w w' := by
  obtain ⟨tv, wv, ob, kv, tyl, l1, l2, l3, l4, l5⟩ := hl.ex
  have hlp := hl.lt
  have hle := hl.le
  obtain ⟨W1, hW1⟩ : ∃ W1, W1 = w.alloc (.cells #[.int .i64 t, .bool true, .int .i64 pa] 112) := ⟨_, rfl⟩
  have hB1 : Below w.heap.size w W1 := by rw [hW1]; exact bel1 _ _
  have hz1 : W1.heap.size = w.heap.size + 1 := by rw [hW1]; simp
  have hbx : W1.heap[w.heap.size]? = some (.cells #[.int .i64 t, .bool true, .int .i64 pa] 112) := by rw [hW1]; exact heap_alloc_new _ _
  have hlow1 : ∀ j, j < B → W1.heap[j]? = w.heap[j]? := fun j hj => hB1.block j (by omega)
  have v0 := (cells_of (cs := [.int .i64 t, .bool true, .int .i64 pa]) hbx).1 0
  have v1 := (cells_of (cs := [.int .i64 t, .bool true, .int .i64 pa]) hbx).1 1
  have hlbl := lt_of_heap hlb
  have b0 := (World.cell?_of_block (a := ⟨lb, 0, none⟩) (hB1.block lb hlbl)).trans ((cells_of (cs := [.pointer (some ⟨lp, 0, none⟩)]) hlb).1 0)
  have q0 := (World.cell?_of_block (a := ⟨lp, 0, none⟩) (hlow1 lp hlp)).trans ((cells_of l1).1 0)
  obtain ⟨b3, p3, c3, ov3, he3, hb3, ⟨x0, x1, x2, x3, x4, x5, x6, x7, x8⟩, hro⟩ := HistV.get l2 hx (wr := W1) hlow1
  cases he3
  obtain ⟨OA, oc, rfl, hoc1, hoc2⟩ := hro.shape
  obtain ⟨_, _, hth, ht1, ht2⟩ := Rows.shape l2
  cases hth
  simp only [maxLen] at ht2
  have hti : (t : Int) < h.length := by have := (List.getElem?_eq_some_iff.1 hx).1; omega
  have i1 : lb < W1.heap.size := by omega
  have i2 : lp < W1.heap.size := by omega
  have i3 : b3 < W1.heap.size := by omega
  have i4 : w.heap.size < W1.heap.size := by omega
  have HW1 := Lib.hid hW1
  have HX := Lib.hid hx
  have HR : Hid (rank1 h ⟨t, true, pa⟩ = x.fin ∧ rank2 h ⟨t, true, pa⟩ = 1) := Lib.hid (by unfold rank1 rank2; simp only; rw [hx]; exact ⟨rfl, rfl⟩)
  clear hW1 hbx l1 l2 l3 l4 l5 hl hlb hx hro
  go_enter Tryz.func71, Tryz.ntmps71
  go_upto_region 1 with (fail)
  rw [← HW1.out]
  go_wp2_with (with_reducible refine wp_region_free (by kernel_rfl) (fun _ _ => ?_))
  refine bodyPost_ret (results_tmp2 rfl _ _ _) rfl ?_
  rw [HR.out.1, HR.out.2]
  refine ⟨rfl, ?_⟩
  rw [HW1.out]
  exact ((Grs.alloc _ _).trans (Grs.alloc _ _)).trans (Grs.drew _)
set_option maxHeartbeats 4000000 in
theorem rankF_ {w : World} {B lp lb : Nat} {h : List HTx} {ty : TypeId} (hl : Led w B lp h) (hlb : w.heap[lb]? = some (.cells #[.pointer (some ⟨lp, 0, none⟩)] ty)) (t : Nat) (pa : Int) (x : HTx) (hx : h[t]? = some x) :
    Calls Tryz.prog 71 #[.agg #[.int .i64 t, .bool false, .int .i64 pa], .pointer (some ⟨lb, 0, none⟩)] w fun e w' => e = .returned (.tuple #[.int .u64 (rank1 h ⟨t, false, pa⟩), .int .i64 (rank2 h ⟨t, false, pa⟩)]) ∧ Grs w w' := by
  obtain ⟨tv, wv, ob, kv, tyl, l1, l2, l3, l4, l5⟩ := hl.ex
  have hlp := hl.lt
  have hle := hl.le
  obtain ⟨W1, hW1⟩ : ∃ W1, W1 = w.alloc (.cells #[.int .i64 t, .bool false, .int .i64 pa] 112) := ⟨_, rfl⟩
  have hB1 : Below w.heap.size w W1 := by rw [hW1]; exact bel1 _ _
  have hz1 : W1.heap.size = w.heap.size + 1 := by rw [hW1]; simp
  have hbx : W1.heap[w.heap.size]? = some (.cells #[.int .i64 t, .bool false, .int .i64 pa] 112) := by rw [hW1]; exact heap_alloc_new _ _
  have hlow1 : ∀ j, j < B → W1.heap[j]? = w.heap[j]? := fun j hj => hB1.block j (by omega)
  have v0 := (cells_of (cs := [.int .i64 t, .bool false, .int .i64 pa]) hbx).1 0
  have v1 := (cells_of (cs := [.int .i64 t, .bool false, .int .i64 pa]) hbx).1 1
  have hlbl := lt_of_heap hlb
  have b0 := (World.cell?_of_block (a := ⟨lb, 0, none⟩) (hB1.block lb hlbl)).trans ((cells_of (cs := [.pointer (some ⟨lp, 0, none⟩)]) hlb).1 0)
  have q0 := (World.cell?_of_block (a := ⟨lp, 0, none⟩) (hlow1 lp hlp)).trans ((cells_of l1).1 0)
  obtain ⟨b3, p3, c3, ov3, he3, hb3, ⟨x0, x1, x2, x3, x4, x5, x6, x7, x8⟩, hro⟩ := HistV.get l2 hx (wr := W1) hlow1
  cases he3
  obtain ⟨OA, oc, rfl, hoc1, hoc2⟩ := hro.shape
  obtain ⟨_, _, hth, ht1, ht2⟩ := Rows.shape l2
  cases hth
  simp only [maxLen] at ht2
  have hti : (t : Int) < h.length := by have := (List.getElem?_eq_some_iff.1 hx).1; omega
  have i1 : lb < W1.heap.size := by omega
  have i2 : lp < W1.heap.size := by omega
  have i3 : b3 < W1.heap.size := by omega
  have i4 : w.heap.size < W1.heap.size := by omega
  have HW1 := Lib.hid hW1
  have HX := Lib.hid hx
  by_cases hbf : x.bgn = x.fin
  · have hbq : (x.bgn == x.fin) = true := by simp [hbf]
    have HR : Hid (rank1 h ⟨t, false, pa⟩ = x.bgn ∧ rank2 h ⟨t, false, pa⟩ = 0) := Lib.hid (by unfold rank1 rank2; simp only; rw [hx]; exact ⟨rfl, by simp [hbf]⟩)
    clear hW1 hbx l1 l2 l3 l4 l5 hl hlb hx hro hbf
    go_enter Tryz.func71, Tryz.ntmps71
    go_upto_region 1 with (fail)
    rw [← HW1.out]
    go_wp2_with (with_reducible refine wp_region_free (by kernel_rfl) (fun _ _ => ?_))
    refine bodyPost_ret (results_tmp2 rfl _ _ _) rfl ?_
    rw [HR.out.1, HR.out.2]
    refine ⟨rfl, ?_⟩
    rw [HW1.out]
    exact ((Grs.alloc _ _).trans (Grs.alloc _ _)).trans (Grs.drew _)
  · have hbq : (x.bgn == x.fin) = false := by simp [hbf]
    have HR : Hid (rank1 h ⟨t, false, pa⟩ = x.bgn ∧ rank2 h ⟨t, false, pa⟩ = 2) := Lib.hid (by unfold rank1 rank2; simp only; rw [hx]; exact ⟨rfl, by simp [hbf]⟩)
    clear hW1 hbx l1 l2 l3 l4 l5 hl hlb hx hro hbf
    go_enter Tryz.func71, Tryz.ntmps71
    go_upto_region 1 with (fail)
    rw [← HW1.out]
    go_wp2_with (with_reducible refine wp_region_free (by kernel_rfl) (fun _ _ => ?_))
    refine bodyPost_ret (results_tmp2 rfl _ _ _) rfl ?_
    rw [HR.out.1, HR.out.2]
    refine ⟨rfl, ?_⟩
    rw [HW1.out]
    exact ((Grs.alloc _ _).trans (Grs.alloc _ _)).trans (Grs.drew _)
theorem rank_ {w : World} {B lp lb : Nat} {h : List HTx} {ty : TypeId} (hl : Led w B lp h) (hlb : w.heap[lb]? = some (.cells #[.pointer (some ⟨lp, 0, none⟩)] ty)) (p : Pt) (x : HTx) (hx : h[p.txn]? = some x) :
    Calls Tryz.prog 71 #[.agg #[.int .i64 p.txn, .bool p.cm, .int .i64 p.pat], .pointer (some ⟨lb, 0, none⟩)] w fun e w' => e = .returned (.tuple #[.int .u64 (rank1 h p), .int .i64 (rank2 h p)]) ∧ Grs w w' := by
  obtain ⟨t, c, a⟩ := p
  cases c
  · exact rankF_ hl hlb t a x hx
  · exact rankT_ hl hlb t a x hx
set_option maxHeartbeats 4000000 in
theorem ptCmp_ {w : World} {B lp lb fb : Nat} {h : List HTx} {ty ty2 : TypeId} (hl : Led w B lp h) (hlb : w.heap[lb]? = some (.cells #[.pointer (some ⟨lp, 0, none⟩)] ty)) (hfb : w.heap[fb]? = some (.cells #[.func (.func 71) #[] #[.pointer (some ⟨lb, 0, none⟩)]] ty2))
    (a b : Pt) (x y : HTx) (hx : h[a.txn]? = some x) (hy : h[b.txn]? = some y) :
    Calls Tryz.prog 73 #[.agg #[.int .i64 a.txn, .bool a.cm, .int .i64 a.pat], .agg #[.int .i64 b.txn, .bool b.cm, .int .i64 b.pat], .pointer (some ⟨fb, 0, none⟩)] w fun e w' => e = .returned (.int .i64 (ptCmp h a b)) ∧ Grs w w' := by
  have H : Hid (ptCmp h a b = orL [cmpI (rank1 h a) (rank1 h b), cmpI (rank2 h a) (rank2 h b), cmpI a.txn b.txn]) := Lib.hid rfl
  obtain ⟨x1, hx1⟩ : ∃ x, cmpI (rank1 h a) (rank1 h b) = x := ⟨_, rfl⟩
  obtain ⟨x2, hx2⟩ : ∃ x, cmpI (rank2 h a) (rank2 h b) = x := ⟨_, rfl⟩
  obtain ⟨x3, hx3⟩ : ∃ x, cmpI a.txn b.txn = x := ⟨_, rfl⟩
  rw [hx1, hx2, hx3] at H
  obtain ⟨a1, ha1⟩ : ∃ r, r = rank1 h a := ⟨_, rfl⟩
  obtain ⟨a2, ha2⟩ : ∃ r, r = rank2 h a := ⟨_, rfl⟩
  obtain ⟨b1, hb1⟩ : ∃ r, r = rank1 h b := ⟨_, rfl⟩
  obtain ⟨b2, hb2⟩ : ∃ r, r = rank2 h b := ⟨_, rfl⟩
  rw [← ha1, ← hb1] at hx1
  rw [← ha2, ← hb2] at hx2
  have c1 : Hid (∀ w, Calls Tryz.prog 75 #[.int .u64 a1, .int .u64 b1] w fun e w' => e = .returned (.int .i64 x1) ∧ w' = w) := Lib.hid (fun w => (compare_u64_ a1 b1 w).mono (by rintro e w' ⟨rfl, rfl⟩; rw [hx1]; exact ⟨rfl, rfl⟩))
  have c2 : Hid (∀ w, Calls Tryz.prog 76 #[.int .i64 a2, .int .i64 b2] w fun e w' => e = .returned (.int .i64 x2) ∧ w' = w) := Lib.hid (fun w => (compare_int_ a2 b2 w).mono (by rintro e w' ⟨rfl, rfl⟩; rw [hx2]; exact ⟨rfl, rfl⟩))
  have c3 : Hid (∀ w, Calls Tryz.prog 76 #[.int .i64 a.txn, .int .i64 b.txn] w fun e w' => e = .returned (.int .i64 x3) ∧ w' = w) := Lib.hid (fun w => (compare_int_ a.txn b.txn w).mono (by rintro e w' ⟨rfl, rfl⟩; rw [hx3]; exact ⟨rfl, rfl⟩))
  have hlbl := lt_of_heap hlb
  have hfbl := lt_of_heap hfb
  have hle := hl.le
  obtain ⟨W1, hW1⟩ : ∃ W1, W1 = (w.alloc (.cells #[.int .i64 a.txn, .bool a.cm, .int .i64 a.pat] 112)).alloc (.cells #[.int .i64 b.txn, .bool b.cm, .int .i64 b.pat] 112) := ⟨_, rfl⟩
  have hG1 : Grs w W1 := by rw [hW1]; exact (Grs.alloc _ _).trans (Grs.alloc _ _)
  have hz1 : W1.heap.size = w.heap.size + 2 := by rw [hW1]; simp
  have hB1 := hG1.below
  have ha : W1.heap[w.heap.size]? = some (.cells #[.int .i64 a.txn, .bool a.cm, .int .i64 a.pat] 112) := by rw [hW1, heap_alloc_lt (by simp)]; exact heap_alloc_new _ _
  have hb : W1.heap[w.heap.size + 1]? = some (.cells #[.int .i64 b.txn, .bool b.cm, .int .i64 b.pat] 112) := by rw [hW1]; exact top_al _ _ (by simp)
  have hl1 := hl.below hB1 hl.le
  have hlb1 := (hB1.block lb hlbl).trans hlb
  have hfb1 := (hB1.block fb hfbl).trans hfb
  have f0 := (cells_of (cs := [.func (.func 71) #[] #[.pointer (some ⟨lb, 0, none⟩)]]) hfb1).1 0
  have u0 := (cells_of (cs := [.int .i64 a.txn, .bool a.cm, .int .i64 a.pat]) ha).1 0
  have u1 := (cells_of (cs := [.int .i64 a.txn, .bool a.cm, .int .i64 a.pat]) ha).1 1
  have u2 := (cells_of (cs := [.int .i64 a.txn, .bool a.cm, .int .i64 a.pat]) ha).1 2
  have eg : ∀ args w, (callFunc 71 args).run Tryz.prog w = .ok (.enter 71 args) w := enters_of Tryz.func71 (by kernel_rfl) rfl
  have hr1 := rank_ hl1 hlb1 a x hx
  rw [← ha1, ← ha2] at hr1
  have HR1 := Lib.hid hr1
  have HR2 : Hid (∀ W, Below W1.heap.size W1 W → Calls Tryz.prog 71 #[.agg #[.int .i64 b.txn, .bool b.cm, .int .i64 b.pat], .pointer (some ⟨lb, 0, none⟩)] W fun e w' => e = .returned (.tuple #[.int .u64 b1, .int .i64 b2]) ∧ Grs W w') := Lib.hid (fun W hW => by
    have := rank_ (hl1.below hW hl1.le) ((hW.block lb (by omega)).trans hlb1) b y hy
    rw [← hb1, ← hb2] at this
    exact this)
  have HA := Lib.hid (And.intro ha (And.intro hb hfb1))
  have HW1 := Lib.hid hW1
  have i1 : fb < W1.heap.size := by omega
  have i2 : w.heap.size < W1.heap.size := by omega
  have HZ1 := Lib.hid hz1
  clear hW1 hr1 hx1 hx2 hx3 ha1 ha2 hb1 hb2 ha hb hl1 hlb1 hfb1 hl hlb hfb hx hy hz1
  go_enter Tryz.func73, Tryz.ntmps73
  go_upto_region 1 with (fail)
  rw [← HW1.out]
  go_upto_region 2 with (go_at_fn 71; with_reducible refine HR1.out.mono ?_; rintro e w2 ⟨rfl, hG2⟩)
  have hB2 := hG2.below
  have HR3 := Lib.hid (HR2.out w2 hB2)
  obtain ⟨A1, A2, A3⟩ := HA.out
  have hz2 := hB2.size
  have hz1 := HZ1.out
  have f02 := (World.cell?_of_block (a := ⟨fb, 0, none⟩) (hB2.block fb i1)).trans f0
  have hbb := (hB2.block (w.heap.size + 1) (by omega)).trans A2
  have w0 := (cells_of (cs := [.int .i64 b.txn, .bool b.cm, .int .i64 b.pat]) hbb).1 0
  have w1 := (cells_of (cs := [.int .i64 b.txn, .bool b.cm, .int .i64 b.pat]) hbb).1 1
  have w2' := (cells_of (cs := [.int .i64 b.txn, .bool b.cm, .int .i64 b.pat]) hbb).1 2
  have i3 : fb < w2.heap.size := by omega
  have i4 : w.heap.size + 1 < w2.heap.size := by omega
  clear f0 u0 u1 u2 A1 A2 A3 hz1 hbb
  go_upto_region 3 with (go_at_fn 71; with_reducible refine HR3.out.mono ?_; rintro e w4 ⟨rfl, hG4⟩)
  have hB4 := hG4.below
  have hG14 := hG2.trans hG4
  have hB14 := hG14.below
  have hz4 := hB14.size
  obtain ⟨A1, A2, A3⟩ := HA.out
  have hz1 := HZ1.out
  have q0 := (World.cell?_of_block (a := ⟨w.heap.size, 0, none⟩) (hB14.block w.heap.size i2)).trans ((cells_of (cs := [.int .i64 a.txn, .bool a.cm, .int .i64 a.pat]) A1).1 0)
  have q1 := (World.cell?_of_block (a := ⟨w.heap.size + 1, 0, none⟩) (hB14.block (w.heap.size + 1) (by omega))).trans ((cells_of (cs := [.int .i64 b.txn, .bool b.cm, .int .i64 b.pat]) A2).1 0)
  have q0' : w4.cell? ⟨w.heap.size, 0, none⟩ = some (.int .i64 a.txn) := q0
  have q1' : w4.cell? ⟨w.heap.size + 1, 0, none⟩ = some (.int .i64 b.txn) := q1
  have i5 : w.heap.size < w4.heap.size := by omega
  have i6 : w.heap.size + 1 < w4.heap.size := by omega
  have c5 : Hid (Calls Tryz.prog 74 #[.slice (some ⟨w4.heap.size, 0, none⟩) 3 3] (w4.alloc (.cells #[.int .i64 x1, .int .i64 x2, .int .i64 x3] 3)).drew fun e w' => e = .returned (.int .i64 (orL [x1, x2, x3])) ∧ w' = (w4.alloc (.cells #[.int .i64 x1, .int .i64 x2, .int .i64 x3] 3)).drew) :=
    Lib.hid (or_ [x1, x2, x3] w4.heap.size _ (cells_of (cs := [.int .i64 x1, .int .i64 x2, .int .i64 x3]) (heap_alloc_new w4 _)).1 (by simp))
  clear q0 q1 A1 A2 A3 hz1 w0 w1 w2' f02
  go_region_held3 (fun w' => w'.cell? ⟨w.heap.size, 0, none⟩ = some (.int .i64 a.txn) ∧ w'.cell? ⟨w.heap.size + 1, 0, none⟩ = some (.int .i64 b.txn)) (first | exact ⟨q0', q1'⟩ | go_keep)
    (first
      | (go_at_call 75; with_reducible refine (c1.out _).mono ?_; rintro e w' ⟨rfl, rfl⟩)
      | (go_at_call 76; with_reducible refine (c2.out _).mono ?_; rintro e w' ⟨rfl, rfl⟩)
      | (go_at_call 76; with_reducible refine (c3.out _).mono ?_; rintro e w' ⟨rfl, rfl⟩)
      | (go_at_call 74; with_reducible refine (c5.out).mono ?_; rintro e w' ⟨rfl, rfl⟩))
  all_goals (
    go_wp2
    go_ret
    refine ⟨ret_int (by rw [H.out]), ?_⟩
    exact (hG1.trans hG14).trans ((Grs.alloc _ _).trans (Grs.drew _)))
end Go.Proofs.YtooigfkjdemnlaaGreatDoor
