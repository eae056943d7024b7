/- Own texts of this claim, joined in build order: E8. -/
import Derived.Test.YtooigfkjdemnlaaGreatDoorG17
import Derived.Test.YtooigfkjdemnlaaGreatDoorG13
import Derived.Test.YtooigfkjdemnlaaGreatDoorG16
import Derived.Deep.Cut
set_option linter.all false
namespace Go.Proofs.YtooigfkjdemnlaaGreatDoor
set_option maxRecDepth 100000
open Go.RowKit Go.Lib Go.Sort Go.Shelf Xw
attribute [local go_sem] Oper.semAt_some

def ScanIx (w : World) (B lp gb : Nat) (h : List HTx) (a2 : Value) (F : Nat → Prop) (ord : List Inst) (mk : Inst → List Edge) (pre : List (Fin ord.length)) (W : World) : Prop :=
  ∃ i, pre = [i] ∧ GrTo w W B lp gb h a2 F (mk ord[i])
theorem Sl.grown {w w' : World} {e : TypeId} {size n : Nat} {v : Value} {xs : List Value} {F : Nat → Prop} {row : Option Nat} (h : Sl w e size v n xs F) (hg : w.grownBy w' row) (hr : ∀ r, row = some r → ∃ o : Obj, w.heap[r]? = some o ∧ o.isCells = false) : Sl w' e size v n xs F :=
  ⟨h.1, h.2.imp id fun ⟨g, off, cap, cur, hv, hF, hb, r⟩ => ⟨g, off, cap, cur, hv, hF, (hg.block _ (lt_of_heap hb) (fun e => by obtain ⟨o', h1, h2⟩ := hr _ e.symm; rw [hb] at h1; cases h1; cases h2)).trans hb, r⟩⟩
theorem GrTo.grown {w W W' : World} {B lp gb : Nat} {h : List HTx} {a2 : Value} {F : Nat → Prop} {l : List Edge} {row : Option Nat} (hB : B ≤ w.heap.size) (H : GrTo w W B lp gb h a2 F l) (hgr : W.grownBy W' row) (hr : ∀ r, row = some r → w.heap.size ≤ r ∧ ∃ o : Obj, W.heap[r]? = some o ∧ o.isCells = false) : GrTo w W' B lp gb h a2 F l := by
  obtain ⟨F', ⟨hl, ⟨ev, h1, h2⟩, ho, hg⟩, h3, h4⟩ := H
  have hlow : ∀ j, j < w.heap.size → j < W.heap.size → W'.heap[j]? = W.heap[j]? := fun j hj hj2 => hgr.block j hj2 (fun e => by have := (hr _ e.symm).1; omega)
  have hsz := h3.size
  refine ⟨F', ⟨hl.keep (fun j hj => hlow j (by omega) (by omega)) hgr.size, ⟨ev, ?_, h2.grown hgr (fun r e => (hr r e).2)⟩, fun j hj => ⟨(ho j hj).1, (ho j hj).2.1, Nat.lt_of_lt_of_le (ho j hj).2.2 hgr.size⟩, hg⟩, ?_, fun j hj => ?_⟩
  · exact (hgr.block gb (lt_of_heap h1) (fun e => by obtain ⟨_, o', g1, g2⟩ := hr _ e.symm; rw [h1] at g1; cases g1; cases g2)).trans h1
  · exact ⟨hgr.tape.trans h3.tape, hgr.os.trans h3.os, hgr.output.trans h3.out, Nat.le_trans h3.size hgr.size, fun j hj hn => (hlow j hj (Nat.lt_of_lt_of_le hj hsz)).trans (h3.block j hj hn)⟩
  · exact (h4 j hj).imp_right fun h => ⟨h.1, Nat.lt_of_lt_of_le h.2 hgr.size⟩
theorem ScanIx.own {w : World} {B lp gb : Nat} {h : List HTx} {a2 : Value} {F : Nat → Prop} {ord : List Inst} {mk : Inst → List Edge} (hB : B ≤ w.heap.size) : OwnFrom w.heap.size (ScanIx w B lp gb h a2 F ord mk) := by
  rintro pre W W' row ⟨i, hp, hto⟩ hgr hr
  exact ⟨i, hp, hto.grown hB hgr hr⟩
theorem Sl.cellsOnly {w : World} {e : TypeId} {size n : Nat} {v : Value} {xs : List Value} {F : Nat → Prop} (h : Sl w e size v n xs F) : Sl w e size v n xs (fun j => F j ∧ ∃ cs t z, w.heap[j]? = some (.cells cs t z)) :=
  ⟨h.1, h.2.imp id fun ⟨g, off, cap, cur, hv, hF, hb, r⟩ => ⟨g, off, cap, cur, hv, ⟨hF, _, _, _, hb⟩, hb, r⟩⟩
theorem GrTo.cells {w W : World} {B lp gb : Nat} {h : List HTx} {a2 : Value} {F : Nat → Prop} {l : List Edge} (H : GrTo w W B lp gb h a2 F l) :
    ∃ F', Gr W B lp gb h a2 l F' ∧ Chg (fun j => F j ∨ j = gb) w W ∧ From F w W F' ∧ ∀ j, F' j → ∃ cs t z, W.heap[j]? = some (.cells cs t z) := by
  obtain ⟨F', ⟨hl, ⟨ev, h1, h2⟩, ho, hg⟩, h3, h4⟩ := H
  exact ⟨fun j => F' j ∧ ∃ cs t z, W.heap[j]? = some (.cells cs t z), ⟨hl, ⟨ev, h1, h2.cellsOnly⟩, fun j hj => ho j hj.1, hg⟩, h3, fun j hj => h4 j hj.1, fun j hj => hj.2⟩
theorem grownBy_put (W : World) (l : Nat) (o : Obj) : W.grownBy (W.putObj l o) (some l) :=
  ⟨rfl, rfl, rfl, by simp, fun k _ hk => World.putObj_heap_other (fun e => hk (by rw [e]))⟩
theorem scanDown_len (h : List HTx) (t n : Nat) (k : ByteArray) (l : List Edge) : (scanDown h t n k l).length ≤ l.length + 1 := by
  unfold scanDown edgeAt
  split
  · split
    · exact addE_len _ _ _ _ _
    · omega
  · omega
theorem scanN_le (h : List HTx) (t : Nat) (o : HOpr) (k : ByteArray) : scanN h t o k ≤ (order h k).length := by
  unfold scanN
  cases hv : tellsAt o k with
  | none => exact chosenUpto_le _ _ _ _
  | some v =>
    have hk : v.key = k := by
      unfold tellsAt at hv
      have := List.find?_some hv
      simpa using this
    have := standing_lt h v
    rw [hk] at this
    have h2 := standing_ge h v
    simp only
    omega
set_option maxHeartbeats 8000000 in
theorem scan_ {w : World} {B lp gb : Nat} {h : List HTx} {a2 : Value} {l : List Edge} {F : Nat → Prop} (H : Gr w B lp gb h a2 l F) (t : Nat) (x : HTx) (hx : h[t]? = some x) (sv : Value) (o : HOpr) (hs : Rows w B 3 (Flat verC) sv o.seen) (k : ByteArray)
    (hsee : ∀ v ∈ o.seen, ∃ y, (if 0 ≤ v.frm then h[v.frm.toNat]? else none) = some y) (hb : l.length + 2 < 68719476736) (hn : h.length ≤ 256) :
    Calls Tryz.prog 53 #[.pointer (some ⟨gb, 0, none⟩), .int .i64 t, .agg #[.int .i64 o.kind, .string o.ver.key, .int .i64 o.ver.frm, .int .i64 o.ver.nth, .bool o.dead, .string o.value, .string o.hi, sv, .int .u64 o.at_], .string k] w fun e w' =>
      e = .returned (.tuple #[]) ∧ GrTo w w' B lp gb h a2 F (scanE h t o k l) := by
  obtain ⟨sA, sc, rfl, hsn, hsm⟩ := hs.shape
  have hle := H.led.le
  have hlp := H.led.lt
  have hgl := H.gbl
  obtain ⟨OS, hOS⟩ : ∃ OS : List Obj, OS = [.cells #[.pointer (some ⟨gb, 0, none⟩)] 91, .cells #[.int .i64 t] 3, .cells #[.int .i64 o.kind, .string o.ver.key, .int .i64 o.ver.frm, .int .i64 o.ver.nth, .bool o.dead, .string o.value, .string o.hi, .slice sA o.seen.length sc, .int .u64 o.at_] 59, .cells #[.string k] 9] := ⟨_, rfl⟩
  obtain ⟨W1, hW1⟩ : ∃ W1, W1 = allocL w OS := ⟨_, rfl⟩
  have hz1 : W1.heap.size = w.heap.size + 4 := by rw [hW1, allocL_size, hOS]; rfl
  have hB1 : Below w.heap.size w W1 := by rw [hW1]; exact allocL_below _ _ _ (Nat.le_refl _)
  have hget : ∀ j o, OS[j]? = some o → W1.heap[w.heap.size + j]? = some o := by rw [hW1]; exact allocL_get _ w
  have x0 := hget 0 _ (by rw [hOS]; rfl)
  have x1 := hget 1 _ (by rw [hOS]; rfl)
  have x2 := hget 2 _ (by rw [hOS]; rfl)
  have x3 := hget 3 _ (by rw [hOS]; rfl)
  rw [Nat.add_zero] at x0
  rw [hOS] at hW1
  simp only [allocL] at hW1
  have HW := Lib.hid hW1; clear hW1 hget hOS
  have H1 := H.below hB1
  obtain ⟨ev1, hg1, _⟩ := H1.blk
  have g0 := (cells_of hg1).1 0
  obtain ⟨tv, wv, ob, kv, ty, l1, l2, l3, l4, l5⟩ := H1.led.ex
  have hobB := l4.1
  have q2 := (cells_of l1).1 2
  obtain ⟨L, hL, hlk⟩ := l4.look
  have hlkk := hlk k
  obtain ⟨V, hV⟩ : ∃ V, V = (kget L k).getD (.slice none 0 0) := ⟨_, rfl⟩
  rw [← hV] at hlkk
  obtain ⟨OA, oc, rfl, hoc1, hoc2⟩ := hlkk.shape
  simp only [maxLen] at hoc2
  have HV := Lib.hid hV
  have c0 := (heap_cell x0).1
  have c1 := (heap_cell x1).1
  have c3 := (heap_cell x3).1
  have z0 : w.heap.size < W1.heap.size := by omega
  have z3 : w.heap.size + 3 < W1.heap.size := by omega
  have hgb1 : gb < W1.heap.size := by omega
  have hlp1 : lp < W1.heap.size := by omega
  have HORD := Lib.hid hlkk
  clear hV l1 l2 l3 l5 hlk
  refine (callsIn_wide (n := 9)).1 ?_
  refine callsIn_of_wp_marks Tryz.func53 rfl trivial ?_ rfl
  simp only [Tryz.ntmps53, List.size_toArray, List.length_cons, List.length_nil, Nat.reduceAdd, Nat.reduceSub, Array.replicate_succ, Array.replicate_zero, List.push_toArray, List.append_toArray, List.nil_append, List.cons_append]
  refine wpIn_wide.2 ?_
  go_upto_region 1 with (fail)
  rw [← HW.out]
  go_upto_region 3 with (first
    | (with_reducible refine wp_region_free (by kernel_rfl) (fun _ _ => ?_))
    | (at_lookup; (refine wpList_lookup_k kString (.tmp 20) (.tmp 21) _ 123 rfl rfl Tryz.underlying81 (.slice none 0 0) zero_slice_inst ob k rfl rfl (hL.keep rfl) ?_; rw [← HV.out])))
  obtain ⟨W3, hW3⟩ : ∃ W3, W3 = (W1.alloc (.cells #[.slice OA (order h k).length oc] 123)).drew := ⟨_, rfl⟩
  rw [← hW3]
  have hB3 : Below W1.heap.size W1 W3 := by rw [hW3]; exact (bel1 _ _).drew
  have hz3 : W3.heap.size = w.heap.size + 5 := by rw [hW3]; show (W1.alloc _).heap.size = _; rw [World.size_alloc, hz1]
  have y8 : W3.heap[w.heap.size + 4]? = some (.cells #[.slice OA (order h k).length oc] 123) := by rw [hW3]; exact top_al _ _ (by rw [hz1])
  have hBw3 : Below w.heap.size w W3 := hB1.trans (hB3.mono (by omega))
  have HW3 := Lib.hid hW3; clear hW3
  have y0 := (hB3.block w.heap.size (by omega)).trans x0
  have y1 := (hB3.block (w.heap.size + 1) (by omega)).trans x1
  have y2 : W3.heap[w.heap.size + 1 + 1]? = _ := (hB3.block (w.heap.size + 2) (by omega)).trans x2
  have y3 : W3.heap[w.heap.size + 1 + 1 + 1]? = _ := (hB3.block (w.heap.size + 3) (by omega)).trans x3
  obtain ⟨d, df⟩ := cells_of (cs := [.int .i64 o.kind, .string o.ver.key, .int .i64 o.ver.frm, .int .i64 o.ver.nth, .bool o.dead, .string o.value, .string o.hi, .slice sA o.seen.length sc, .int .u64 o.at_]) y2
  have d0 := d 0
  have d1 := d 1
  have d2 := d 2
  have d3 := d 3
  have d4 := d 4
  have d5 := d 5
  have d6 := d 6
  have d7 := d 7
  have d8 := d 8
  have e3 := (heap_cell y3).1
  have hte := Lib.hid (tells_ (.slice sA o.seen.length sc) o k W3 ((hs.flat (keep_of hBw3 (by omega))).flatMore (by omega)))
  have Y0 := Lib.hid y0
  have Y1 := Lib.hid y1
  have Y2 := Lib.hid y2
  have Y3 := Lib.hid y3
  have Y8 := Lib.hid y8
  have H3 := H1.below hB3
  have hL3 := hL.keep (hB3.block ob (by omega))
  clear c0 c1 c3 x0 x1 x2 x3 d df g0 q2 y0 y1 y2 y3 y8 hg1 l4 hlkk hL
  obtain ⟨TV, hTV⟩ : ∃ TV, TV = (tellsAt o k).getD ver0 := ⟨_, rfl⟩
  obtain ⟨b, hbS⟩ : ∃ b, b = (tellsAt o k).isSome := ⟨_, rfl⟩
  rw [← hTV, ← hbS] at hte
  have HTV := Lib.hid hTV
  have HBS := Lib.hid hbS
  clear hTV hbS
  go_upto_region 4 with (go_at_call 95; refine hte.out.mono ?_; rintro e w4 ⟨rfl, hB4⟩; simp only [verC])
  obtain ⟨W5, hW5⟩ : ∃ W5, W5 = w4.alloc (.cells #[.string TV.key, .int .i64 TV.frm, .int .i64 TV.nth] 56) := ⟨_, rfl⟩
  rw [← hW5]
  have hz4 := hB4.size
  have hB5 : Below W3.heap.size W3 W5 := by rw [hW5]; exact hB4.alloc (by omega) _
  have hz5 : W5.heap.size = w4.heap.size + 1 := by rw [hW5]; simp
  have y9 : W5.heap[w4.heap.size]? = some (.cells #[.string TV.key, .int .i64 TV.frm, .int .i64 TV.nth] 56) := by rw [hW5]; exact heap_alloc_new _ _
  have HW5 := Lib.hid hW5; clear hW5
  have H5 := H3.below hB5
  obtain ⟨f0, f1, f2⟩ : W5.cell? ⟨w4.heap.size, 0, none⟩ = some (.string TV.key) ∧ W5.cell? ⟨w4.heap.size, 1, none⟩ = some (.int .i64 TV.frm) ∧ W5.cell? ⟨w4.heap.size, 2, none⟩ = some (.int .i64 TV.nth) := ⟨(cells_of y9).1 0, (cells_of y9).1 1, (cells_of y9).1 2⟩
  have c0 := (heap_cell ((hB5.block w.heap.size (by omega)).trans Y0.out)).1
  have c1 := (heap_cell ((hB5.block (w.heap.size + 1) (by omega)).trans Y1.out)).1
  have c3 := (heap_cell ((hB5.block (w.heap.size + 1 + 1 + 1) (by omega)).trans Y3.out)).1
  have c2 := (cells_of (cs := [.int .i64 o.kind, .string o.ver.key, .int .i64 o.ver.frm, .int .i64 o.ver.nth, .bool o.dead, .string o.value, .string o.hi, .slice sA o.seen.length sc, .int .u64 o.at_]) ((hB5.block (w.heap.size + 1 + 1) (by omega)).trans Y2.out)).1 8
  obtain ⟨ev5, hg5, _⟩ := H5.blk
  have g0 := (cells_of hg5).1 0
  have hgb5 : gb < W5.heap.size := by omega
  have n0 : w.heap.size < W5.heap.size := by omega
  have n1 : w.heap.size + 1 < W5.heap.size := by omega
  have n2 : w.heap.size + 1 + 1 < W5.heap.size := by omega
  have n3 : w.heap.size + 1 + 1 + 1 < W5.heap.size := by omega
  have n4 : w4.heap.size < W5.heap.size := by omega
  have hz5' : w.heap.size + 5 ≤ W5.heap.size := by omega
  clear hg5 y9 d0 d1 d2 d3 d4 d5 d6 d7 d8 e3 hz5 hz4
  have hnle := scanN_le h t o k
  have hol := insUpto_len h h.length k
  rw [← order_len] at hol
  go_upto_if 29 with (fail)
  go_cut [9] from 14 (fun v wx => ∃ n : Nat, v = .int .i64 n ∧ Hid (n = scanN h t o k ∧ ¬ ((tellsAt o k).isSome = true ∧ n = 0)) ∧ Below W5.heap.size W5 wx)
  case first =>
    cases b
    · go_wp2_with (first
        | (with_reducible refine wp_region_free (by kernel_rfl) (fun _ _ => ?_))
        | (go_at_call 96; refine (chosen_ H5.led.drew t k o.at_).mono ?_; rintro e w6 ⟨rfl, hB6⟩))
      go_meet
      case rel =>
        refine ⟨_, rfl, Lib.hid ⟨?_, ?_⟩, (Below.refl _ _).drew.trans hB6⟩
        · unfold scanN
          cases hT : tellsAt o k with
          | none => rfl
          | some v => have := HBS.out; rw [hT] at this; cases this
        · rw [← HBS.out]; simp
    · obtain ⟨v, hv⟩ : ∃ v, tellsAt o k = some v := Option.isSome_iff_exists.1 HBS.out.symm
      have hTV2 : TV = v := by rw [HTV.out, hv]; rfl
      have hvm : v ∈ o.seen := List.mem_of_find?_eq_some hv
      obtain ⟨y, hy⟩ := hsee v hvm
      have hN : scanN h t o k = (standing h v + 1).toNat := by unfold scanN; rw [hv]
      have hS0 := standing_ge h v
      obtain ⟨S, hS⟩ : ∃ S, S = standing h v := ⟨_, rfl⟩
      rw [← hS] at hN hS0
      obtain ⟨m, hm⟩ : ∃ m : Nat, (m : Int) = S + 1 := ⟨(S + 1).toNat, by omega⟩
      have hmN : m = scanN h t o k := by rw [hN]; omega
      have hSw : IntKind.i64.wrap (S + 1) = m := by rw [hm, IntKind.wrap_i64]; omega
      have hvf : 0 ≤ v.frm := by
        rcases Int.lt_or_le v.frm 0 with h0 | h0
        · rw [if_neg (by omega)] at hy; cases hy
        · exact h0
      rw [if_pos hvf] at hy
      have hst := Lib.hid (fun w' (hl' : Led w' B lp h) => standing_ hl' v v.frm.toNat y hy (by omega))
      rw [← hS] at hst
      subst hTV2
      have HMN := Lib.hid hmN
      have HSm := Lib.hid hm
      have HV2 := Lib.hid hv
      clear hy hvf hN hS hmN hvm hm hv
      by_cases hm0 : m = 0
      · subst hm0
        go_wp2_with (first
          | (with_reducible refine wp_region_free (by kernel_rfl) (fun _ _ => ?_))
          | (go_at_call 94; refine (hst.out _ H5.led.drew).mono ?_; rintro e w6 ⟨rfl, hB6⟩))
        refine ⟨.tuple #[], by simp [results, Tryz.f53, go_sem], ?_⟩
        have hsc : scanE h t o k l = l := by
          unfold scanE
          rw [if_pos ⟨HBS.out.symm, HMN.out.symm⟩]
        rw [hsc]
        exact ⟨rfl, (GrTo.refl H).below_right ((hBw3.trans (hB5.mono (by omega))).trans ((Below.refl _ _).drew.trans (hB6.mono (by show _ ≤ W5.heap.size; omega))))⟩
      · have hm1 : ((m : Int) == 0) = false := by simp [hm0]
        have HM0 := Lib.hid hm0
        clear hm0
        go_wp2_with (first
          | (with_reducible refine wp_region_free (by kernel_rfl) (fun _ _ => ?_))
          | (go_at_call 94; refine (hst.out _ H5.led.drew).mono ?_; rintro e w6 ⟨rfl, hB6⟩))
        go_meet
        case rel => exact ⟨m, rfl, Lib.hid ⟨HMN.out, fun h => HM0.out h.2⟩, (Below.refl _ _).drew.trans hB6⟩
  case rest =>
    obtain ⟨n, rfl, HN, hBc⟩ := hcut
    have hzc := hBc.size
    have hnw : IntKind.i64.wrap ((n : Int) - 1) = (n : Int) - 1 := by rw [IntKind.wrap_i64]; have := HN.out.1; omega
    have hB35 : Below W3.heap.size W3 wc := hB5.trans (hBc.mono (by omega))
    have Hc := H3.below hB35
    have hBwc : Below w.heap.size w wc := hBw3.trans (hB35.mono (by omega))
    have a0 := (hB35.block w.heap.size (by omega)).trans Y0.out
    have a1 := (hB35.block (w.heap.size + 1) (by omega)).trans Y1.out
    have a3 := (hB35.block (w.heap.size + 1 + 1 + 1) (by omega)).trans Y3.out
    have a8 := (hB35.block (w.heap.size + 4) (by omega)).trans Y8.out
    have b8 := (heap_cell a8).1
    clear f0 f1 f2 c0 c1 c2 c3 g0
    go_wp2_with (go_at_call 97; refine (turns_ _ _ _ _ ⟨_, _, _, rfl⟩).mono ?_; rintro e w6 ⟨rfl, rfl⟩)
    obtain ⟨W7, hW7⟩ : ∃ W7, W7 = ((wc.alloc (.cells #[.slice OA (order h k).length oc] 123)).alloc (.cells #[.int .i64 ((n : Int) - 1)] 3)).alloc (.cells #[.int .i64 (-1)] 3) := ⟨_, rfl⟩
    rw [← hW7]
    have hB7 : Below wc.heap.size wc W7 := by rw [hW7]; exact bel3 _ _ _ _
    have hz7 : W7.heap.size = wc.heap.size + 3 := by rw [hW7]; simp
    have p0 : W7.heap[wc.heap.size]? = some (.cells #[.slice OA (order h k).length oc] 123) := by rw [hW7, heap_alloc_lt (by simp; omega), heap_alloc_lt (by simp), heap_alloc_new]
    have p1 : W7.heap[wc.heap.size + 1]? = some (.cells #[.int .i64 ((n : Int) - 1)] 3) := by rw [hW7, heap_alloc_lt (by simp)]; exact top_al _ _ (by simp)
    have p2 : W7.heap[wc.heap.size + 2]? = some (.cells #[.int .i64 (-1)] 3) := by rw [hW7]; exact top_al _ _ (by simp)
    have HW7 := Lib.hid hW7; clear hW7
    have hB37 : Below W3.heap.size W3 W7 := hB35.trans (hB7.mono (by omega))
    have hBw7 : Below w.heap.size w W7 := hBwc.trans (hB7.mono (by omega))
    have H7 := H3.below hB37
    have hord : Rows W1 B 3 (Flat instC) (.slice OA (order h k).length oc) (order h k) := HORD.out
    have hr7 := (hord.flat (keep_of (hB3.trans (hB37.mono (by omega))) (show B ≤ W1.heap.size by omega))).flatMore (show B ≤ W7.heap.size by omega)
    have hsd := turnsDown_stops (n := 9 - 1) (n0 := n) hr7 p1 p0 p2 (by have := HN.out.1; omega) (by omega) (by omega)
    have e0 := (hB37.block w.heap.size (by omega)).trans Y0.out
    have e1 := (hB37.block (w.heap.size + 1) (by omega)).trans Y1.out
    have e3 := (hB37.block (w.heap.size + 1 + 1 + 1) (by omega)).trans Y3.out
    have e8 := (hB37.block (w.heap.size + 4) (by omega)).trans Y8.out
    have E0 := Lib.hid e0
    have E1 := Lib.hid e1
    have E3 := Lib.hid e3
    have E8 := Lib.hid e8
    have HR7 := Lib.hid hr7
    clear e0 e1 e3 e8 p0 p1 p2 a0 a1 a3 a8 b8 hord hr7
    have hQn := Lib.hid (rfl : (0 : Nat) = 0)
    refine (wpIn_wide (n := 9)).1 (wp_range_brk (bid := 0) (by omega) (by simp) (by rfl) (enters_of Tryz.func123 (by kernel_rfl) rfl) (enc := fun k' : Fin (order h k).length => .int .i64 (k'.1 : Nat)) hsd (fun pre => pre = []) (ScanIx W7 B lp gb h a2 F (order h k) (fun u => addE l u.txn t 3 k))
      (fun D W => W7.heap.size ≤ D ∧ W.heap[D]? = some (.deferred (some [])) ∧ GrTo w W B lp gb h a2 F (scanDown h t n k l) ∧ ∀ j, w.heap.size ≤ j → j < W7.heap.size → W.heap[j]? = W7.heap[j]?) (ScanIx.own (by omega)) rfl ?body ?done ?stop (fun a W h => by simpa [Exit.inBlock] using h) ?rest2)
    case body =>
      intro l' pre xk W hpre hBW hlen
      subst hpre
      have HW := H7.below hBW
      obtain ⟨b2, o2, c2, he, hb2, r0, r1, r2⟩ := HR7.out.get3 (List.getElem?_eq_getElem xk.2) (wr := W) (keep_of hBW (Nat.le_refl _)) rfl
      cases he
      have c0 := (heap_cell ((hBW.block w.heap.size (by omega)).trans E0.out)).1
      have c1 := (heap_cell ((hBW.block (w.heap.size + 1) (by omega)).trans E1.out)).1
      have c3 := (heap_cell ((hBW.block (w.heap.size + 1 + 1 + 1) (by omega)).trans E3.out)).1
      have c8 := (heap_cell ((hBW.block (w.heap.size + 4) (by omega)).trans E8.out)).1
      have hszW := hBW.size
      have m0 : w.heap.size < W.heap.size := by omega
      have m1 : w.heap.size + 1 < W.heap.size := by omega
      have m3 : w.heap.size + 1 + 1 + 1 < W.heap.size := by omega
      have m4 : w.heap.size + 4 < W.heap.size := by omega
      have mb : b2 < W.heap.size := by omega
      obtain ⟨kv, hkv⟩ := xk
      have hkvi : (kv : Int) < (order h k).length := by omega
      simp only at r0
      obtain ⟨U, hU⟩ : ∃ U, U = (order h k)[kv] := ⟨_, rfl⟩
      rw [← hU] at r0
      have HU := Lib.hid hU
      have HWd := Lib.hid (HW.below ((Below.refl _ _).drew))
      clear hU r1 r2
      gi_wp2_with fail
      refine wpIn_region_free (by kernel_rfl) (by kernel_rfl) (fun K hK => ?_)
      have HK := Lib.hid hK
      clear hK
      go_wp2_with (go_at_call 50; refine (addG_ HWd.out U.txn t 3 k (by omega)).mono ?_; rintro e w9 ⟨rfl, hto⟩)
      refine HK.out _ _ ?_
      have HTO := Lib.hid hto
      clear HK hto
      gi_wp2
      have hto2 : GrTo W7 w9 B lp gb h a2 F (addE l U.txn t 3 k) := GrTo.below_left (hBW.trans ((Below.refl _ _).drew.mono hszW)) HTO.out
      refine ⟨⟨?_, fun j ob hj hjb _ => ?_⟩, rfl, ⟨kv, hkv⟩, rfl, ?_⟩
      · obtain ⟨F9, _, hc9, _⟩ := HTO.out
        exact hc9.size
      · obtain ⟨F9, _, hc9, _⟩ := HTO.out
        refine (hc9.block j (lt_of_heap hjb) (fun h => ?_)).trans hjb
        rcases h with h | h
        · have := ((H.own j · |>.2.2) h); omega
        · omega
      · have := HU.out
        subst this
        exact hto2
    case done =>
      intro D xs W hD hS hpre hBW hK
      subst hpre
      have hd : downTurn (order h k) n = none := by rw [← downL_head, ← hS]; rfl
      refine ⟨hD, hK, ?_, fun j _ hj => hBW.block j hj⟩
      have : scanDown h t n k l = l := by unfold scanDown; rw [hd]; rfl
      rw [this]
      exact (GrTo.refl H).below_right (hBw7.trans (hBW.mono (by omega)))
    case stop =>
      rintro D pre W hD hS ⟨i, rfl, hto⟩ hK
      have hd : downTurn (order h k) n = some i.1 := by
        rw [← downL_head]
        obtain ⟨r, hr⟩ := hS
        rw [← hr]; rfl
      refine ⟨hD, hK, ?_, fun j hj1 hj2 => ?_⟩
      · have : scanDown h t n k l = addE l (order h k)[i].txn t 3 k := by
          unfold scanDown
          rw [hd]
          unfold edgeAt
          dsimp only
          rw [List.getElem?_eq_getElem i.2]
          rfl
        rw [this]
        exact GrTo.below_left hBw7 hto
      · obtain ⟨F9, _, hc9, _⟩ := hto
        refine hc9.block j hj2 (fun h => ?_)
        rcases h with h | h
        · have := (H.own j h).2.2; omega
        · omega
    case rest2 =>
      rintro D1 W ⟨hD1, hK1, hT1, hkeep⟩
      obtain ⟨F1, HG1, hc1, hf1, hcl1⟩ := hT1.cells
      have HCL := Lib.hid hcl1
      clear hcl1
      have hD1l : D1 < W.heap.size := lt_of_heap hK1
      have hdl := scanDown_len h t n k l
      have a0 := (hkeep w.heap.size (by omega) (by omega)).trans E0.out
      have a1 := (hkeep (w.heap.size + 1) (by omega) (by omega)).trans E1.out
      have a3 := (hkeep (w.heap.size + 1 + 1 + 1) (by omega) (by omega)).trans E3.out
      have a8 := (hkeep (w.heap.size + 4) (by omega) (by omega)).trans E8.out
      have b8 := (heap_cell a8).1
      have hkB : ∀ j, j < B → W.heap[j]? = w.heap[j]? := fun j hj => hc1.block j (by omega) (fun h => by
        rcases h with h | h
        · have := (H.own j h).1; omega
        · have := H.gbB; omega)
      have hsW := hc1.size
      have HC1 := Lib.hid hc1
      have HF1 := Lib.hid hf1
      clear hc1 hf1
      go_wp2_with (go_at_call 97; refine (turns_ _ _ _ _ ⟨_, _, _, rfl⟩).mono ?_; rintro e w6 ⟨rfl, rfl⟩)
      obtain ⟨W10, hW10⟩ : ∃ W10, W10 = ((W.alloc (.cells #[.slice OA (order h k).length oc] 123)).alloc (.cells #[.int .i64 (n : Int)] 3)).alloc (.cells #[.int .i64 1] 3) := ⟨_, rfl⟩
      rw [← hW10]
      have hB10 : Below W.heap.size W W10 := by rw [hW10]; exact bel3 _ _ _ _
      have hz10 : W10.heap.size = W.heap.size + 3 := by rw [hW10]; simp
      have p0 : W10.heap[W.heap.size]? = some (.cells #[.slice OA (order h k).length oc] 123) := by rw [hW10, heap_alloc_lt (by simp; omega), heap_alloc_lt (by simp), heap_alloc_new]
      have p1 : W10.heap[W.heap.size + 1]? = some (.cells #[.int .i64 (n : Int)] 3) := by rw [hW10, heap_alloc_lt (by simp)]; exact top_al _ _ (by simp)
      have p2 : W10.heap[W.heap.size + 2]? = some (.cells #[.int .i64 1] 3) := by rw [hW10]; exact top_al _ _ (by simp)
      have HW10 := Lib.hid hW10; clear hW10
      have H10 := HG1.below hB10
      have hr10 : Rows W10 W10.heap.size 3 (Flat instC) (.slice OA (order h k).length oc) (order h k) := (HORD.out.flat (fun j hj => (hB10.block j (by omega)).trans ((hkB j hj).trans (hB1.block j (by omega)).symm))).flatMore (by omega)
      have hsu := turnsUp_stops (n := 9 - 1) (n0 := n) hr10 p1 p0 p2 (by have := HN.out.1; omega) (by omega) (by omega)
      have G0 := Lib.hid ((hB10.block w.heap.size (by omega)).trans a0)
      have G1 := Lib.hid ((hB10.block (w.heap.size + 1) (by omega)).trans a1)
      have G3 := Lib.hid ((hB10.block (w.heap.size + 1 + 1 + 1) (by omega)).trans a3)
      have G8 := Lib.hid ((hB10.block (w.heap.size + 4) (by omega)).trans a8)
      have HR10 := Lib.hid hr10
      clear a0 a1 a3 a8 b8 p0 p1 p2 hr10
      refine (wpIn_wide (n := 9)).1 (wp_range_brk (bid := 2) (by omega) (by simp) (by rfl) (enters_of Tryz.func123 (by kernel_rfl) rfl) (enc := fun k' : Fin (order h k).length => .int .i64 (k'.1 : Nat)) hsu (fun pre => pre = []) (ScanIx W10 B lp gb h a2 F1 (order h k) (fun u => addE (scanDown h t n k l) t u.txn 5 k))
        (fun D W' => W10.heap.size ≤ D ∧ W'.heap[D]? = some (.deferred (some [])) ∧ W'.heap[D1]? = some (.deferred (some [])) ∧ GrTo w W' B lp gb h a2 F (scanUp h t n k (scanDown h t n k l))) (ScanIx.own (by omega)) rfl ?body ?done ?stop (fun a W h => by simpa [Exit.inBlock] using h) ?rest2)
      case body =>
        intro l' pre xk W hpre hBW hlen
        subst hpre
        have HW := H10.below hBW
        obtain ⟨b2, o2, c2, he, hb2, r0, r1, r2⟩ := HR10.out.get3 (List.getElem?_eq_getElem xk.2) (wr := W) (keep_of hBW (Nat.le_refl _)) rfl
        cases he
        have c0 := (heap_cell ((hBW.block w.heap.size (by omega)).trans G0.out)).1
        have c1 := (heap_cell ((hBW.block (w.heap.size + 1) (by omega)).trans G1.out)).1
        have c3 := (heap_cell ((hBW.block (w.heap.size + 1 + 1 + 1) (by omega)).trans G3.out)).1
        have c8 := (heap_cell ((hBW.block (w.heap.size + 4) (by omega)).trans G8.out)).1
        have hszW := hBW.size
        have m0 : w.heap.size < W.heap.size := by omega
        have m1 : w.heap.size + 1 < W.heap.size := by omega
        have m3 : w.heap.size + 1 + 1 + 1 < W.heap.size := by omega
        have m4 : w.heap.size + 4 < W.heap.size := by omega
        have mb : b2 < W.heap.size := by omega
        obtain ⟨kv, hkv⟩ := xk
        have hkvi : (kv : Int) < (order h k).length := by omega
        simp only at r0
        obtain ⟨U, hU⟩ : ∃ U, U = (order h k)[kv] := ⟨_, rfl⟩
        rw [← hU] at r0
        have HU := Lib.hid hU
        have HWd := Lib.hid (HW.below ((Below.refl _ _).drew))
        clear hU r1 r2
        gi_wp2_with fail
        refine wpIn_region_free (by kernel_rfl) (by kernel_rfl) (fun K hK => ?_)
        have HK := Lib.hid hK
        clear hK
        go_wp2_with (go_at_call 50; refine (addG_ HWd.out t U.txn 5 k (by omega)).mono ?_; rintro e w9 ⟨rfl, hto⟩)
        refine HK.out _ _ ?_
        have HTO := Lib.hid hto
        clear HK hto
        gi_wp2
        have hto2 : GrTo W10 w9 B lp gb h a2 F1 (addE (scanDown h t n k l) t U.txn 5 k) := GrTo.below_left (hBW.trans ((Below.refl _ _).drew.mono hszW)) HTO.out
        refine ⟨⟨?_, fun j ob hj hjb _ => ?_⟩, rfl, ⟨kv, hkv⟩, rfl, ?_⟩
        · obtain ⟨F9, _, hc9, _⟩ := HTO.out
          exact hc9.size
        · obtain ⟨F9, _, hc9, _⟩ := HTO.out
          refine (hc9.block j (lt_of_heap hjb) (fun h => ?_)).trans hjb
          rcases h with h | h
          · have := ((HG1.own j · |>.2.2) h); omega
          · omega
        · have := HU.out
          subst this
          exact hto2
      case done =>
        intro D xs W' hD hS hpre hBW hK
        subst hpre
        have hd : upTurn (order h k) n ((order h k).length - n) = none := by rw [← upL_head, ← hS]; rfl
        refine ⟨hD, hK, (hBW.block D1 (by omega)).trans ((hB10.block D1 hD1l).trans hK1), ?_⟩
        have : scanUp h t n k (scanDown h t n k l) = scanDown h t n k l := by unfold scanUp; rw [hd]; rfl
        rw [this]
        exact GrTo.after HC1.out HF1.out hgl ((GrTo.refl HG1).below_right (hB10.trans (hBW.mono (by omega))))
      case stop =>
        rintro D pre W' hD hS ⟨i, rfl, hto⟩ hK
        have hd : upTurn (order h k) n ((order h k).length - n) = some i.1 := by
          rw [← upL_head]
          obtain ⟨r, hr⟩ := hS
          rw [← hr]; rfl
        refine ⟨hD, hK, ?_, ?_⟩
        · obtain ⟨F9, _, hc9, _⟩ := hto
          refine (hc9.block D1 (by omega) (fun h => ?_)).trans ((hB10.block D1 hD1l).trans hK1)
          rcases h with h | h
          · obtain ⟨cs, ty9, z9, hd9⟩ := HCL.out D1 h
            rw [hK1] at hd9
            cases hd9
          · omega
        · have : scanUp h t n k (scanDown h t n k l) = addE (scanDown h t n k l) t (order h k)[i].txn 5 k := by
            unfold scanUp
            rw [hd]
            unfold edgeAt
            dsimp only
            rw [List.getElem?_eq_getElem i.2]
            rfl
          rw [this]
          exact GrTo.after HC1.out HF1.out hgl (GrTo.below_left hB10 hto)
      case rest2 =>
        rintro D2 W' ⟨hD2, hK2, hK1', hT2⟩
        have hD21 : D1 ≠ D2 := by omega
        have hsc : scanE h t o k l = scanUp h t n k (scanDown h t n k l) := by
          unfold scanE
          rw [if_neg (by rw [← HN.out.1]; exact HN.out.2), ← HN.out.1]
        have HSC := Lib.hid hsc
        clear hsc
        go_wp2
        refine ⟨by simp, .inl ⟨_, _, rfl, run_takeDeferred hK2, ?_⟩⟩
        have hK1p : (W'.putObj D2 (.deferred none)).heap[D1]? = some (.deferred (some [])) := (World.putObj_heap_other hD21).trans hK1'
        refine ⟨by simp, .inl ⟨_, _, rfl, run_takeDeferred hK1p, ?_⟩⟩
        refine ⟨.tuple #[], by simp [results, Tryz.f53, go_sem], rfl, ?_⟩
        rw [HSC.out]
        have hT3 := hT2.grown hle (grownBy_put W' D2 (.deferred none)) (fun r e => by cases e; exact ⟨by omega, _, hK2, rfl⟩)
        exact hT3.grown hle (grownBy_put _ D1 (.deferred none)) (fun r e => by cases e; exact ⟨by omega, _, hK1p, rfl⟩)
end Go.Proofs.YtooigfkjdemnlaaGreatDoor
