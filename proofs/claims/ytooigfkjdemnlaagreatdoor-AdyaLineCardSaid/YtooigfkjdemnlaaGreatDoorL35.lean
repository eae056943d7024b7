/- Own texts of this claim, joined in build order: D9, N4, D10. -/
import Derived.Test.YtooigfkjdemnlaaGreatDoorL30
import Derived.Test.YtooigfkjdemnlaaGreatDoorL33
import Derived.Test.YtooigfkjdemnlaaGreatDoorL21
set_option linter.all false
namespace Go.Proofs.YtooigfkjdemnlaaGreatDoor
set_option maxRecDepth 100000
open Go.RowKit Go.Lib Go.Sort Go.Shelf Xw

def startK (k : Int) : Bool := decide (k = 0) || flowK k
def PhenP (h : List HTx) (p : Nat) : Prop := match p with
  | 1 => Cyc (edgesOf h) (edgesOf h) (fun e => writeK e.kind) (fun e => writeK e.kind)
  | 2 => ToldB h (badA h)
  | 3 => ToldB h (badB h)
  | 4 => Cyc (edgesOf h) (edgesOf h) (fun e => flowK e.kind) (fun e => flowK e.kind)
  | 5 => ∃ e ∈ edgesOf h, earlyB h e = true
  | 6 => Cyc (edgesOf h) (starts h (edgesOf h) h.length) (fun e => antiK e.kind) (fun e => startK e.kind)
  | 7 => Cyc (edgesOf h) (edgesOf h) (fun e => itemK e.kind) (fun _ => true)
  | 8 => Cyc (edgesOf h) (edgesOf h) (fun e => antiK e.kind) (fun _ => true)
  | _ => False
set_option maxHeartbeats 4000000 in
theorem shows2_ (e : Edge) (w : World) : Calls Tryz.prog 68 #[edgeV e] w fun r w' => r = .returned (.bool (startK e.kind)) ∧ Below w.heap.size w w' := by
  show Calls Tryz.prog 68 #[.agg #[.int .i64 e.frm, .int .i64 e.to, .int .i64 e.kind, .string e.key]] w _
  obtain ⟨W1, hW1⟩ : ∃ W1, W1 = w.alloc (.cells #[.int .i64 e.frm, .int .i64 e.to, .int .i64 e.kind, .string e.key] 66) := ⟨_, rfl⟩
  have hB1 : Below w.heap.size w W1 := by rw [hW1]; exact bel1 _ _
  have hz1 : W1.heap.size = w.heap.size + 1 := by rw [hW1]; simp
  have hbn : W1.heap[w.heap.size]? = some (.cells #[.int .i64 e.frm, .int .i64 e.to, .int .i64 e.kind, .string e.key] 66) := by rw [hW1]; exact heap_alloc_new _ _
  have v0 := (cells_of (cs := [.int .i64 e.frm, .int .i64 e.to, .int .i64 e.kind, .string e.key]) hbn).1 0
  have v1 := (cells_of (cs := [.int .i64 e.frm, .int .i64 e.to, .int .i64 e.kind, .string e.key]) hbn).1 1
  have v2 := (cells_of (cs := [.int .i64 e.frm, .int .i64 e.to, .int .i64 e.kind, .string e.key]) hbn).1 2
  have v3 := (cells_of (cs := [.int .i64 e.frm, .int .i64 e.to, .int .i64 e.kind, .string e.key]) hbn).1 3
  have hnn : w.heap.size < W1.heap.size := by omega
  have hc := Lib.hid (isFlow_ e W1)
  have HW1 := Lib.hid hW1
  clear hW1 hbn
  by_cases h0 : e.kind = 0
  · have hb : (e.kind == 0) = true := by simp [h0]
    have HR : Hid (startK e.kind = true) := Lib.hid (by unfold startK; simp [h0])
    clear h0
    go_enter Tryz.func68, Tryz.ntmps68
    go_upto_region 1 with (fail)
    rw [← HW1.out]
    go_wp2
    go_ret
    exact ⟨ret_bool (by rw [HR.out]), hB1⟩
  · have hb : (e.kind == 0) = false := by simp [h0]
    have HR : Hid (startK e.kind = flowK e.kind) := Lib.hid (by unfold startK; simp [h0])
    clear h0
    go_enter Tryz.func68, Tryz.ntmps68
    go_upto_region 1 with (fail)
    rw [← HW1.out]
    go_wp2_with (go_at_call 64; refine hc.out.mono ?_; rintro r w2 ⟨rfl, hB2⟩)
    go_ret
    exact ⟨ret_bool (by rw [HR.out]), hB1.trans (hB2.mono (by omega))⟩
def NilIff (P : Prop) (v : Value) : Prop := (v = .slice none 0 0 ∧ ¬ P) ∨ ∃ a n c, v = .slice (some a) n c ∧ P
theorem nilIff_of {P : Prop} {e : Ending} (h : (e = .returned (.slice none 0 0) ∧ ¬ P) ∨ (∃ a n c, e = .returned (.slice (some a) n c) ∧ P)) : ∃ v, e = .returned v ∧ Hid (NilIff P v) := by
  rcases h with ⟨h1, h2⟩ | ⟨a, n, c, h1, h2⟩
  · exact ⟨_, h1, Lib.hid (.inl ⟨rfl, h2⟩)⟩
  · exact ⟨_, h1, Lib.hid (.inr ⟨a, n, c, rfl, h2⟩)⟩
def ShowsR (w : World) (h : List HTx) (p : Nat) (e : Ending) (w' : World) : Prop := Below w.heap.size w w' ∧ ∃ v, e = .returned v ∧ Hid (NilIff (PhenP h p) v)
set_option maxHeartbeats 8000000 in
theorem shows_ {w : World} {B lp gb lo : Nat} {h : List HTx} (H : Fine h) (hG : GrD w B lp gb h (edgesOf h) lo) (hle : B ≤ w.heap.size) (p : Nat) (hp1 : 1 ≤ p) (hp8 : p ≤ 8) :
    Calls Tryz.prog 32 #[.pointer (some ⟨gb, 0, none⟩), .int .i64 p] w (ShowsR w h p) := by
  have L := H.lim
  have hec : ∀ e ∈ edgesOf h, EdgeC h e := fun e he => edge_com H he
  have hns : ∀ e ∈ edgesOf h, e.frm ≠ e.to := fun e he => (hec e he).in_.2
  have hin : ∀ e ∈ edgesOf h, EdgeIn h e := fun e he => (hec e he).in_.1
  have hlen := edgesOf_len L
  have hlen2 := starts_len L
  obtain ⟨hl0, ⟨ev, mb, hg0, hr0, hm0, _⟩, hgB⟩ := hG
  obtain ⟨W1, hW1⟩ : ∃ W1, W1 = w.alloc (.cells #[.pointer (some ⟨gb, 0, none⟩)] 91) := ⟨_, rfl⟩
  have hB1 : Below w.heap.size w W1 := by rw [hW1]; exact bel1 _ _
  have hz1 : W1.heap.size = w.heap.size + 1 := by rw [hW1]; simp
  have hbx : W1.heap[w.heap.size]? = some (.cells #[.pointer (some ⟨gb, 0, none⟩)] 91) := by rw [hW1]; exact heap_alloc_new _ _
  have hlow : ∀ j, j < B → W1.heap[j]? = w.heap[j]? := fun j hj => hB1.block j (by omega)
  have hl : Led W1 B lp h := hl0.keep hlow (by omega)
  have hg := (hlow gb hgB).trans hg0
  have hr := hr0.flat hlow
  have hm := hm0.keep hlow
  have hle1 : B ≤ W1.heap.size := by omega
  have b0 := (cells_of (cs := [.pointer (some ⟨gb, 0, none⟩)]) hbx).1 0
  have hwl : w.heap.size < W1.heap.size := by omega
  have HW1 := Lib.hid hW1
  have hmf : ∀ (fn : Fn) (first cap : Array Value) (w : World), (Instr.makeFunc fn first cap).run Tryz.prog w = .ok (.func fn first cap) w := fun _ _ _ _ => rfl
  clear hW1 hl0 hg0 hr0 hm0
  have cyc : ∀ (M1 M2 : FuncId) (m1 m2 : Edge → Bool) (eg1 : ∀ args w, (callFunc M1 args).run Tryz.prog w = .ok (.enter M1 args) w) (eg2 : ∀ args w, (callFunc M2 args).run Tryz.prog w = .ok (.enter M2 args) w)
      (hm1 : ∀ (e : Edge) (W : World), Calls Tryz.prog M1 #[edgeV e] W fun r W' => r = .returned (.bool (m1 e)) ∧ Below W.heap.size W W')
      (hm2 : ∀ (e : Edge) (W : World), Calls Tryz.prog M2 #[edgeV e] W fun r W' => r = .returned (.bool (m2 e)) ∧ Below W.heap.size W W') (hph : PhenP h p = Cyc (edgesOf h) (edgesOf h) m1 m2),
      Calls Tryz.prog 59 #[.pointer (some ⟨gb, 0, none⟩), .pointer (some ⟨gb, 0, none⟩), .func (.func M1) #[] #[], .func (.func M2) #[] #[]] W1 (ShowsR w h p) := fun M1 M2 m1 m2 eg1 eg2 hm1 hm2 hph =>
    (cycle_ (mb0 := mb) hg hr hgB hg hm hgB hle1 hns (by omega) M1 M2 m1 m2 eg1 eg2 hm1 hm2).mono fun e w' ⟨h1, h2⟩ => ⟨hB1.trans (h1.mono (by omega)), by rw [hph]; exact nilIff_of h2⟩
  have CYC := Lib.hid cyc
  clear cyc
  obtain rfl | rfl | rfl | rfl | rfl | rfl | rfl | rfl : p = 1 ∨ p = 2 ∨ p = 3 ∨ p = 4 ∨ p = 5 ∨ p = 6 ∨ p = 7 ∨ p = 8 := by omega
  · have HC := Lib.hid (CYC.out 60 60 _ _ (enters_of Tryz.func60 (by kernel_rfl) rfl) (enters_of Tryz.func60 (by kernel_rfl) rfl) isWrite_ isWrite_ rfl)
    clear hg hr hm hbx hl
    go_enter Tryz.func32, Tryz.ntmps32
    go_upto_region 1 with (fail)
    rw [← HW1.out]
    go_wp2_with (go_at_call 59; with_reducible refine HC.out.mono ?_)
    rintro e w2 ⟨hB2, v, rfl, HV⟩
    go_wp2
    go_ret
    exact ⟨hB2, v, rfl, HV⟩
  · have HC : Hid (Calls Tryz.prog 61 _ W1 _) := Lib.hid (told_ hl H hg hgB 62 #[.pointer (some ⟨w.heap.size, 0, none⟩)] (badA h) (enters_of Tryz.func62 (by kernel_rfl) rfl)
      (fun t v W hv _ hB => shows1_ (hl.below hB hl.le) ((hB.block gb (by omega)).trans hg) ((hB.block w.heap.size (by omega)).trans hbx) t v hv))
    clear hg hr hm hbx hl
    go_enter Tryz.func32, Tryz.ntmps32
    go_upto_region 1 with (fail)
    rw [← HW1.out]
    go_wp2_with (go_at_call 61; with_reducible refine HC.out.mono ?_)
    rintro e w2 ⟨hB2, he⟩
    obtain ⟨v, rfl, HV⟩ := nilIff_of he
    clear he
    go_wp2
    go_ret
    exact ⟨hB1.trans (hB2.mono (by omega)), v, rfl, HV⟩
  · have HC : Hid (Calls Tryz.prog 63 _ W1 _) := Lib.hid (between_ hl H hg hgB)
    clear hg hr hm hbx hl
    go_enter Tryz.func32, Tryz.ntmps32
    go_upto_region 1 with (fail)
    rw [← HW1.out]
    go_wp2_with (go_at_call 63; with_reducible refine HC.out.mono ?_)
    rintro e w2 ⟨hB2, he⟩
    obtain ⟨v, rfl, HV⟩ := nilIff_of he
    clear he
    go_wp2
    go_ret
    exact ⟨hB1.trans (hB2.mono (by omega)), v, rfl, HV⟩
  · have HC := Lib.hid (CYC.out 64 64 _ _ (enters_of Tryz.func64 (by kernel_rfl) rfl) (enters_of Tryz.func64 (by kernel_rfl) rfl) isFlow_ isFlow_ rfl)
    clear hg hr hm hbx hl
    go_enter Tryz.func32, Tryz.ntmps32
    go_upto_region 1 with (fail)
    rw [← HW1.out]
    go_wp2_with (go_at_call 59; with_reducible refine HC.out.mono ?_)
    rintro e w2 ⟨hB2, v, rfl, HV⟩
    go_wp2
    go_ret
    exact ⟨hB2, v, rfl, HV⟩
  · have HC : Hid (Calls Tryz.prog 65 _ W1 _) := Lib.hid ((early_ hl hg hgB hr hin).mono (R' := fun e w' => Below W1.heap.size W1 w' ∧ ((e = .returned (.slice none 0 0) ∧ ¬ PhenP h 5) ∨ (∃ a n c, e = .returned (.slice (some a) n c) ∧ PhenP h 5))) (by
      rintro e w' ⟨h1, ⟨h2, h3⟩ | h2⟩
      · exact ⟨h1, .inl ⟨h2, fun ⟨e, he, h4⟩ => by rw [h3 e he] at h4; cases h4⟩⟩
      · exact ⟨h1, .inr h2⟩))
    clear hg hr hm hbx hl
    go_enter Tryz.func32, Tryz.ntmps32
    go_upto_region 1 with (fail)
    rw [← HW1.out]
    go_wp2_with (go_at_call 65; with_reducible refine HC.out.mono ?_)
    rintro e w2 ⟨hB2, he⟩
    obtain ⟨v, rfl, HV⟩ := nilIff_of he
    clear he
    go_wp2
    go_ret
    exact ⟨hB1.trans (hB2.mono (by omega)), v, rfl, HV⟩
  · have hm1 : MapOfK kInt.enc W1.drew B mb 4 edgeC (fun t => (edgesOf h).filter fun e => decide (e.frm = t)) := hm.keep (fun _ _ => rfl)
    have HS := Lib.hid (starts_ (hl.drew) L.n (w := W1.drew) hg hgB hm1 (by omega))
    have HG := Lib.hid (And.intro hg hr)
    have HNS := Lib.hid hns
    clear hg hr hm hbx hl hm1 hns
    go_enter Tryz.func32, Tryz.ntmps32
    go_upto_region 1 with (fail)
    rw [← HW1.out]
    go_upto_region 13 with (fail)
    go_region_held3 (fun w' => w'.cell? ⟨w.heap.size, 0, none⟩ = some (.pointer (some ⟨gb, 0, none⟩))) (first | exact b0 | exact r0 | exact r5 | go_keep)
      (first
        | (go_at_call 66; with_reducible refine HS.out.mono ?_
           rintro e w2 ⟨gs, mb2, rfl, hB2, hgs, hg2, hm2⟩
           have hz2 : W1.heap.size ≤ w2.heap.size := hB2.size
           have r0 := (World.cell?_of_block (a := ⟨w.heap.size, 0, none⟩) (hB2.block w.heap.size hwl)).trans b0
           have hlow2 : ∀ j, j < B → w2.heap[j]? = W1.heap[j]? := fun j hj => hB2.block j (by show j < W1.heap.size; omega)
           have HC := Lib.hid (cycle_ (mb0 := mb) (B := w2.heap.size) ((hlow2 gb hgB).trans HG.out.1) ((HG.out.2.flat hlow2).flatMore (by omega)) (by omega) hg2 hm2 hgs (Nat.le_refl _) HNS.out (by omega) 67 68 _ _ (enters_of Tryz.func67 (by kernel_rfl) rfl) (enters_of Tryz.func68 (by kernel_rfl) rfl) isAnti_ shows2_)
           clear hg2 hm2 hlow2)
        | (go_at_call 59; with_reducible refine HC.out.mono ?_
           rintro e w3 ⟨hB3, he⟩
           obtain ⟨v, rfl, HV⟩ := nilIff_of he
           have HB3 := Lib.hid (hB1.trans (((Below.refl _ _).drew.trans hB2 : Below W1.heap.size W1 w2).trans (hB3.mono hz2) |>.mono (by omega)))
           have r5 := (World.cell?_of_block (a := ⟨w.heap.size, 0, none⟩) (hB3.block w.heap.size (by omega))).trans r0
           clear he))
    all_goals (
      go_wp2
      go_ret
      exact ⟨HB3.out, v, rfl, HV⟩)
  · have HC := Lib.hid (CYC.out 69 70 _ _ (enters_of Tryz.func69 (by kernel_rfl) rfl) (enters_of Tryz.func70 (by kernel_rfl) rfl) isItem_ isAny_ rfl)
    clear hg hr hm hbx hl
    go_enter Tryz.func32, Tryz.ntmps32
    go_upto_region 1 with (fail)
    rw [← HW1.out]
    go_wp2_with (go_at_call 59; with_reducible refine HC.out.mono ?_)
    rintro e w2 ⟨hB2, v, rfl, HV⟩
    go_wp2
    go_ret
    exact ⟨hB2, v, rfl, HV⟩
  · have HC := Lib.hid (CYC.out 67 70 _ _ (enters_of Tryz.func67 (by kernel_rfl) rfl) (enters_of Tryz.func70 (by kernel_rfl) rfl) isAnti_ isAny_ rfl)
    clear hg hr hm hbx hl
    go_enter Tryz.func32, Tryz.ntmps32
    go_upto_region 1 with (fail)
    rw [← HW1.out]
    go_wp2_with (go_at_call 59; with_reducible refine HC.out.mono ?_)
    rintro e w2 ⟨hB2, v, rfl, HV⟩
    go_wp2
    go_ret
    exact ⟨hB2, v, rfl, HV⟩
end Go.Proofs.YtooigfkjdemnlaaGreatDoor

namespace Go.Proofs.YtooigfkjdemnlaaGreatDoor
section
variable {h : List HTx} {base : Nat → KSt} {st : Nat → Nat → KSt}
theorem TH.src (T : TH h base st) {t : Nat} {x : HTx} (hx : h[t]? = some x) {i : Nat} (hi : i ≤ x.ops.length) {k : ByteArray} {v : HVer} (hv : st t i k = some v) : v.frm = t ∨ (base t k = some v ∧ aheadL x k i = []) := by
  rw [T.st t x hx i hi k] at hv
  cases hl : (aheadL x k i).getLast? with
  | some w =>
    rw [hl] at hv
    simp only at hv
    cases hd : w.dead
    · rw [hd] at hv; simp at hv; subst hv; exact .inl rfl
    · rw [hd] at hv; simp at hv
  | none => rw [hl] at hv; exact .inr ⟨hv, by simpa using hl⟩
theorem TH.item_rise (T : TH h base st) {t : Nat} (htl : t < h.length) {v : HVer} {k : ByteArray} (hv : v.frm = t ∨ base t k = some v) {e : Edge} (hq : QItem h t v e) : e.frm < e.to := by
  obtain ⟨h1, h2, h3⟩ := hq
  rcases hv with hv | hv
  · exact absurd hv h1
  · obtain ⟨s, u, a1, a2, a3, a4, a5⟩ := T.stands (by omega) hv
    rcases h3 with rfl | ⟨y, b1, b2, b3, rfl⟩
    · simp only; omega
    · rw [a3] at b2
      have e1 : ((s : Int) + 1).toNat = s + 1 := by omega
      rw [e1, a5] at b2
      have := a4.2 (s + 1) y (by omega) b2
      simp only
      omega
theorem TH.scan_rise (T : TH h base st) {t : Nat} {x : HTx} (hx : h[t]? = some x) {i : Nat} {o : HOpr} (hi : i ≤ x.ops.length) (hat : o.at_ = 2 * t + 1) (hseen : ∀ v ∈ o.seen, ∃ k, st t i k = some v) {k : ByteArray} {e : Edge} (hq : QKey h t x i o k e) : e.frm < e.to := by
  have htl := (List.getElem?_eq_some_iff.1 hx).1
  obtain ⟨h1, _, h3, h4⟩ := hq
  have hcut : CutT h k t (scanN h t o k) := by
    unfold scanN
    cases hv : tellsAt o k with
    | none => simp only; rw [hat]; exact T.chosen t k
    | some v =>
      simp only
      have hvm : v ∈ o.seen := List.mem_of_find?_eq_some hv
      have hvk : v.key = k := by have := List.find?_some hv; simpa using this
      obtain ⟨k', hk'⟩ := hseen v hvm
      have e1 := (T.tells hx hi hk').1
      rw [hvk] at e1
      subst e1
      rcases T.src hx hi hk' with h5 | ⟨h5, _⟩
      · rw [T.st t x hx i hi k] at hk'
        have : aheadL x k i = [] := List.eq_nil_of_length_eq_zero h1
        rw [this] at hk'
        simp only [List.getLast?_nil] at hk'
        obtain ⟨s, u, a1, a2, a3, a4, a5⟩ := T.stands (by omega) hk'
        omega
      · obtain ⟨s, u, a1, a2, a3, a4, a5⟩ := T.stands (by omega) h5
        rw [a3]
        have e2 : ((s : Int) + 1).toNat = s + 1 := by omega
        rw [e2]
        exact a4
  rcases h4 with ⟨j, u, b1, b2, b3, rfl⟩ | ⟨j, u, b1, b2, b3, rfl⟩
  · have := (downTurn_some b1).1
    have := hcut.1 j u this b2
    simp only; omega
  · have := (upTurn_some b1).1
    have := hcut.2 j u this b2
    simp only; omega
theorem TH.told_src (T : TH h base st) {t : Nat} {x : HTx} (hx : h[t]? = some x) {i : Nat} {o : HOpr} (ho : x.ops[i]? = some o) : (o.kind = 1 → o.seen = [] ∧ ∃ k, st t i k = some o.ver) ∧ (o.kind = 3 → o.at_ = 2 * t + 1 ∧ ∀ v ∈ o.seen, ∃ k, st t i k = some v) := by
  obtain ⟨a, rfl⟩ := T.op t x hx i o ho
  rcases actOp_cases t (st t i) a with ⟨k, v, hk, hv, e⟩ | ⟨k, hk, hv, e⟩ | ⟨k, d, hk, e⟩ | ⟨k, hk, e⟩
  · rw [e]; exact ⟨fun _ => ⟨rfl, _, hv⟩, fun h => absurd (show (1 : Int) = 3 from h) (by decide)⟩
  · rw [e]; exact ⟨fun h => absurd (show (3 : Int) = 1 from h) (by decide), fun _ => ⟨rfl, fun v hv => by cases hv⟩⟩
  · rw [e]; exact ⟨fun h => absurd (show (2 : Int) = 1 from h) (by decide), fun h => absurd (show (2 : Int) = 3 from h) (by decide)⟩
  · rw [e]
    refine ⟨fun h => absurd (show (3 : Int) = 1 from h) (by decide), fun _ => ⟨rfl, fun v hv => ?_⟩⟩
    obtain ⟨j, _, h2⟩ := mem_seenL.1 hv
    exact ⟨_, h2⟩
theorem TH.rise (T : TH h base st) {e : Edge} (he : e ∈ edgesOf h) : e.frm < e.to := by
  rcases mem_edgesOf.1 he with ⟨k, _, i, u, v, h1, h2, h3, rfl⟩ | ⟨t, x, i, o, hx, _, ho, hq⟩
  · have := T.mono h1 h2 (by omega)
    simp only; omega
  · have htl := (List.getElem?_eq_some_iff.1 hx).1
    have hi : i ≤ x.ops.length := by have := (List.getElem?_eq_some_iff.1 ho).1; omega
    obtain ⟨s1, s3⟩ := T.told_src hx ho
    rcases hq with ⟨hk, hq⟩ | ⟨hk, ⟨v, hv, hq⟩ | ⟨k, _, hq⟩⟩
    · obtain ⟨_, k, hv⟩ := s1 hk
      exact T.item_rise htl ((T.src hx hi hv).imp_right (·.1)) hq
    · obtain ⟨_, hs⟩ := s3 hk
      obtain ⟨k, hv⟩ := hs v hv
      exact T.item_rise htl ((T.src hx hi hv).imp_right (·.1)) hq
    · obtain ⟨ha, hs⟩ := s3 hk
      exact T.scan_rise hx hi ha hs hq
theorem TH.line (T : TH h base st) : Line h (List.range h.length) := by
  refine ⟨List.nodup_range, fun t => by rw [List.mem_range, T.com], fun e he => ?_⟩
  obtain ⟨u, t, eu, et, cu, ct, hut⟩ := edge_com T.fine he
  have := T.rise he
  have h1 := T.com.1 cu
  have h2 := T.com.1 ct
  exact ⟨u, t, u, t, by omega, by rw [List.getElem?_range h1], by rw [List.getElem?_range h2], eu, et⟩
theorem TH.clean (T : TH h base st) : ¬ ToldB h (badA h) ∧ ¬ ToldB h (badB h) := by
  have key : ∀ (t : Nat) (x : HTx) (o : HOpr) (v : HVer), h[t]? = some x → o ∈ x.ops → v ∈ seenOf o → v.frm ≠ t → ∃ u y, v.frm = (u : Nat) ∧ h[u]? = some y ∧ v.nth = (writes y v.key).length := by
    intro t x o v hx ho hv hf
    have htl := (List.getElem?_eq_some_iff.1 hx).1
    obtain ⟨i, hi⟩ := List.mem_iff_getElem?.1 ho
    have hil : i ≤ x.ops.length := by have := (List.getElem?_eq_some_iff.1 hi).1; omega
    obtain ⟨s1, s3⟩ := T.told_src hx hi
    have hk : ∃ k, st t i k = some v := by
      unfold seenOf at hv
      rcases op_kind (T.op_ok hx hi) with h1 | h1 | h1
      · rw [if_pos h1] at hv
        simp at hv
        subst hv
        exact (s1 h1).2
      · rw [if_neg (by omega), if_pos h1] at hv; cases hv
      · rw [if_neg (by omega), if_neg (by omega)] at hv
        exact (s3 h1).2 v hv
    obtain ⟨k, hk⟩ := hk
    rcases T.src hx hil hk with h1 | ⟨h1, _⟩
    · exact absurd h1 hf
    · obtain ⟨u, y, w, a1, a2, a3, a4, rfl, a6⟩ := T.base_some (by omega) h1
      exact ⟨u, y, rfl, a2, rfl⟩
  refine ⟨?_, ?_⟩
  · rintro ⟨t, x, o, v, hx, hc, ho, hv, hf, hb⟩
    obtain ⟨u, y, h1, h2, h3⟩ := key t x o v hx ho hv hf
    unfold badA at hb
    rw [h1] at hb
    have e1 : ((u : Int)).toNat = u := by omega
    rw [e1, T.com.2 (List.getElem?_eq_some_iff.1 h2).1] at hb
    cases hb
  · rintro ⟨t, x, o, v, hx, hc, ho, hv, hf, hb⟩
    obtain ⟨u, y, h1, h2, h3⟩ := key t x o v hx ho hv hf
    unfold badB at hb
    rw [h1] at hb
    have e1 : ((u : Int)).toNat = u := by omega
    rw [e1, h2] at hb
    simp only [decide_eq_true_eq] at hb
    exact hb h3
theorem TH.replays (T : TH h base st) {l : List Nat} (L : Line h l) : ReplayOK h l := line_replays T.fine L T.clean.1 T.clean.2
theorem mem_starts {es : List Edge} {e : Edge} : ∀ {n : Nat}, e ∈ starts h es n → e ∈ es ∨ ∃ t u : Nat, e.frm = t ∧ e.to = u ∧ startB h t u = true
  | 0, he => by cases he
  | n + 1, he => by
    unfold starts outS at he
    rcases List.mem_append.1 he with h1 | h1
    · exact mem_starts h1
    · rcases List.mem_append.1 h1 with h2 | h2
      · exact .inl (List.mem_filter.1 h2).1
      · right
        have go : ∀ m, e ∈ startsN h n m → ∃ t u : Nat, e.frm = t ∧ e.to = u ∧ startB h t u = true := by
          intro m
          induction m with
          | zero => intro h; cases h
          | succ m ih =>
            intro h
            unfold startsN at h
            split at h
            · rename_i hb
              rcases List.mem_append.1 h with h3 | h3
              · exact ih h3
              · simp at h3; subst h3; exact ⟨n, m, rfl, rfl, hb⟩
            · exact ih h
        exact go _ h2
theorem TH.starts_rise (T : TH h base st) {n : Nat} {e : Edge} (he : e ∈ starts h (edgesOf h) n) : e.frm < e.to := by
  rcases mem_starts he with h1 | ⟨t, u, h1, h2, h3⟩
  · exact T.rise h1
  · unfold startB at h3
    simp only [Bool.and_eq_true] at h3
    obtain ⟨⟨⟨_, h4⟩, h5⟩, h6⟩ := h3
    obtain ⟨x, hx⟩ := T.at_ (T.com.1 h4)
    obtain ⟨y, hy⟩ := T.at_ (T.com.1 h5)
    rw [hx, hy] at h6
    simp only [decide_eq_true_eq, T.fin hx, T.bgn hy] at h6
    omega
theorem way_rise {es : List Edge} (hr : ∀ e ∈ es, e.frm < e.to) {m : Edge → Bool} {a x : Int} (hw : Way es m a x) : a ≤ x := by
  induction hw with
  | start => exact Int.le_refl _
  | step hw he hm ih => have := hr _ he; omega
theorem no_cyc {es es2 : List Edge} (h1 : ∀ e ∈ es, e.frm < e.to) (h2 : ∀ e ∈ es2, e.frm < e.to) {m1 m2 : Edge → Bool} : ¬ Cyc es es2 m1 m2 := by
  rintro ⟨e, he, _, hw⟩
  have := h1 e he
  have := way_rise h2 hw
  omega
theorem TH.none_shown (T : TH h base st) (p : Nat) : ¬ PhenP h p := by
  have hr : ∀ e ∈ edgesOf h, e.frm < e.to := fun e he => T.rise he
  unfold PhenP
  split
  · exact no_cyc hr hr
  · exact T.clean.1
  · exact T.clean.2
  · exact no_cyc hr hr
  · rintro ⟨e, he, hb⟩
    obtain ⟨u, t, eu, et, cu, ct, hut⟩ := edge_com T.fine he
    have := hr e he
    obtain ⟨x, hx⟩ := T.at_ (T.com.1 cu)
    obtain ⟨y, hy⟩ := T.at_ (T.com.1 ct)
    unfold earlyB at hb
    rw [eu, et, Bool.and_eq_true] at hb
    have e1 : ((u : Int)).toNat = u := by omega
    have e2 : ((t : Int)).toNat = t := by omega
    rw [e1, e2, hx, hy] at hb
    simp only [decide_eq_true_eq, T.fin hx, T.bgn hy] at hb
    omega
  · exact no_cyc hr (fun e he => T.starts_rise he)
  · exact no_cyc hr hr
  · exact no_cyc hr hr
  · exact id
end
end Go.Proofs.YtooigfkjdemnlaaGreatDoor

namespace Go.Proofs.YtooigfkjdemnlaaGreatDoor
set_option maxRecDepth 100000
open Go.RowKit Go.Lib Go.Sort Go.Shelf Xw

def PhenL (h : List HTx) (n : Nat) (l : List Int) : Prop := l.length ≤ n ∧ ∀ x, x ∈ l ↔ ∃ q : Nat, 1 ≤ q ∧ q ≤ n ∧ PhenP h q ∧ x = q
theorem phen_info : (Tryz.prog.info? 101).map (fun i => (i.zero.map (·.cells.size), i.size, i.bytes)) = some (some 1, 1, 8) := by kernel_rfl
theorem PhenL.no {h : List HTx} {n : Nat} {l : List Int} (H : PhenL h n l) (hp : ¬ PhenP h (n + 1)) : PhenL h (n + 1) l := ⟨by have := H.1; omega, fun x => by
  rw [H.2]
  constructor
  · rintro ⟨q, h1, h2, h3⟩; exact ⟨q, h1, by omega, h3⟩
  · rintro ⟨q, h1, h2, h3, h4⟩
    by_cases hq : q = n + 1
    · subst hq; exact absurd h3 hp
    · exact ⟨q, h1, by omega, h3, h4⟩⟩
theorem PhenL.yes {h : List HTx} {n : Nat} {l : List Int} (H : PhenL h n l) (hp : PhenP h (n + 1)) : PhenL h (n + 1) (l ++ [((n + 1 : Nat) : Int)]) := ⟨by have := H.1; simp; omega, fun x => by
  rw [List.mem_append, H.2]
  constructor
  · rintro (⟨q, h1, h2, h3⟩ | h1)
    · exact ⟨q, h1, by omega, h3⟩
    · simp only [List.mem_singleton] at h1
      exact ⟨n + 1, by omega, by omega, hp, h1⟩
  · rintro ⟨q, h1, h2, h3, h4⟩
    by_cases hq : q = n + 1
    · subst hq; exact .inr (by simp [h4])
    · exact .inl ⟨q, h1, by omega, h3, h4⟩⟩
theorem sl_chg_eq {w w' : World} {e : TypeId} {size n : Nat} {v : Value} {xs : List Value} {F : Nat → Prop} {G : Nat → Prop} {lo : Nat} (h : Sl w e size v n xs F) (hc : Chg G w w') (hF : ∀ j, F j → lo ≤ j) (hG : ∀ j, G j → j < lo) : Sl w' e size v n xs F :=
  h.chg hc (fun j hj hg => by have := hF j hj; have := hG j hg; omega)
set_option maxHeartbeats 4000000 in
theorem phen1_ {w : World} {lp ob : Nat} {h : List HTx} (hl : Led w w.heap.size lp h) (H : Fine h) (hob : w.heap[ob]? = some (.cells #[.slice none 0 0] 41)) :
    Calls Tryz.prog 33 #[.pointer (some ⟨lp, 0, none⟩), .pointer (some ⟨ob, 0, none⟩)] w fun e w' => e = .returned (.tuple #[]) ∧ ∃ v l, w'.heap[ob]? = some (.cells #[v] 41) ∧ Chg (fun j => j = ob) w w' ∧ PhenL h 8 l ∧ RowsN w' w.heap.size 1 intC v l := by
  have hol := lt_of_heap hob
  have hbd := Lib.hid (build_ hl H.lim)
  obtain ⟨i0, z0, j0, j1, j2, j3, j4⟩ := info_of phen_info
  go_enter Tryz.func33, Tryz.ntmps33
  go_wp2_with (go_at_call 24; with_reducible refine hbd.out.mono ?_
               rintro e w1 ⟨gb, rfl, hG, hB⟩
               have hob1 := (hB.block ob hol).trans hob
               have HOB := Lib.hid hob1
               have HG := Lib.hid hG
               clear hob1 hG)
  go_loopw [4] (fun p' wr => ∃ (q : Nat) (v : Value) (l : List Int) (F : Nat → Prop), 1 ≤ q ∧ q ≤ 9 ∧ p' = .int .i64 q ∧ Hid (PhenL h (q - 1) l) ∧ wr.heap[ob]? = some (.cells #[v] 41) ∧ Sl wr 101 1 v l.length (l.flatMap intC) F ∧ (∀ j, F j → w1.heap.size ≤ j ∧ j < wr.heap.size) ∧ Chg (fun j => j = ob) w1 wr) (fun p' _ => 9 - (intOf p').toNat)
  case atStart => exact ⟨1, .slice none 0 0, [], fun _ => False, by omega, by omega, rfl, Lib.hid ⟨by simp, fun x => ⟨by simp, fun ⟨q, h1, h2, _⟩ => by omega⟩⟩, HOB.out, Sl.nil _ _ _ _, fun _ f => f.elim, Chg.refl _ _⟩
  case round =>
    obtain ⟨q, v, l, F, hq1, hq9, rfl, HL, hv, hs, hF, hC⟩ := hrel
    have hz := hC.size
    have hll := HL.out.1
    have hzb := hB.size
    have how : ob < wr.heap.size := by omega
    by_cases hq8 : q ≤ 8
    · have hqi : (q : Int) ≤ 8 := by omega
      have hGr := (But.mk (fun j hj hn => hC.block j hj hn) ⟨_, _, HOB.out, odd_slice _ _ _⟩).grD HG.out hz
      have hsh := Lib.hid (shows_ H hGr (by omega) q hq1 hq8)
      obtain ⟨A, c, rfl, hc1, hc2⟩ := hs.shape
      have HS := Lib.hid hs
      have HV := Lib.hid hv
      have hmx : l.length + 1 ≤ maxLen := by simp only [maxLen]; omega
      have hby : (l.length + 1) * 8 ≤ 140737488355328 := by omega
      clear hGr hs hv
      rcases Classical.em (PhenP h q) with hP | hP
      · have HL2 : Hid (PhenL h q (l ++ [(q : Int)])) := Lib.hid (by
          have := HL.out.yes (by rw [show q - 1 + 1 = q by omega]; exact hP)
          rw [show q - 1 + 1 = q by omega] at this
          exact this)
        have HP := Lib.hid hP
        clear hP
        go_wp2_with (first
          | (go_at_call 32; with_reducible refine hsh.out.mono ?_
             rintro e w2 ⟨hB2, v2, rfl, HN⟩
             obtain ⟨a2, n2, c2, rfl⟩ : ∃ a n c, v2 = .slice (some a) n c := by
               rcases HN.out with ⟨_, h1⟩ | ⟨a, n, c, h1, _⟩
               · exact absurd HP.out h1
               · exact ⟨a, n, c, h1⟩
             have hz2 := hB2.size
             have hv2 := (hB2.block ob how).trans HV.out
             have k0 := (cells_of (cs := [.slice A l.length c]) hv2).1 0
             have k1 := (cells_of (cs := [.slice A l.length c]) hv2).2 0
             have how2 : ob < w2.heap.size := by omega
             have HV2 := Lib.hid hv2
             have hs2 := Lib.hid (HS.out.keep (w' := w2) (fun j hj _ => hB2.block j hj))
             clear hv2)
          | (refine wpList_append_sl _ rfl (.tmp 15) (.tmp 17) 41 rfl 101 i0 z0 1 8 Tryz.underlying41 j0 j1 j2 j3 j4 (by omega) _ _ _ _ rfl (hs2.out.chg ((Chg.refl (fun _ => False) _).alloc _) (fun _ _ f => f)) _ _ 1 1 [.int .i64 q] rfl (reads_new _ _ 1 rfl _) (by intro u hu; simp at hu; subst hu; rfl) hmx hby ?_
             intro v4 w4 F4 hs4 hc4 hf4 hnz4
             obtain ⟨A4, c4, rfl, hc4a, hc4b⟩ := hs4.shape
             have hal : Chg F w2 w4 := (((Chg.refl (fun _ => False) w2).alloc _).mono (G := F) (fun _ _ f => f.elim)).trans hc4 (fun _ _ h => h)
             have hv4 := (hal.block ob how2 (fun h => by have := hF _ h; omega)).trans HV2.out
             have m0 := (cells_of (cs := [.slice A l.length c]) hv4).1 0
             have m1 := (cells_of (cs := [.slice A l.length c]) hv4).2 0
             have how4 : ob < w4.heap.size := by have := hal.size; omega
             have HV4 := Lib.hid hv4
             have HN4 := Lib.hid hnz4
             clear hnz4 hv4))
        have hz4 := hal.size
        have hza : (w2.alloc (.cells #[.int .i64 q] 101)).heap.size = w2.heap.size + 1 := by simp
        have hF4 : ∀ j, F4 j → w1.heap.size ≤ j ∧ j < w4.heap.size := fun j hj => by
          have h4 := hc4.size
          rcases hf4 j hj with h | ⟨h, h'⟩
          · have := hF j h; omega
          · omega
        have hset : Chg (fun j => j = ob) w4 (w4.setCell ⟨ob, 0, none⟩ (.slice A4 (l.length + 1) c4)) := (Chg.refl _ _).setCell _ _ (fun _ => rfl)
        refine ⟨⟨q + 1, .slice A4 (l.length + 1) c4, l ++ [(q : Int)], F4, by omega, by omega, by simp, HL2, ?_, ?_, fun j hj => ?_, ?_⟩, by simp [intOf]; omega⟩
        · simpa using heap_setCell_same (i := 0) (v := .slice A4 (l.length + 1) c4) HV4.out
        · rw [List.flatMap_append]
          have := hs4.chg hset (fun j hj e => by have := hF4 j hj; omega)
          simpa [intC] using this
        · have := hF4 j hj
          have := hset.size
          omega
        · have hc2 : Chg (fun _ => False) wr w2 := ⟨hB2.tape, hB2.os, hB2.output, hB2.size, fun b hb _ => hB2.block b hb⟩
          have h4 := (hC.trans hc2 (fun _ _ f => f.elim)).trans (hal.mono (G := fun j => w1.heap.size ≤ j) (fun j _ h => (hF j h).1)) (F := fun j => j = ob) (fun j hj h => absurd h (by omega))
          exact h4.trans hset (fun _ _ h => h)
      · have HL2 : Hid (PhenL h q l) := Lib.hid (by
          have := HL.out.no (by rw [show q - 1 + 1 = q by omega]; exact hP)
          rw [show q - 1 + 1 = q by omega] at this
          exact this)
        have HP := Lib.hid hP
        clear hP
        go_wp2_with (
          go_at_call 32; with_reducible refine hsh.out.mono ?_
          rintro e w2 ⟨hB2, v2, rfl, HN⟩
          obtain rfl : v2 = .slice none 0 0 := by
               rcases HN.out with ⟨h1, _⟩ | ⟨a, n, c, _, h1⟩
               · exact h1
               · exact absurd h1 HP.out)
        have hc2 : Chg (fun _ => False) wr w2 := ⟨hB2.tape, hB2.os, hB2.output, hB2.size, fun b hb _ => hB2.block b hb⟩
        exact ⟨⟨q + 1, _, l, F, by omega, by omega, by simp, HL2, (hB2.block ob how).trans HV.out, HS.out.chg hc2 (fun _ _ f => f), fun j hj => by have := hF j hj; have := hB2.size; omega, hC.trans hc2 (fun _ _ f => f.elim)⟩, by simp [intOf]; omega⟩
    · obtain rfl : q = 9 := by omega
      have hqi : ¬ ((9 : Nat) : Int) ≤ 8 := by omega
      go_wp2
      go_end0
      refine ⟨rfl, v, hv, ?_, l, HL.out, Rows.of_sl (enc := intC) (fun _ => rfl) hs (Nat.le_refl _), fun a n c hv => ?_⟩
      · exact ((Chg.of_below hB).mono (G := fun j => j = ob) (fun j hj h => absurd h (by omega))).trans hC (fun _ _ h => h)
      · rcases hs.2 with ⟨h1, _⟩ | ⟨g', off', cap', cur', h1, hF', _⟩
        · rw [h1] at hv; cases hv
        · rw [h1] at hv; cases hv; have := hF _ hF'; have := hB.size; simp only; omega
set_option maxHeartbeats 2000000 in
theorem phenomena_ {w : World} {B : Nat} {h : List HTx} {tv : Value} (hh : HistV w B tv h) (hB : B ≤ w.heap.size) (hops : ∀ x ∈ h, x.ops.length ≤ 1048576) :
    Calls Tryz.prog 12 #[.agg #[tv]] w fun e w' => Below w.heap.size w w' ∧ ∃ v, e = .returned (.tuple #[v, .int .i64 (errOf (histFault h))]) ∧ (histFault h = none → ∃ l, PhenL h 8 l ∧ RowsN w' w.heap.size 1 intC v l) := by
  obtain ⟨A, c, rfl, hn0, hm0⟩ := Rows.shape hh
  obtain ⟨W2, hW2⟩ : ∃ W2, W2 = (w.alloc (.cells #[.slice A h.length c] 28)).alloc (.cells #[.slice none 0 0] 41) := ⟨_, rfl⟩
  have hz2 : W2.heap.size = w.heap.size + 2 := by rw [hW2]; simp
  have hB2 : Below w.heap.size w W2 := by rw [hW2]; exact bel2 _ _ _
  have hob : W2.heap[w.heap.size + 1]? = some (.cells #[.slice none 0 0] 41) := by rw [hW2]; exact top_al _ _ (by simp)
  have hg := guarded_ (hh.keep (fun j hj => hB2.block j (by omega))) (show B ≤ W2.heap.size by omega) hops 33 #[.pointer (some ⟨w.heap.size + 1, 0, none⟩)] (enters_of Tryz.func33 (by kernel_rfl) rfl)
    (fun f w' => Below w.heap.size w w' ∧ f = histFault h ∧ ∃ v, w'.heap[w.heap.size + 1]? = some (.cells #[v] 41) ∧ (f = none → ∃ l, PhenL h 8 l ∧ RowsN w' (W2.heap.size + 2) 1 intC v l))
    (fun lp w1 hl hb hsz hf => by
      refine (phen1_ hl (fine_of hf) ((hb.block (w.heap.size + 1) (by omega)).trans hob)).mono ?_
      rintro e w2 ⟨rfl, v, l, h1, h2, h0, h3⟩
      refine ⟨none, rfl, ⟨?_, hf.symm, v, h1, fun _ => ⟨l, h0, h3.1, fun a n c hv => by have := h3.2 a n c hv; omega⟩⟩, h2.block _ hsz (by omega)⟩
      exact (hB2.trans (hb.mono (by omega))).trans (h2.below (fun j hj => by omega) (by have := hb.size; omega)))
    (fun f w2 w3 ⟨h1, h2, v, h3, h4⟩ hc => ⟨h1.trans (hc.below (fun j hj => by omega) h1.size), h2, v, (hc.block _ (lt_of_heap h3) (by omega)).trans h3, fun hf => by
      obtain ⟨l, h5, h6⟩ := h4 hf
      exact ⟨l, h5, h6.chg hc (fun j hj => by omega)⟩⟩)
    (fun f w3 hf hb => ⟨hB2.trans (hb.mono (by omega)), hf.symm, _, (hb.block _ (by omega)).trans hob, fun h => by cases h⟩)
  have HG := Lib.hid hg
  have HW2 := Lib.hid hW2
  clear hg hW2 hh
  have hmf : ∀ (fn : Fn) (first cap : Array Value) (w : World), (Instr.makeFunc fn first cap).run Tryz.prog w = .ok (.func fn first cap) w := fun _ _ _ _ => rfl
  obtain ⟨E, hE⟩ : ∃ E, E = errOf (histFault h) := ⟨_, rfl⟩
  rw [← hE]
  have HE := Lib.hid hE
  clear hE
  go_enter Tryz.func12, Tryz.ntmps12
  go_wp2_with (first
    | (with_reducible refine wp_region_free (by kernel_rfl) (fun _ _ => ?_))
    | (go_at_call 18; rw [← HW2.out]; refine HG.out.mono ?_
       rintro e w1 ⟨f, rfl, hb1, hf, v, hv, hrows⟩
       rw [faultRes_eq]
       have q0 := (heap_cell hv).1
       have hol := lt_of_heap hv
       have hErr : errOf f = E := by rw [hf, HE.out]
       have HV := Lib.hid (And.intro hv (And.intro hb1 (And.intro hf hrows)))
       clear hv hf hrows
       obtain ⟨T, hT⟩ : ∃ T, T = txnOf f := ⟨_, rfl⟩
       obtain ⟨O, hO⟩ : ∃ O, O = opOf f := ⟨_, rfl⟩
       rw [← hT, ← hO, hErr]
       clear hT hO hErr))
  refine bodyPost_ret (results_tmp2 rfl _ _ _) rfl ?_
  obtain ⟨h1, h2, h3, h4⟩ := HV.out
  have hal : ∀ o : Obj, Chg (fun _ => False) w1 (w1.alloc o).drew := fun o => ((Chg.refl _ _).alloc o).drew
  refine ⟨(h2.alloc h2.size _).drew, v, rfl, fun hf => ?_⟩
  obtain ⟨l, h5, h6⟩ := h4 (h3.trans hf)
  exact ⟨l, h5, (RowsN.chg h6 (hal _) (fun _ f => f.elim)).1, fun a n c hv => by have := h6.2 a n c hv; omega⟩
end Go.Proofs.YtooigfkjdemnlaaGreatDoor
