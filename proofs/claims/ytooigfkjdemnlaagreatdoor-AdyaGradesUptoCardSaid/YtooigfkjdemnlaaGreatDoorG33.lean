/- Own texts of this claim, joined in build order: D10, Th5, V1. -/
import Derived.Test.YtooigfkjdemnlaaGreatDoorG32
import Derived.Test.YtooigfkjdemnlaaGreatDoorG21
import Derived.Test.YtooigfkjdemnlaaGreatDoorG30
import Derived.Test.YtooigfkjdemnlaaGreatDoorG31
import Derived.Test.YtooigfkjdemnlaaGreatDoorG27
import Derived.Deep.QuietTactic
set_option linter.all false
namespace Go.Proofs.YtooigfkjdemnlaaGreatDoor
set_option maxRecDepth 100000
open Go.RowKit Go.Lib Go.Sort Go.Shelf Xw

def PhenL (h : List HTx) (n : Nat) (l : List Int) : Prop := l.length ≤ n ∧ ∀ x, x ∈ l ↔ ∃ q : Nat, 1 ≤ q ∧ q ≤ n ∧ PhenP h q ∧ x = q
theorem phen_info : (Tryz.prog.info? 101).map (fun i => (i.zero.map (·.cells.size), i.size, i.bytes)) = some (some 1, 1, 8) := by kernel_rfl
theorem PhenL.no {h : List HTx} {n : Nat} {l : List Int} (H : PhenL h n l) (hp : ¬ PhenP h (n + 1)) : PhenL h (n + 1) l := ⟨by have := H.1; omega, fun x => by
  rw [H.2]
  constructor
  · rintro ⟨q, h1, h2, h3⟩; exact ⟨q, h1, by omega, h3⟩
  · rintro ⟨q, h1, h2, h3, h4⟩
    by_cases hq : q = n + 1
    · subst hq; exact absurd h3 hp
    · exact ⟨q, h1, by omega, h3, h4⟩⟩
theorem PhenL.yes {h : List HTx} {n : Nat} {l : List Int} (H : PhenL h n l) (hp : PhenP h (n + 1)) : PhenL h (n + 1) (l ++ [((n + 1 : Nat) : Int)]) := ⟨by have := H.1; simp; omega, fun x => by
  rw [List.mem_append, H.2]
  constructor
  · rintro (⟨q, h1, h2, h3⟩ | h1)
    · exact ⟨q, h1, by omega, h3⟩
    · simp only [List.mem_singleton] at h1
      exact ⟨n + 1, by omega, by omega, hp, h1⟩
  · rintro ⟨q, h1, h2, h3, h4⟩
    by_cases hq : q = n + 1
    · subst hq; exact .inr (by simp [h4])
    · exact .inl ⟨q, h1, by omega, h3, h4⟩⟩
theorem sl_chg_eq {w w' : World} {e : TypeId} {size n : Nat} {v : Value} {xs : List Value} {F : Nat → Prop} {G : Nat → Prop} {lo : Nat} (h : Sl w e size v n xs F) (hc : Chg G w w') (hF : ∀ j, F j → lo ≤ j) (hG : ∀ j, G j → j < lo) : Sl w' e size v n xs F :=
  h.chg hc (fun j hj hg => by have := hF j hj; have := hG j hg; omega)
set_option maxHeartbeats 4000000 in
theorem phen1_ {w : World} {lp ob : Nat} {h : List HTx} (hl : Led w w.heap.size lp h) (H : Fine h) (hob : w.heap[ob]? = some (.cells #[.slice none 0 0] 41)) :
    Calls Tryz.prog 33 #[.pointer (some ⟨lp, 0, none⟩), .pointer (some ⟨ob, 0, none⟩)] w fun e w' => e = .returned (.tuple #[]) ∧ ∃ v l, w'.heap[ob]? = some (.cells #[v] 41) ∧ Chg (fun j => j = ob) w w' ∧ PhenL h 8 l ∧ RowsN w' w.heap.size 1 intC v l := by
  have hol := lt_of_heap hob
  have hbd := Lib.hid (build_ hl H.lim)
  obtain ⟨i0, z0, j0, j1, j2, j3, j4⟩ := info_of phen_info
  go_enter Tryz.func33, Tryz.ntmps33
  go_wp2_with (go_at_call 24; with_reducible refine hbd.out.mono ?_
               rintro e w1 ⟨gb, rfl, hG, hB⟩
               have hob1 := (hB.block ob hol).trans hob
               have HOB := Lib.hid hob1
               have HG := Lib.hid hG
               clear hob1 hG)
  go_loopw [4] (fun p' wr => ∃ (q : Nat) (v : Value) (l : List Int) (F : Nat → Prop), 1 ≤ q ∧ q ≤ 9 ∧ p' = .int .i64 q ∧ Hid (PhenL h (q - 1) l) ∧ wr.heap[ob]? = some (.cells #[v] 41) ∧ Sl wr 101 1 v l.length (l.flatMap intC) F ∧ (∀ j, F j → w1.heap.size ≤ j ∧ j < wr.heap.size) ∧ Chg (fun j => j = ob) w1 wr) (fun p' _ => 9 - (intOf p').toNat)
  case atStart => exact ⟨1, .slice none 0 0, [], fun _ => False, by omega, by omega, rfl, Lib.hid ⟨by simp, fun x => ⟨by simp, fun ⟨q, h1, h2, _⟩ => by omega⟩⟩, HOB.out, Sl.nil _ _ _ _, fun _ f => f.elim, Chg.refl _ _⟩
  case round =>
    obtain ⟨q, v, l, F, hq1, hq9, rfl, HL, hv, hs, hF, hC⟩ := hrel
    have hz := hC.size
    have hll := HL.out.1
    have hzb := hB.size
    have how : ob < wr.heap.size := by omega
    by_cases hq8 : q ≤ 8
    · have hqi : (q : Int) ≤ 8 := by omega
      have hGr := (But.mk (fun j hj hn => hC.block j hj hn) ⟨_, _, HOB.out, odd_slice _ _ _⟩).grD HG.out hz
      have hsh := Lib.hid (shows_ H hGr (by omega) q hq1 hq8)
      obtain ⟨A, c, rfl, hc1, hc2⟩ := hs.shape
      have HS := Lib.hid hs
      have HV := Lib.hid hv
      have hmx : l.length + 1 ≤ maxLen := by simp only [maxLen]; omega
      have hby : (l.length + 1) * 8 ≤ 140737488355328 := by omega
      clear hGr hs hv
      rcases Classical.em (PhenP h q) with hP | hP
      · have HL2 : Hid (PhenL h q (l ++ [(q : Int)])) := Lib.hid (by
          have := HL.out.yes (by rw [show q - 1 + 1 = q by omega]; exact hP)
          rw [show q - 1 + 1 = q by omega] at this
          exact this)
        have HP := Lib.hid hP
        clear hP
        go_wp2_with (first
          | (go_at_call 32; with_reducible refine hsh.out.mono ?_
             rintro e w2 ⟨hB2, v2, rfl, HN⟩
             obtain ⟨a2, n2, c2, rfl⟩ : ∃ a n c, v2 = .slice (some a) n c := by
               rcases HN.out with ⟨_, h1⟩ | ⟨a, n, c, h1, _⟩
               · exact absurd HP.out h1
               · exact ⟨a, n, c, h1⟩
             have hz2 := hB2.size
             have hv2 := (hB2.block ob how).trans HV.out
             have k0 := (cells_of (cs := [.slice A l.length c]) hv2).1 0
             have k1 := (cells_of (cs := [.slice A l.length c]) hv2).2 0
             have how2 : ob < w2.heap.size := by omega
             have HV2 := Lib.hid hv2
             have hs2 := Lib.hid (HS.out.keep (w' := w2) (fun j hj _ => hB2.block j hj))
             clear hv2)
          | (refine wpList_append_sl _ rfl (.tmp 15) (.tmp 17) 41 rfl 101 i0 z0 1 8 Tryz.underlying41 j0 j1 j2 j3 j4 (by omega) _ _ _ _ rfl (hs2.out.chg ((Chg.refl (fun _ => False) _).alloc _) (fun _ _ f => f)) _ _ 1 1 [.int .i64 q] rfl (reads_new _ _ 1 rfl _) (by intro u hu; simp at hu; subst hu; rfl) hmx hby ?_
             intro v4 w4 F4 hs4 hc4 hf4 hnz4
             obtain ⟨A4, c4, rfl, hc4a, hc4b⟩ := hs4.shape
             have hal : Chg F w2 w4 := (((Chg.refl (fun _ => False) w2).alloc _).mono (G := F) (fun _ _ f => f.elim)).trans hc4 (fun _ _ h => h)
             have hv4 := (hal.block ob how2 (fun h => by have := hF _ h; omega)).trans HV2.out
             have m0 := (cells_of (cs := [.slice A l.length c]) hv4).1 0
             have m1 := (cells_of (cs := [.slice A l.length c]) hv4).2 0
             have how4 : ob < w4.heap.size := by have := hal.size; omega
             have HV4 := Lib.hid hv4
             have HN4 := Lib.hid hnz4
             clear hnz4 hv4))
        have hz4 := hal.size
        have hza : (w2.alloc (.cells #[.int .i64 q] 101)).heap.size = w2.heap.size + 1 := by simp
        have hF4 : ∀ j, F4 j → w1.heap.size ≤ j ∧ j < w4.heap.size := fun j hj => by
          have h4 := hc4.size
          rcases hf4 j hj with h | ⟨h, h'⟩
          · have := hF j h; omega
          · omega
        have hset : Chg (fun j => j = ob) w4 (w4.setCell ⟨ob, 0, none⟩ (.slice A4 (l.length + 1) c4)) := (Chg.refl _ _).setCell _ _ (fun _ => rfl)
        refine ⟨⟨q + 1, .slice A4 (l.length + 1) c4, l ++ [(q : Int)], F4, by omega, by omega, by simp, HL2, ?_, ?_, fun j hj => ?_, ?_⟩, by simp [intOf]; omega⟩
        · simpa using heap_setCell_same (i := 0) (v := .slice A4 (l.length + 1) c4) HV4.out
        · rw [List.flatMap_append]
          have := hs4.chg hset (fun j hj e => by have := hF4 j hj; omega)
          simpa [intC] using this
        · have := hF4 j hj
          have := hset.size
          omega
        · have hc2 : Chg (fun _ => False) wr w2 := ⟨hB2.tape, hB2.os, hB2.output, hB2.size, fun b hb _ => hB2.block b hb⟩
          have h4 := (hC.trans hc2 (fun _ _ f => f.elim)).trans (hal.mono (G := fun j => w1.heap.size ≤ j) (fun j _ h => (hF j h).1)) (F := fun j => j = ob) (fun j hj h => absurd h (by omega))
          exact h4.trans hset (fun _ _ h => h)
      · have HL2 : Hid (PhenL h q l) := Lib.hid (by
          have := HL.out.no (by rw [show q - 1 + 1 = q by omega]; exact hP)
          rw [show q - 1 + 1 = q by omega] at this
          exact this)
        have HP := Lib.hid hP
        clear hP
        go_wp2_with (
          go_at_call 32; with_reducible refine hsh.out.mono ?_
          rintro e w2 ⟨hB2, v2, rfl, HN⟩
          obtain rfl : v2 = .slice none 0 0 := by
               rcases HN.out with ⟨h1, _⟩ | ⟨a, n, c, _, h1⟩
               · exact h1
               · exact absurd h1 HP.out)
        have hc2 : Chg (fun _ => False) wr w2 := ⟨hB2.tape, hB2.os, hB2.output, hB2.size, fun b hb _ => hB2.block b hb⟩
        exact ⟨⟨q + 1, _, l, F, by omega, by omega, by simp, HL2, (hB2.block ob how).trans HV.out, HS.out.chg hc2 (fun _ _ f => f), fun j hj => by have := hF j hj; have := hB2.size; omega, hC.trans hc2 (fun _ _ f => f.elim)⟩, by simp [intOf]; omega⟩
    · obtain rfl : q = 9 := by omega
      have hqi : ¬ ((9 : Nat) : Int) ≤ 8 := by omega
      go_wp2
      go_end0
      refine ⟨rfl, v, hv, ?_, l, HL.out, Rows.of_sl (enc := intC) (fun _ => rfl) hs (Nat.le_refl _), fun a n c hv => ?_⟩
      · exact ((Chg.of_below hB).mono (G := fun j => j = ob) (fun j hj h => absurd h (by omega))).trans hC (fun _ _ h => h)
      · rcases hs.2 with ⟨h1, _⟩ | ⟨g', off', cap', cur', h1, hF', _⟩
        · rw [h1] at hv; cases hv
        · rw [h1] at hv; cases hv; have := hF _ hF'; have := hB.size; simp only; omega
set_option maxHeartbeats 2000000 in
theorem phenomena_ {w : World} {B : Nat} {h : List HTx} {tv : Value} (hh : HistV w B tv h) (hB : B ≤ w.heap.size) (hops : ∀ x ∈ h, x.ops.length ≤ 1048576) :
    Calls Tryz.prog 12 #[.agg #[tv]] w fun e w' => Below w.heap.size w w' ∧ ∃ v, e = .returned (.tuple #[v, .int .i64 (errOf (histFault h))]) ∧ (histFault h = none → ∃ l, PhenL h 8 l ∧ RowsN w' w.heap.size 1 intC v l) := by
  obtain ⟨A, c, rfl, hn0, hm0⟩ := Rows.shape hh
  obtain ⟨W2, hW2⟩ : ∃ W2, W2 = (w.alloc (.cells #[.slice A h.length c] 28)).alloc (.cells #[.slice none 0 0] 41) := ⟨_, rfl⟩
  have hz2 : W2.heap.size = w.heap.size + 2 := by rw [hW2]; simp
  have hB2 : Below w.heap.size w W2 := by rw [hW2]; exact bel2 _ _ _
  have hob : W2.heap[w.heap.size + 1]? = some (.cells #[.slice none 0 0] 41) := by rw [hW2]; exact top_al _ _ (by simp)
  have hg := guarded_ (hh.keep (fun j hj => hB2.block j (by omega))) (show B ≤ W2.heap.size by omega) hops 33 #[.pointer (some ⟨w.heap.size + 1, 0, none⟩)] (enters_of Tryz.func33 (by kernel_rfl) rfl)
    (fun f w' => Below w.heap.size w w' ∧ f = histFault h ∧ ∃ v, w'.heap[w.heap.size + 1]? = some (.cells #[v] 41) ∧ (f = none → ∃ l, PhenL h 8 l ∧ RowsN w' (W2.heap.size + 2) 1 intC v l))
    (fun lp w1 hl hb hsz hf => by
      refine (phen1_ hl (fine_of hf) ((hb.block (w.heap.size + 1) (by omega)).trans hob)).mono ?_
      rintro e w2 ⟨rfl, v, l, h1, h2, h0, h3⟩
      refine ⟨none, rfl, ⟨?_, hf.symm, v, h1, fun _ => ⟨l, h0, h3.1, fun a n c hv => by have := h3.2 a n c hv; omega⟩⟩, h2.block _ hsz (by omega)⟩
      exact (hB2.trans (hb.mono (by omega))).trans (h2.below (fun j hj => by omega) (by have := hb.size; omega)))
    (fun f w2 w3 ⟨h1, h2, v, h3, h4⟩ hc => ⟨h1.trans (hc.below (fun j hj => by omega) h1.size), h2, v, (hc.block _ (lt_of_heap h3) (by omega)).trans h3, fun hf => by
      obtain ⟨l, h5, h6⟩ := h4 hf
      exact ⟨l, h5, h6.chg hc (fun j hj => by omega)⟩⟩)
    (fun f w3 hf hb => ⟨hB2.trans (hb.mono (by omega)), hf.symm, _, (hb.block _ (by omega)).trans hob, fun h => by cases h⟩)
  have HG := Lib.hid hg
  have HW2 := Lib.hid hW2
  clear hg hW2 hh
  have hmf : ∀ (fn : Fn) (first cap : Array Value) (w : World), (Instr.makeFunc fn first cap).run Tryz.prog w = .ok (.func fn first cap) w := fun _ _ _ _ => rfl
  obtain ⟨E, hE⟩ : ∃ E, E = errOf (histFault h) := ⟨_, rfl⟩
  rw [← hE]
  have HE := Lib.hid hE
  clear hE
  go_enter Tryz.func12, Tryz.ntmps12
  go_wp2_with (first
    | (with_reducible refine wp_region_free (by kernel_rfl) (fun _ _ => ?_))
    | (go_at_call 18; rw [← HW2.out]; refine HG.out.mono ?_
       rintro e w1 ⟨f, rfl, hb1, hf, v, hv, hrows⟩
       rw [faultRes_eq]
       have q0 := (heap_cell hv).1
       have hol := lt_of_heap hv
       have hErr : errOf f = E := by rw [hf, HE.out]
       have HV := Lib.hid (And.intro hv (And.intro hb1 (And.intro hf hrows)))
       clear hv hf hrows
       obtain ⟨T, hT⟩ : ∃ T, T = txnOf f := ⟨_, rfl⟩
       obtain ⟨O, hO⟩ : ∃ O, O = opOf f := ⟨_, rfl⟩
       rw [← hT, ← hO, hErr]
       clear hT hO hErr))
  refine bodyPost_ret (results_tmp2 rfl _ _ _) rfl ?_
  obtain ⟨h1, h2, h3, h4⟩ := HV.out
  have hal : ∀ o : Obj, Chg (fun _ => False) w1 (w1.alloc o).drew := fun o => ((Chg.refl _ _).alloc o).drew
  refine ⟨(h2.alloc h2.size _).drew, v, rfl, fun hf => ?_⟩
  obtain ⟨l, h5, h6⟩ := h4 (h3.trans hf)
  exact ⟨l, h5, (RowsN.chg h6 (hal _) (fun _ f => f.elim)).1, fun a n c hv => by have := h6.2 a n c hv; omega⟩
end Go.Proofs.YtooigfkjdemnlaaGreatDoor

namespace Go.Proofs.YtooigfkjdemnlaaGreatDoor
variable {h : List HTx} {l : List Nat} {k : ByteArray}

theorem op_at {t : Nat} {x : HTx} {i : Nat} {o : HOpr} (h0 : operation h t x i o = 0) (hk : o.kind = 3) (hc : com h t = true) : x.bgn ≤ o.at_ ∧ o.at_ ≤ x.fin := by
  have := (op_scan h0 hk).2.2.2
  refine ⟨?_, ?_⟩
  · exact Int.not_lt.1 fun h1 => this (.inr ⟨hc, .inl h1⟩)
  · exact Int.not_lt.1 fun h1 => this (.inr ⟨hc, .inr h1⟩)
theorem tellsAt_none {o : HOpr} : tellsAt o k = none ↔ ∀ v ∈ o.seen, v.key ≠ k := by
  unfold tellsAt
  rw [List.find?_eq_none]
  simp
theorem order_nil (hk : k ∉ keysOf h) : order h k = [] := by
  rw [mem_keysOf_ins] at hk
  have h1 : insUpto h h.length k = [] := Classical.byContradiction hk
  have := order_len h k
  rw [h1] at this
  exact List.eq_nil_of_length_eq_zero this
theorem writes_nil {t : Nat} {x : HTx} (hx : h[t]? = some x) (hc : com h t = true) (hk : k ∉ keysOf h) : writes x k = [] := by
  cases hw : (writes x k).getLast? with
  | none => exact List.getLast?_eq_none_iff.1 hw
  | some w =>
    obtain ⟨i, hi⟩ := writes_key hx hc hw
    exact absurd (key_of_order hi) hk
theorem untold_gone (H : Fine h) (L : Line h l) {n t : Nat} {x : HTx} {i : Nat} {o : HOpr}
    (hn : l[n]? = some t) (hx : h[t]? = some x) (ho : x.ops[i]? = some o) (hk3 : o.kind = 3) (hcv : covers o k = true) (hut : tellsAt o k = none) : applyN x t (stAt h l n) i k = none := by
  have hil := (List.getElem?_eq_some_iff.1 ho).1
  have hnl := (List.getElem?_eq_some_iff.1 hn).1
  have hct := (L.cm t).1 (List.mem_of_getElem? hn)
  obtain ⟨y, hy, hfx⟩ := com_iff.1 hct
  rw [hx] at hy; cases hy
  rw [applyN_spec _ _ _ _ _ (by omega)]
  obtain ⟨c, hcut⟩ := L.cut k n
  have hst := L.stAt (by omega) hcut
  by_cases hkk : k ∈ keysOf h
  · have hok : okKey h t x i o k = true := by
      have hcmp := (op_scan (H.op t x hx i o ho) hk3).2.2.1 hct
      unfold complete at hcmp
      rw [List.all_eq_true] at hcmp
      exact hcmp k (List.mem_filter.2 ⟨hkk, by simp [hut, hcv]⟩)
    unfold okKey at hok
    rw [aheadL_wrUpto (by omega)] at hok
    cases hw : (wrUpto x i k).getLast? with
    | some w =>
      rw [hw] at hok
      simp only at hok ⊢
      rw [hok]; rfl
    | none =>
      rw [hw] at hok
      simp only at hok ⊢
      have hw0 : wrUpto x i k = [] := List.getLast?_eq_none_iff.1 hw
      rw [hst]
      refine curAt_dead hcut.1 ?_
      obtain ⟨N, hN⟩ : ∃ N, N = chosen h t k o.at_ := ⟨_, rfl⟩
      have hNl : N ≤ (order h k).length := by rw [hN]; exact chosenUpto_le _ _ _ _
      have hdead : deadAt (order h k) N = true := by
        rw [← hN] at hok
        cases N with
        | zero => rfl
        | succ c' =>
          simp only at hok
          simp only [deadAt]
          cases hv : (order h k)[c']? with
          | none => rfl
          | some v => rw [hv] at hok; exact hok
      have hsn : scanN h t o k = N := by unfold scanN; rw [hut, hN]
      have hedge : ∀ e, QScan h t o k e → e ∈ edgesOf h := fun e he => by
        refine mem_edgesOf.2 (.inr ⟨t, x, i, o, hx, hct, ho, .inr ⟨hk3, .inr ⟨k, hkk, ?_, hcv, he⟩⟩⟩)
        rw [aheadL_wrUpto (by omega), hw0]; rfl
      have hnt : ¬ ((tellsAt o k).isSome = true ∧ scanN h t o k = 0) := fun h1 => by rw [hut] at h1; cases h1.1
      -- below: the last turn stands ahead of t
      have hdown : ∀ d, downTurn (order h k) N = some d → d < c := fun d hd => by
        obtain ⟨hdN, htd, _⟩ := downTurn_some hd
        obtain ⟨u, hu⟩ : ∃ u, (order h k)[d]? = some u := ⟨_, List.getElem?_eq_getElem (by omega)⟩
        have hut' : u.txn ≠ t := fun e => by
          obtain ⟨c', rfl⟩ : ∃ c', N = c' + 1 := ⟨N - 1, by omega⟩
          obtain ⟨z, hz, hz1, hz2⟩ := chosenUpto_at hN.symm
          have h1 := order_sorted h k hu hz (by omega)
          obtain ⟨y1, w1, g1, g2, g3, g4⟩ := mem_order.1 (List.mem_of_getElem? hu)
          obtain ⟨y2, w2, k1, k2, k3, k4⟩ := mem_order.1 (List.mem_of_getElem? hz)
          rw [e, hx] at g1; cases g1
          have e1 : u.fin = x.fin := by rw [g4]
          have e2 : z.fin = y2.fin := by rw [k4]
          have h2 := (op_at (H.op t x hx i o ho) hk3 hct).2
          exact hz1 (ends_inj H hx k1 hfx k2 (by omega))
        obtain ⟨m, hm⟩ := L.at_ hu
        obtain ⟨a, b, ta, tb, g1, g2, g3, g4, g5⟩ := L.rise _ (hedge ⟨u.txn, t, 3, k⟩ ⟨hnt, .inl ⟨d, u, by rw [hsn]; exact hd, hu, by omega, rfl⟩⟩)
        simp only at g4 g5
        obtain rfl : u.txn = ta := by omega
        obtain rfl : t = tb := by omega
        have := L.inj g3 hn
        have := L.inj g2 hm
        exact (hcut.2 d u m hu hm).2 (by omega)
      have hup : ∀ d, upTurn (order h k) N ((order h k).length - N) = some d → c ≤ d := fun d hd => by
        obtain ⟨hd1, hd2, htd, _⟩ := upTurn_some hd
        obtain ⟨u, hu⟩ : ∃ u, (order h k)[d]? = some u := ⟨_, List.getElem?_eq_getElem (by omega)⟩
        obtain ⟨m, hm⟩ := L.at_ hu
        have hnm : n ≤ m := by
          by_cases hut' : u.txn = t
          · rw [hut'] at hm
            have := L.inj hm hn; omega
          · obtain ⟨a, b, ta, tb, g1, g2, g3, g4, g5⟩ := L.rise _ (hedge ⟨t, u.txn, 5, k⟩ ⟨hnt, .inr ⟨d, u, by rw [hsn]; exact hd, hu, by omega, rfl⟩⟩)
            simp only at g4 g5
            obtain rfl : t = ta := by omega
            obtain rfl : u.txn = tb := by omega
            have := L.inj g2 hn
            have := L.inj g3 hm
            omega
        refine Nat.le_of_not_lt fun h1 => ?_
        have := (hcut.2 d u m hu hm).1 h1
        omega
      rcases Nat.le_total N c with hNc | hcN
      · -- nothing turns from N to c
        obtain ⟨d, rfl⟩ : ∃ d, c = N + d := ⟨c - N, by omega⟩
        rw [deadAt_same d hcut.1 (fun j h1 h2 => ?_)]
        · exact hdead
        · cases hu : upTurn (order h k) N ((order h k).length - N) with
          | none => exact upTurn_none hu j h1 (by have := hcut.1; omega)
          | some q => exact (upTurn_some hu).2.2.2 j h1 (by have := hup q hu; omega)
      · obtain ⟨d, rfl⟩ : ∃ d, N = c + d := ⟨N - c, by omega⟩
        rw [← deadAt_same d hNl (fun j h1 h2 => ?_)]
        · exact hdead
        · cases hu : downTurn (order h k) (c + d) with
          | none => exact downTurn_none hu j h2
          | some q => exact (downTurn_some hu).2.2 j (by have := hdown q hu; omega) h2
  · have hwx := writes_nil hx hct hkk
    obtain ⟨r, hr⟩ := wrUpto_pre (x := x) (k := k) (i := i) (by omega)
    rw [hwx] at hr
    have hw0 : wrUpto x i k = [] := (List.append_eq_nil_iff.1 hr.symm).1
    rw [hw0]
    simp only [List.getLast?_nil]
    rw [hst]
    have ho := order_nil hkk
    have hc0 : c = 0 := by have := hcut.1; rw [ho] at this; simpa using this
    rw [hc0]; rfl
theorem klt_of_kle {a b : ByteArray} (h1 : kle a b = true) (hne : a ≠ b) : klt a b = true := by
  cases h2 : klt a b with
  | true => rfl
  | false =>
    have h3 : klt b a = false := by
      rw [kle_eq] at h1
      simpa using h1
    exact absurd (klt_anti h2 h3) hne
theorem rising_unique {a b : List ByteArray} (ha : a.Pairwise (fun x y => klt x y = true)) (hb : b.Pairwise (fun x y => klt x y = true)) (hm : ∀ x, x ∈ a ↔ x ∈ b) : a = b := by
  have hna : a.Nodup := ha.imp (fun {x y} hxy e => by subst e; rw [klt_irrefl] at hxy; cases hxy)
  have hnb : b.Nodup := hb.imp (fun {x y} hxy e => by subst e; rw [klt_irrefl] at hxy; cases hxy)
  refine List.Perm.eq_of_pairwise (le := fun x y => klt x y = true) (fun x y _ _ h1 h2 => ?_) ha hb ((List.perm_ext_iff_of_nodup hna hnb).2 hm)
  have := klt_trans h1 h2
  rw [klt_irrefl] at this
  cases this
theorem keysOf_rising (h : List HTx) : (keysOf h).Pairwise (fun a b => klt a b = true) := by
  have h1 := keysOf_sorted h
  have h2 := keysOf_nodup h
  exact (h1.and h2).imp (fun {a b} hab => klt_of_kle hab.1 hab.2)
theorem cmpS_lt {a b : ByteArray} (h1 : cmpS a b ≤ 0) (h2 : ¬ cmpS a b = 0) : klt a b = true := by
  unfold cmpS at h1 h2
  by_cases h3 : klt a b = true
  · exact h3
  · rw [if_neg h3] at h1 h2
    by_cases h4 : (a.toList == b.toList) = true
    · rw [if_pos h4] at h2; exact absurd rfl h2
    · rw [if_neg h4] at h1; exact absurd h1 (by decide)
theorem pairwise_of_next {α : Type} {R : α → α → Prop} (ht : ∀ a b c, R a b → R b c → R a c) {l : List α} (hn : ∀ i a b, l[i]? = some a → l[i + 1]? = some b → R a b) : l.Pairwise R := by
  rw [List.pairwise_iff_getElem]
  have key : ∀ d i a b, l[i]? = some a → l[i + (d + 1)]? = some b → R a b := by
    intro d
    induction d with
    | zero => intro i a b ha hb; exact hn i a b ha hb
    | succ d ih =>
      intro i a b ha hb
      have hl := (List.getElem?_eq_some_iff.1 hb).1
      obtain ⟨c, hc⟩ : ∃ c, l[i + (d + 1)]? = some c := ⟨_, List.getElem?_eq_getElem (by omega)⟩
      exact ht a c b (ih i a c ha hc) (hn (i + (d + 1)) c b hc (by rw [show i + (d + 1) + 1 = i + (d + 1 + 1) by omega]; exact hb))
  intro i j hi hj hij
  exact key (j - i - 1) i _ _ (List.getElem?_eq_getElem hi) (by rw [show i + (j - i - 1 + 1) = j by omega]; exact List.getElem?_eq_getElem hj)
theorem seen_rising (H : Fine h) {t : Nat} {x : HTx} {i : Nat} {o : HOpr} (hx : h[t]? = some x) (hc : com h t = true) (ho : x.ops[i]? = some o) (hk3 : o.kind = 3) : (o.seen.map (·.key)).Pairwise (fun a b => klt a b = true) := by
  have hs := (op_scan (H.op t x hx i o ho) hk3).2.1
  refine pairwise_of_next (R := fun a b => klt a b = true) (fun a b c h1 h2 => klt_trans h1 h2) (fun j a b ha hb => ?_)
  rw [List.getElem?_map] at ha hb
  obtain ⟨u, hu, rfl⟩ := Option.map_eq_some_iff.1 ha
  obtain ⟨v, hv, rfl⟩ := Option.map_eq_some_iff.1 hb
  have h3 := (seenOk_all hs (j + 1) v (List.getElem?_eq_some_iff.1 hv).1 hv).2.2
  simp only [riseOk, hu] at h3
  simp only [Bool.and_eq_true, decide_eq_true_eq, Bool.or_eq_true, Bool.not_eq_true', hc] at h3
  refine cmpS_lt h3.1 (fun h4 => ?_)
  rcases h3.2 with h5 | h5
  · rw [h4] at h5; simp at h5
  · cases h5
theorem state_keys (L : Line h l) {n t : Nat} {x : HTx} {i : Nat} (hn : l[n]? = some t) (hx : h[t]? = some x) (hi : i ≤ x.ops.length) (hs : applyN x t (stAt h l n) i k ≠ none) : k ∈ keysOf h := by
  refine Classical.byContradiction fun hkk => hs ?_
  have hct := (L.cm t).1 (List.mem_of_getElem? hn)
  have hnl := (List.getElem?_eq_some_iff.1 hn).1
  rw [applyN_spec _ _ _ _ _ hi]
  have hwx := writes_nil hx hct hkk
  obtain ⟨r, hr⟩ := wrUpto_pre (x := x) (k := k) (i := i) hi
  rw [hwx] at hr
  have hw0 : wrUpto x i k = [] := (List.append_eq_nil_iff.1 hr.symm).1
  obtain ⟨c, hcut⟩ := L.cut k n
  rw [hw0]
  simp only [List.getLast?_nil]
  rw [L.stAt (by omega) hcut]
  have ho := order_nil hkk
  have hc0 : c = 0 := by have := hcut.1; rw [ho] at this; simpa using this
  rw [hc0]; rfl
theorem line_replays (H : Fine h) (L : Line h l) (hA : ¬ ToldB h (badA h)) (hB : ¬ ToldB h (badB h)) : ReplayOK h l := by
  intro n t x i o hn hx ho hk2
  have hil := (List.getElem?_eq_some_iff.1 ho).1
  have hct := (L.cm t).1 (List.mem_of_getElem? hn)
  have hop := H.op t x hx i o ho
  unfold SameP
  rcases op_kind hop with hk | hk | hk
  · rw [if_pos hk]
    obtain ⟨u, hu, _⟩ := op_read hop hk
    rw [told_stands H L hA hB hn hx ho (by unfold seenOf; rw [if_pos hk]; simp) hu]
    rfl
  · exact absurd hk hk2
  · rw [if_neg (by omega)]
    obtain ⟨s, hs⟩ : ∃ s, s = applyN x t (stAt h l n) i := ⟨_, rfl⟩
    rw [← hs]
    have hseen : ∀ v ∈ o.seen, s v.key = some v ∧ covers o v.key = true := fun v hv => by
      obtain ⟨j, hj⟩ := List.mem_iff_getElem?.1 hv
      obtain ⟨h1, h2, _⟩ := seenOk_all (op_scan hop hk).2.1 j v (List.getElem?_eq_some_iff.1 hj).1 hj
      obtain ⟨u, hu⟩ := Option.isSome_iff_exists.1 h1
      exact ⟨by rw [hs]; exact told_stands H L hA hB hn hx ho (by unfold seenOf; rw [if_neg (by omega), if_neg (by omega)]; exact hv) hu, h2⟩
    have hkey : ∀ k, s k ≠ none → k ∈ keysOf h := fun k hk' => by rw [hs] at hk'; exact state_keys L hn hx (by omega) hk'
    have hlist : ((keysOf h).filter fun k => (s k).isSome).filter (covers o) = o.seen.map (·.key) := by
      refine rising_unique (((keysOf_rising h).filter _).filter _) (seen_rising H hx hct ho hk) (fun k => ?_)
      rw [List.mem_filter, List.mem_filter, List.mem_map]
      constructor
      · rintro ⟨⟨h1, h2⟩, h3⟩
        refine Classical.byContradiction fun hn' => ?_
        have hnone : tellsAt o k = none := tellsAt_none.2 (fun v hv e => hn' ⟨v, hv, e⟩)
        have := untold_gone H L hn hx ho hk h3 hnone
        rw [hs, this] at h2
        cases h2
      · rintro ⟨v, hv, rfl⟩
        obtain ⟨h1, h2⟩ := hseen v hv
        exact ⟨⟨hkey _ (by rw [h1]; simp), by rw [h1]; rfl⟩, h2⟩
    refine ⟨(keysOf h).filter fun k => (s k).isSome, (keysOf_rising h).filter _, fun k => ?_, ?_⟩
    · rw [List.mem_filter]
      constructor
      · rintro ⟨_, h2⟩ h3
        rw [h3] at h2; cases h2
      · intro h1
        exact ⟨hkey k h1, Option.isSome_iff_ne_none.2 h1⟩
    · rw [hlist, List.map_map]
      conv => lhs; rw [← List.map_id o.seen]
      apply List.map_congr_left
      intro v hv
      simp [(hseen v hv).1]
end Go.Proofs.YtooigfkjdemnlaaGreatDoor

namespace Go.Proofs.YtooigfkjdemnlaaGreatDoor
set_option maxRecDepth 100000
open Go.RowKit Go.Lib Go.Sort Go.Shelf Xw

instance : DecidableEq HVer := fun a b => by
  cases a; cases b
  simp only [HVer.mk.injEq]
  infer_instance
def verV (v : HVer) : Value := .agg #[.string v.key, .int .i64 v.frm, .int .i64 v.nth]
theorem ver_eq_dec (a b : HVer) : decide (a = b) = ((a.key.toList == b.key.toList) && ((a.frm == b.frm) && (a.nth == b.nth))) := by
  have hk : (a.key.toList == b.key.toList) = decide (a.key = b.key) := by rw [← beq_toListBytes, bytes_beq]
  rw [hk]
  cases a; cases b
  simp only [HVer.mk.injEq, Bool.decide_and]
  rfl
theorem run_equalV (a b : HVer) (w : World) : (Op.equalIn 10000 56 (.agg #[.string a.key, .int .i64 a.frm, .int .i64 a.nth]) (.agg #[.string b.key, .int .i64 b.frm, .int .i64 b.nth])).run Tryz.prog w = .ok (decide (a = b)) w := by
  rw [ver_eq_dec]
  go_simp
  by_cases h1 : a.key.toList = b.key.toList <;> by_cases h2 : a.frm = b.frm <;> by_cases h3 : a.nth = b.nth <;> simp [h1, h2, h3]
theorem run_eqlV (a b : HVer) (w : World) : (binOp .eql 56 (.agg #[.string a.key, .int .i64 a.frm, .int .i64 a.nth]) (.agg #[.string b.key, .int .i64 b.frm, .int .i64 b.nth])).run Tryz.prog w = .ok (.bool (decide (a = b))) w := by
  rw [run_eql_struct, run_equalV]; rfl
theorem run_neqV (a b : HVer) (w : World) : (binOp .neq 56 (.agg #[.string a.key, .int .i64 a.frm, .int .i64 a.nth]) (.agg #[.string b.key, .int .i64 b.frm, .int .i64 b.nth])).run Tryz.prog w = .ok (.bool (!decide (a = b))) w := by
  rw [run_neq_struct, run_equalV]; rfl
def StM (w : World) (mb : Nat) (st : KSt) (N : Nat) : Prop := ∃ L : List (ByteArray × Value), KMap Value.string w mb L ∧ (∀ k, kget L k = (st k).map verV) ∧ L.length ≤ N
section
variable {w w' : World} {mb N : Nat} {st : KSt}
theorem StM.keep (h : StM w mb st N) (hk : w'.heap[mb]? = w.heap[mb]?) : StM w' mb st N := let ⟨L, h1, h2⟩ := h; ⟨L, h1.keep hk, h2⟩
theorem StM.lt (h : StM w mb st N) : mb < w.heap.size := let ⟨L, h1, h2⟩ := h; h1.lt
theorem StM.made (w : World) : StM (w.alloc (.map #[] 0)) w.heap.size (fun _ => none) 0 := ⟨[], KMap.made _ w, fun x => rfl, by simp⟩
theorem StM.more {N' : Nat} (h : StM w mb st N) (hN : N ≤ N') : StM w mb st N' := let ⟨L, h1, h2, h3⟩ := h; ⟨L, h1, h2, Nat.le_trans h3 hN⟩
theorem zero_ver (w : World) : (zeroValue 56).run Tryz.prog w = .ok (verV hver0) w := by kernel_rfl
theorem StM.look (h : StM w mb st N) (k : ByteArray) (W : World) (e : W.heap[mb]? = w.heap[mb]?) : (Instr.lookup 87 (.map (some mb)) (.string k) false).run Tryz.prog W = .ok (.agg #[.string ((st k).getD hver0).key, .int .i64 ((st k).getD hver0).frm, .int .i64 ((st k).getD hver0).nth]) W := by
  obtain ⟨L, h1, h2, _⟩ := h
  have := run_lookup_kmap kString Tryz.underlying87 (zero_ver W) (h1.keep e) k false
  rw [h2 k] at this
  refine this.trans ?_
  cases st k <;> rfl
theorem StM.store (h : StM w mb st N) (k : ByteArray) (v : HVer) : ∃ w6, (Instr.mapUpdate 87 (.map (some mb)) (.string k) (.agg #[.string v.key, .int .i64 v.frm, .int .i64 v.nth])).run Tryz.prog w = .ok () w6 ∧ StM w6 mb (put st k (some v)) (N + 1) ∧ Chg (fun j => j = mb) w w6 := by
  obtain ⟨L, h1, h2, h3⟩ := h
  obtain ⟨w6, hrun, hk, hc⟩ := run_store_kmap kString Tryz.underlying87 h1 k (verV v)
  refine ⟨w6, hrun, ⟨_, hk, fun y => ?_, ?_⟩, hc⟩
  · rw [kget_kset]
    unfold put
    by_cases hy : y = k
    · rw [if_pos hy, if_pos hy]; rfl
    · rw [if_neg hy, if_neg hy]; exact h2 y
  · unfold kset
    split
    · rw [List.length_map]; omega
    · simp; omega
theorem kget_kdel {K : Type} [DecidableEq K] (L : List (K × Value)) (k k' : K) : kget (kdel L k) k' = if k' = k then none else kget L k' := by
  unfold kget kdel
  rw [List.find?_filter]
  by_cases h : k' = k
  · rw [if_pos h]
    subst h
    rw [List.find?_eq_none.2 (fun x _ => by by_cases hx : x.1 = k' <;> simp [hx])]; rfl
  · rw [if_neg h]
    congr 2
    funext a
    by_cases ha : a.1 = k'
    · have : a.1 ≠ k := fun e => h (ha.symm.trans e)
      simp [ha, h]
    · simp [ha]
theorem StM.delete (h : StM w mb st N) (k : ByteArray) : ∃ w6, (∀ ty, (Builtin.delete_ #[87, 9] ty #[.map (some mb), .string k]).run Tryz.prog w = .ok (.tuple #[]) w6) ∧ StM w6 mb (put st k none) N ∧ Chg (fun j => j = mb) w w6 := by
  obtain ⟨L, h1, h2, h3⟩ := h
  obtain ⟨w6, hrun, hk, hc⟩ := run_delete_kmap kString Tryz.underlying87 h1 k 0 #[87, 9] rfl
  refine ⟨w6, fun ty => ?_, ⟨_, hk, fun y => ?_, ?_⟩, hc⟩
  · exact hrun
  · rw [kget_kdel]
    unfold put
    by_cases hy : y = k
    · rw [if_pos hy, if_pos hy]; rfl
    · rw [if_neg hy, if_neg hy]; exact h2 y
  · exact Nat.le_trans (List.length_filter_le _ _) h3
end
set_option maxHeartbeats 4000000 in
theorem equalVers_ {w : World} {B : Nat} {v1 v2 : Value} {l1 l2 : List HVer} (h1 : Rows w B 3 (Flat verC) v1 l1) (h2 : Rows w B 3 (Flat verC) v2 l2) (hB : B ≤ w.heap.size) :
    Calls Tryz.prog 49 #[v1, v2] w fun e w' => e = .returned (.bool (decide (l1 = l2))) ∧ Below w.heap.size w w' := by
  obtain ⟨A1, c1, rfl, ha1, hb1⟩ := h1.shape
  obtain ⟨A2, c2, rfl, ha2, hb2⟩ := h2.shape
  simp only [maxLen] at hb1 hb2
  by_cases hl : l1.length = l2.length
  · have hlb : ((l1.length : Int) != (l2.length : Int)) = false := by simp [hl]
    have HL := Lib.hid hl
    clear hl
    go_enter Tryz.func49, Tryz.ntmps49
    go_wp2
    go_loopw [5, 13] (fun _ i' wr => ∃ i : Nat, i ≤ l1.length ∧ i' = .int .i64 i ∧ Hid (l1.take i = l2.take i) ∧ Below w.heap.size w wr) (fun _ i' _ => l1.length - (intOf i').toNat)
    case atStart => exact ⟨0, by omega, rfl, Lib.hid (by simp), Below.refl _ _⟩
    case round =>
      obtain ⟨i, hi, rfl, HI, hBw⟩ := hrel
      have hz := hBw.size
      by_cases hlt : i < l1.length
      · obtain ⟨x, hx⟩ : ∃ x, l1[i]? = some x := ⟨_, List.getElem?_eq_getElem hlt⟩
        obtain ⟨y, hy⟩ : ∃ y, l2[i]? = some y := ⟨_, List.getElem?_eq_getElem (by have := HL.out; omega)⟩
        obtain ⟨b1, o1, c1', hq1, hbb1, x0, x1, x2⟩ := h1.get3 hx (wr := wr) (fun j hj => hBw.block j (by omega)) rfl
        cases hq1
        obtain ⟨b2, o2, c2', hq2, hbb2, y0, y1, y2⟩ := h2.get3 hy (wr := wr) (fun j hj => hBw.block j (by omega)) rfl
        cases hq2
        have hi1 : b1 < wr.heap.size := by omega
        have hi2 : b2 < wr.heap.size := by omega
        have hii : (i : Int) < l1.length := by omega
        have hii2 : (i : Int) < l2.length := by have := HL.out; omega
        have HX := Lib.hid hx
        have HY := Lib.hid hy
        clear hx hy
        by_cases hxy : x = y
        · have hqb : ∀ w, (binOp .neq 56 (.agg #[.string x.key, .int .i64 x.frm, .int .i64 x.nth]) (.agg #[.string y.key, .int .i64 y.frm, .int .i64 y.nth])).run Tryz.prog w = .ok (.bool false) w := fun w => by rw [run_neqV]; simp [hxy]
          have HXY := Lib.hid hxy
          clear hxy
          go_upto_region 6 with (fail)
          go_quiet (fail)
          go_wp2
          refine ⟨⟨i + 1, by omega, by simp, Lib.hid ?_, below_drewN hBw nq⟩, by simp [intOf]; omega⟩
          rw [List.take_add_one, List.take_add_one, HI.out, HX.out, HY.out, HXY.out]
        · have hqb : ∀ w, (binOp .neq 56 (.agg #[.string x.key, .int .i64 x.frm, .int .i64 x.nth]) (.agg #[.string y.key, .int .i64 y.frm, .int .i64 y.nth])).run Tryz.prog w = .ok (.bool true) w := fun w => by rw [run_neqV]; simp [hxy]
          have HXY := Lib.hid hxy
          clear hxy
          go_upto_region 6 with (fail)
          go_quiet (fail)
          go_wp2
          go_ret
          refine ⟨ret_bool ?_, below_drewN hBw nq⟩
          have : l1 ≠ l2 := fun e => by
            have h3 := HX.out
            rw [e, HY.out] at h3
            cases h3
            exact HXY.out rfl
          simp [this]
      · obtain rfl : i = l1.length := by omega
        have heq : l1 = l2 := by
          have := HI.out
          rw [List.take_length, HL.out, List.take_length] at this
          exact this
        have HEQ := Lib.hid heq
        clear heq
        go_wp2
        go_ret
        exact ⟨ret_bool (by simp [HEQ.out]), hBw⟩
  · have hlb : ((l1.length : Int) != (l2.length : Int)) = true := by simp; omega
    have hne : l1 ≠ l2 := fun e => hl (by rw [e])
    have HN := Lib.hid hne
    clear hne hl
    go_enter Tryz.func49, Tryz.ntmps49
    go_wp2
    go_ret
    exact ⟨ret_bool (by simp [HN.out]), Below.refl _ _⟩
end Go.Proofs.YtooigfkjdemnlaaGreatDoor
