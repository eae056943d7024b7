/- Own texts of this claim, joined in build order: V2, V3, H3. -/
import Derived.Test.YtooigfkjdemnlaaGreatDoorG33
import Derived.Test.YtooigfkjdemnlaaGreatDoorG19
import Derived.Test.YtooigfkjdemnlaaGreatDoorG20
import Derived.Test.YtooigfkjdemnlaaGreatDoorG34
set_option linter.all false
namespace Go.Proofs.YtooigfkjdemnlaaGreatDoor
set_option maxRecDepth 100000
open Go.RowKit Go.Lib Go.Sort Go.Shelf Xw

theorem hver_eta (v : HVer) : (⟨v.key, v.frm, v.nth⟩ : HVer) = v := rfl
theorem StM.keys {w : World} {mb : Nat} {st : KSt} {L : List (ByteArray × Value)} (hk : KMap Value.string w mb L) (hg : ∀ k, kget L k = (st k).map verV) {ss : List (List UInt8)} (hp : ss.Perm (L.map fun p => kb p.1)) :
    ∃ ks : List ByteArray, ss.mergeSort (fun x y => decide (x ≤ y)) = ks.map kb' ∧ ks.length = L.length ∧ ks.Pairwise (fun a b => klt a b = true) ∧ ∀ k, k ∈ ks ↔ st k ≠ none := by
  have hperm : ((L.map (·.1)).mergeSort kle).Perm (L.map (·.1)) := List.mergeSort_perm _ _
  refine ⟨(L.map (·.1)).mergeSort kle, ?_, ?_, ?_, fun k => ?_⟩
  · have hp2 : ss.Perm ((L.map (·.1)).map kb') := by rw [List.map_map]; exact hp
    rw [mergeSort_of_perm hp2]
    exact (List.map_mergeSort (fun a _ b _ => leB_kb a b)).symm
  · rw [List.length_mergeSort, List.length_map]
  · have h1 := List.pairwise_mergeSort kle_trans kle_total (L.map (·.1))
    have h2 : ((L.map (·.1)).mergeSort kle).Nodup := hperm.nodup_iff.2 hk.nodup
    exact (h1.and h2).imp (fun {a b} hab => klt_of_kle hab.1 hab.2)
  · rw [List.mem_mergeSort]
    constructor
    · intro hm h0
      obtain ⟨p, hp, rfl⟩ := List.mem_map.1 hm
      have := kget_mem hk.nodup (k := p.1) (v := p.2) hp
      rw [hg, h0] at this
      cases this
    · intro h0
      cases hs : kget L k with
      | none =>
        rw [hg] at hs
        cases hst : st k with
        | none => exact absurd hst h0
        | some v => rw [hst] at hs; cases hs
      | some v => exact List.mem_map_of_mem (f := (·.1)) (kget_some hs)
theorem ver_info : (Tryz.prog.info? 56).map (fun i => (i.zero.map (·.cells.size), i.size, i.bytes)) = some (some 3, 3, 32) := by kernel_rfl
def tellL (st : KSt) (o : HOpr) (ks : List ByteArray) (i : Nat) : List HVer := ((ks.take i).filter (covers o)).map fun k => (st k).getD hver0
theorem tellL_len (st : KSt) (o : HOpr) (ks : List ByteArray) (i : Nat) : (tellL st o ks i).length ≤ ks.length := by
  unfold tellL
  rw [List.length_map]
  have h1 := List.length_filter_le (covers o) (ks.take i)
  have h2 := List.length_take (i := i) (l := ks)
  omega
theorem tellL_succ {st : KSt} {o : HOpr} {ks : List ByteArray} {i : Nat} {k : ByteArray} (hk : ks[i]? = some k) : tellL st o ks (i + 1) = if covers o k = true then tellL st o ks i ++ [(st k).getD hver0] else tellL st o ks i := by
  unfold tellL
  rw [List.take_add_one, hk, List.filter_append, List.map_append]
  cases hc : covers o k <;> simp [hc]
set_option maxHeartbeats 8000000 in
theorem same_ {w : World} {B mb N : Nat} {st : KSt} {sv : Value} {o : HOpr} (hS : StM w mb st N) (hN : N ≤ 268435456) (hrows : Rows w B 3 (Flat verC) sv o.seen) (hB : B ≤ w.heap.size) :
    Calls Tryz.prog 22 #[.map (some mb), .agg #[.int .i64 o.kind, .string o.ver.key, .int .i64 o.ver.frm, .int .i64 o.ver.nth, .bool o.dead, .string o.value, .string o.hi, sv, .int .u64 o.at_]] w fun e w' => Below w.heap.size w w' ∧ ∃ b, e = .returned (.bool b) ∧ Hid (b = true ↔ SameP st o) := by
  obtain ⟨SA, sc, rfl, hsc1, hsc2⟩ := hrows.shape
  simp only [maxLen] at hsc2
  have hmb := hS.lt
  obtain ⟨W1, hW1⟩ : ∃ W1, W1 = w.alloc (.cells #[.int .i64 o.kind, .string o.ver.key, .int .i64 o.ver.frm, .int .i64 o.ver.nth, .bool o.dead, .string o.value, .string o.hi, .slice SA o.seen.length sc, .int .u64 o.at_] 59) := ⟨_, rfl⟩
  have hB1 : Below w.heap.size w W1 := by rw [hW1]; exact bel1 _ _
  have hz1 : W1.heap.size = w.heap.size + 1 := by rw [hW1]; simp
  have hbx : W1.heap[w.heap.size]? = some (.cells #[.int .i64 o.kind, .string o.ver.key, .int .i64 o.ver.frm, .int .i64 o.ver.nth, .bool o.dead, .string o.value, .string o.hi, .slice SA o.seen.length sc, .int .u64 o.at_] 59) := by rw [hW1]; exact heap_alloc_new _ _
  obtain ⟨q, qf⟩ := cells_of (cs := [.int .i64 o.kind, .string o.ver.key, .int .i64 o.ver.frm, .int .i64 o.ver.nth, .bool o.dead, .string o.value, .string o.hi, .slice SA o.seen.length sc, .int .u64 o.at_]) hbx
  have hS1 := hS.keep (w' := W1) (hB1.block _ hmb)
  have hwl : w.heap.size < W1.heap.size := by omega
  have HW1 := Lib.hid hW1
  have HBX := Lib.hid hbx
  clear hW1 hbx
  by_cases hk1 : o.kind = 1
  · have hkb : (o.kind == 1) = true := by simp [hk1]
    have q0 := q 0
    have q1 := q 1
    have q2 := q 2
    have q3 := q 3
    have lk1 := hS1.look o.ver.key W1 rfl
    have heq := run_eqlV ((st o.ver.key).getD hver0) o.ver
    obtain ⟨z, hz⟩ : ∃ z, z = (st o.ver.key).getD hver0 := ⟨_, rfl⟩
    rw [← hz] at lk1 heq
    obtain ⟨bq, hbq⟩ : ∃ bq, bq = decide (z = o.ver) := ⟨_, rfl⟩
    rw [← hbq] at heq
    have HR : Hid (bq = true ↔ SameP st o) := Lib.hid (by
      unfold SameP
      rw [if_pos hk1, hbq, hz]
      exact decide_eq_true_iff)
    clear hk1 hbq hz q qf
    go_enter Tryz.func22, Tryz.ntmps22
    go_upto_region 1 with (fail)
    rw [← HW1.out]
    go_wp2
    go_ret
    exact ⟨hB1, bq, rfl, HR⟩
  · have hkb : (o.kind == 1) = false := by simp [hk1]
    obtain ⟨L, hL, hg, hLN⟩ := id hS1
    obtain ⟨W2, hW2⟩ : ∃ W2, W2 = W1.alloc (.cells #[.map (some mb)] 87) := ⟨_, rfl⟩
    have hB2 : Below W1.heap.size W1 W2 := by rw [hW2]; exact bel1 _ _
    have hz2 : W2.heap.size = W1.heap.size + 1 := by rw [hW2]; simp
    have hb2 : W2.heap[w.heap.size + 1]? = some (.cells #[.map (some mb)] 87) := by rw [← hz1, hW2]; exact heap_alloc_new _ _
    have hsort := Lib.hid (sortedS_ (hL.keep (w' := W2) (hB2.block _ (by omega))) hb2 (by omega))
    have HK1 := Lib.hid hk1
    have HW2 := Lib.hid hW2
    have HL := Lib.hid (And.intro hL hg)
    have HS1 := Lib.hid hS1
    have HQ := Lib.hid q
    have q0 := q 0
    obtain ⟨i0, z0, j0, j1, j2, j3, j4⟩ := info_of ver_info
    clear hk1 hW2 hL hg hS1 q qf hb2
    go_enter Tryz.func22, Tryz.ntmps22
    go_upto_region 1 with (fail)
    rw [← HW1.out]
    go_wp2_with (first
      | (go_at_call 47; refine (keysS_ _ _).mono ?_; rintro e w2 ⟨rfl, rfl⟩)
      | (go_at_call 46; rw [← HW2.out]; refine hsort.out.mono ?_
         rintro e w3 ⟨v3, ss, rfl, hperm, hown, hnil, hB3⟩
         have hsl := sl_of_owns hown
         obtain ⟨KA, kc, rfl, hkc1, hkc2⟩ := hsl.shape
         simp only [maxLen] at hkc1
         have HSS := Lib.hid (And.intro hperm hsl)
         clear hperm hown hnil hsl))
    obtain ⟨hperm, hsl⟩ := HSS.out
    obtain ⟨hL, hg⟩ := HL.out
    obtain ⟨ks, hkm, hkl, hkr, hkn⟩ := StM.keys hL hg hperm
    have hssl : ss.length = ks.length := by
      have := congrArg List.length hkm
      simpa using this
    rw [hkm, keys_flat, hssl] at hsl
    rw [hssl] at hkc2 ⊢
    have hrk := Rows.of_sl (enc := strC) (size := 1) (fun _ => rfl) hsl (Nat.le_refl _)
    have hz3 := hB3.size
    have hB13 : Below W1.heap.size W1 w3 := hB2.trans (hB3.mono (by omega))
    have HRK := Lib.hid hrk
    have HKS := Lib.hid (And.intro hkr hkn)
    have hkl2 : ks.length ≤ 268435456 := by omega
    clear hsl hrk hperm hL hg hkm hkr hkn hssl q0 hkl
    go_loopw [5, 7, 23] (fun v' _ i' wr => ∃ (i : Nat) (F : Nat → Prop), i ≤ ks.length ∧ i' = .int .i64 i ∧ Sl wr 56 3 v' (tellL st o ks i).length ((tellL st o ks i).flatMap verC) F ∧ (∀ j, F j → w3.heap.size ≤ j ∧ j < wr.heap.size) ∧ Below w3.heap.size w3 wr) (fun _ _ i' _ => ks.length - (intOf i').toNat)
    case atStart => exact ⟨0, fun _ => False, by omega, rfl, by simpa [tellL] using Sl.nil _ _ _ _, fun _ f => f.elim, Below.refl _ _⟩
    case round =>
      obtain ⟨i, F, hi, rfl, hs, hF, hBr⟩ := hrel
      have hzr := hBr.size
      have hB1r : Below W1.heap.size W1 wr := hB13.trans (hBr.mono (by omega))
      obtain ⟨A5, c5, rfl, hca, hcb⟩ := hs.shape
      simp only [maxLen] at hca
      have htl := tellL_len st o ks i
      have hqr : ∀ j, wr.cell? ⟨w.heap.size, j, none⟩ = [Value.int .i64 o.kind, .string o.ver.key, .int .i64 o.ver.frm, .int .i64 o.ver.nth, .bool o.dead, .string o.value, .string o.hi, .slice SA o.seen.length sc, .int .u64 o.at_][j]? := fun j => (World.cell?_of_block (a := ⟨w.heap.size, j, none⟩) (hB1r.block w.heap.size hwl)).trans (HQ.out j)
      have e7 := hqr 7
      have hwr : w.heap.size < wr.heap.size := by omega
      by_cases hlt : i < ks.length
      · obtain ⟨k, hk⟩ : ∃ k, ks[i]? = some k := ⟨_, List.getElem?_eq_getElem hlt⟩
        obtain ⟨b, p, c2, hq2, hb, x0⟩ := HRK.out.get1 hk (wr := wr) (fun j hj => hBr.block j hj) rfl
        cases hq2
        have hbr : b < wr.heap.size := by omega
        have e0 := hqr 0
        have e1 := hqr 1
        have e2 := hqr 2
        have e3 := hqr 3
        have e4 := hqr 4
        have e5 := hqr 5
        have e6 := hqr 6
        have e8 := hqr 8
        have hcov := Lib.hid (covers_ (.slice SA o.seen.length sc) o k wr)
        have hsuc := tellL_succ (st := st) (o := o) hk
        have lk := HS1.out.look k (wr.alloc (.cells (opC (.slice SA o.seen.length sc) o).toArray 59)) ((heap_alloc_lt (by omega)).trans (hB1r.block _ (by omega)))
        obtain ⟨z, hz⟩ : ∃ z, z = (st k).getD hver0 := ⟨_, rfl⟩
        rw [← hz] at lk hsuc
        have HSUC := Lib.hid hsuc
        have HS := Lib.hid hs
        have hii : (i : Int) < ks.length := by omega
        clear hk hsuc hs hqr hz
        cases hc : covers o k with
        | false =>
          have HC := Lib.hid hc
          have hs2 := HSUC.out
          rw [hc] at hs2
          have HS2 := Lib.hid hs2
          clear hc hs2
          go_wp2_with (go_at_call 48; refine hcov.out.mono ?_; rw [HC.out]; rintro e w4 ⟨rfl, rfl⟩; simp only [opC])
          refine ⟨⟨i + 1, F, by omega, by simp, ?_, fun j hj => by have := hF j hj; simp; omega, hBr.trans ((bel1 _ _).mono (by omega))⟩, by simp [intOf]; omega⟩
          rw [HS2.out]
          exact HS.out.chg ((Chg.refl (fun _ => False) _).alloc _) (fun _ _ f => f)
        | true =>
          have HC := Lib.hid hc
          have hs2 := HSUC.out
          rw [hc] at hs2
          simp only [if_true] at hs2
          have HS2 := Lib.hid hs2
          clear hc hs2
          simp only [opC] at lk
          obtain ⟨W4, hW4⟩ : ∃ W4, W4 = wr.alloc (.cells #[.int .i64 o.kind, .string o.ver.key, .int .i64 o.ver.frm, .int .i64 o.ver.nth, .bool o.dead, .string o.value, .string o.hi, .slice SA o.seen.length sc, .int .u64 o.at_] 59) := ⟨_, rfl⟩
          have hz4 : W4.heap.size = wr.heap.size + 1 := by rw [hW4]; simp
          have hc4 : Chg (fun _ => False) wr W4 := by rw [hW4]; exact (Chg.refl _ _).alloc _
          have lk4 := lk
          rw [← hW4] at lk4
          have HW4 := Lib.hid hW4
          have HZ4 := Lib.hid hz4
          have hz4' : wr.heap.size ≤ W4.heap.size := hc4.size
          clear lk hW4 hz4
          go_upto_region 8 with (go_at_call 48; refine hcov.out.mono ?_; rw [HC.out]; rintro e w4 ⟨rfl, rfl⟩; simp only [opC])
          rw [← HW4.out]
          go_wp2_with (
            refine wpList_append_sl _ rfl (.tmp 30) (.tmp 34) 57 rfl 56 i0 z0 3 32 Tryz.underlying57 j0 j1 j2 j3 j4 (by omega) _ _ _ _ rfl (HS.out.chg (hc4.alloc _) (fun _ _ f => f)) _ _ 1 1 [.string z.key, .int .i64 z.frm, .int .i64 z.nth] rfl (reads_new _ _ 3 rfl _) (by intro u hu; simp at hu; rcases hu with rfl | rfl | rfl <;> rfl) (by simp only [maxLen]; omega) (by omega) ?_
            intro v9 w9 F9 hs9 hc9 hf9 hnz9
            have HN9 := Lib.hid hnz9
            clear hnz9)
          have hz9 := hc9.size
          have hz4 := HZ4.out
          have hza : ∀ b : Obj, (W4.alloc b).heap.size = wr.heap.size + 2 := fun b => by simp; omega
          rw [hza] at hz9
          have hal9 : Chg F wr w9 := ((hc4.alloc _).mono (G := F) (fun _ _ f => f.elim)).trans hc9 (fun _ _ h => h)
          refine ⟨⟨i + 1, F9, by omega, by simp, ?_, fun j hj => ?_, hBr.trans (hal9.below (fun j hj => (hF j hj).1) hzr)⟩, by simp [intOf]; omega⟩
          · rw [HS2.out, List.length_append, List.flatMap_append]
            simpa [verC] using hs9
          · rcases hf9 j hj with h | ⟨h, h'⟩
            · have := hF j h; omega
            · rw [hza] at h; omega
      · obtain rfl : i = ks.length := by omega
        have hr1 := Rows.of_sl (enc := verC) (size := 3) (fun _ => rfl) hs (Nat.le_refl _)
        have hr2 : Rows wr wr.heap.size 3 (Flat verC) (.slice SA o.seen.length sc) o.seen := (hrows.flat (fun j hj => (hB1r.block j (by omega)).trans (hB1.block j (by omega)))).flatMore (by omega)
        have hEq := Lib.hid (equalVers_ hr1 hr2 (Nat.le_refl _))
        have HR : Hid (decide (tellL st o ks ks.length = o.seen) = true ↔ SameP st o) := Lib.hid (by
          have hfull : tellL st o ks ks.length = ((ks.filter (covers o)).map fun k => (st k).getD hver0) := by unfold tellL; rw [List.take_length]
          unfold SameP
          rw [if_neg HK1.out, decide_eq_true_iff, hfull]
          obtain ⟨h1, h2⟩ := HKS.out
          constructor
          · intro h; exact ⟨ks, h1, h2, h.symm⟩
          · rintro ⟨ks', h3, h4, h5⟩
            have : ks' = ks := rising_unique h3 h1 (fun k => by rw [h4, h2])
            rw [h5, this])
        clear hr1 hr2 hs hqr
        go_wp2_with (go_at_call 49; refine hEq.out.mono ?_; rintro e w4 ⟨rfl, hB4⟩)
        go_ret
        exact ⟨hB1.trans ((hB1r.trans (hB4.mono (by omega))).mono (by omega)), _, rfl, HR⟩
end Go.Proofs.YtooigfkjdemnlaaGreatDoor

namespace Go.Proofs.YtooigfkjdemnlaaGreatDoor
set_option maxRecDepth 100000
open Go.RowKit Go.Lib Go.Sort Go.Shelf Xw

def CntS (w : World) (mb : Nat) (bf : ByteArray → Nat) : Prop := ∃ L : List (ByteArray × Value), KMap Value.string w mb L ∧ ∀ x, (kget L x).getD (.int .i64 0) = .int .i64 (bf x)
section
variable {w w' : World} {mb : Nat} {bf : ByteArray → Nat}
theorem CntS.keep (h : CntS w mb bf) (hk : w'.heap[mb]? = w.heap[mb]?) : CntS w' mb bf := let ⟨L, h1, h2⟩ := h; ⟨L, h1.keep hk, h2⟩
theorem CntS.lt (h : CntS w mb bf) : mb < w.heap.size := let ⟨L, h1, h2⟩ := h; h1.lt
theorem CntS.made (w : World) : CntS (w.alloc (.map #[] 0)) w.heap.size (fun _ => 0) := ⟨[], KMap.made _ w, fun x => rfl⟩
theorem zero_int' (w : World) : (zeroValue 3).run Tryz.prog w = .ok (.int .i64 0) w := by kernel_rfl
theorem CntS.look (h : CntS w mb bf) (x : ByteArray) (W : World) (e : W.heap[mb]? = w.heap[mb]?) : (Instr.lookup 116 (.map (some mb)) (.string x) false).run Tryz.prog W = .ok (.int .i64 (bf x)) W := by
  obtain ⟨L, h1, h2⟩ := h
  have := run_lookup_kmap kString Tryz.underlying116 (zero_int' W) (h1.keep e) x false
  rw [← h2 x]
  exact this
theorem CntS.store (h : CntS w mb bf) (x : ByteArray) (n : Nat) : ∃ w6, (Instr.mapUpdate 116 (.map (some mb)) (.string x) (.int .i64 n)).run Tryz.prog w = .ok () w6 ∧ CntS w6 mb (fun y => if y = x then n else bf y) ∧ Chg (fun j => j = mb) w w6 := by
  obtain ⟨L, h1, h2⟩ := h
  obtain ⟨w6, hrun, hk, hc⟩ := run_store_kmap kString Tryz.underlying116 h1 x (.int .i64 n)
  refine ⟨w6, hrun, ⟨_, hk, fun y => ?_⟩, hc⟩
  rw [kget_kset]
  by_cases hy : y = x
  · simp only [if_pos hy]; rfl
  · simp only [if_neg hy]; exact h2 y
end
def opVal (sv : Value) (o : HOpr) : Value := .agg #[.int .i64 o.kind, .string o.ver.key, .int .i64 o.ver.frm, .int .i64 o.ver.nth, .bool o.dead, .string o.value, .string o.hi, sv, .int .u64 o.at_]
def cntW (x : HTx) (i : Nat) (k : ByteArray) : Nat := (wrUpto x i k).length
def ApplyR (w : World) (mb : Nat) (x : HTx) (t : Nat) (st : KSt) (N : Nat) (P : Nat → HOpr → Prop) (e : Ending) (w' : World) : Prop :=
  Chg (fun j => j = mb) w w' ∧ ((e = .returned (.bool true) ∧ StM w' mb (applyN x t st x.ops.length) (N + x.ops.length) ∧ ∀ i o, x.ops[i]? = some o → o.kind ≠ 2 → P i o) ∨
    (e = .returned (.bool false) ∧ ∃ i o, x.ops[i]? = some o ∧ o.kind ≠ 2 ∧ ¬ P i o))
set_option maxHeartbeats 8000000 in
theorem apply_ {w : World} {B lp mb N : Nat} {h : List HTx} {st : KSt} (hl : Led w B lp h) (hmB : B ≤ mb) (hS : StM w mb st N) (t : Nat) (x : HTx) (hx : h[t]? = some x) (hops : x.ops.length ≤ 256) (hN : N + 256 ≤ 268435456)
    (M : FuncId) (first caps : Array Value) (P : Nat → HOpr → Prop) (eg : ∀ args w, (callFunc M args).run Tryz.prog w = .ok (.enter M args) w)
    (hev : ∀ (i : Nat) (o : HOpr) (sv : Value) (W : World), x.ops[i]? = some o → o.kind ≠ 2 → StM W mb (applyN x t st i) (N + i) → Rows W B 3 (Flat verC) sv o.seen → B ≤ W.heap.size →
      Calls Tryz.prog M (first ++ #[opVal sv o] ++ caps) W fun r W' => Below W.heap.size W W' ∧ ∃ b, r = .returned (.bool b) ∧ Hid (b = true ↔ P i o)) :
    Calls Tryz.prog 21 #[.pointer (some ⟨lp, 0, none⟩), .int .i64 t, .map (some mb), .func (.func M) first caps] w (ApplyR w mb x t st N P) := by
  have hmk : ∀ (t : TypeId) (w : World), (Instr.makeMap t none).run Tryz.prog w = .ok (.map (some w.heap.size)) (w.alloc (.map #[] 0)) := fun _ _ => rfl
  obtain ⟨tv, wv, ob, kv, ty, l1, l2, l3, l4, l5⟩ := hl.ex
  have hlp := hl.lt
  have hle := hl.le
  have hmb := hS.lt
  obtain ⟨W1, hW1⟩ : ∃ W1, W1 = w.alloc (.map #[] 0) := ⟨_, rfl⟩
  have hB1 : Below w.heap.size w W1 := by rw [hW1]; exact bel1 _ _
  have hz1 : W1.heap.size = w.heap.size + 1 := by rw [hW1]; simp
  have hC1 : CntS W1 w.heap.size (fun _ => 0) := by rw [hW1]; exact CntS.made _
  have hlow1 : ∀ j, j < B → W1.heap[j]? = w.heap[j]? := fun j hj => hB1.block j (by omega)
  have q0 := (World.cell?_of_block (a := ⟨lp, 0, none⟩) (hlow1 lp hlp)).trans ((cells_of l1).1 0)
  obtain ⟨b3, p3, c3, ov3, he3, hb3, ⟨x0, x1, x2, x3, x4, x5, x6, x7, x8⟩, hro⟩ := HistV.get l2 hx (wr := W1) hlow1
  cases he3
  obtain ⟨OA, oc, rfl, hoc1, hoc2⟩ := hro.shape
  simp only [maxLen] at hoc2
  obtain ⟨_, _, hth, ht1, ht2⟩ := Rows.shape l2
  cases hth
  simp only [maxLen] at ht2
  have hti : (t : Int) < h.length := by have := (List.getElem?_eq_some_iff.1 hx).1; omega
  have hlpw : lp < W1.heap.size := by omega
  have hb3w : b3 < W1.heap.size := by omega
  have HW1 := Lib.hid hW1
  have HC1 := Lib.hid hC1
  have HS1 := Lib.hid (hS.keep (w' := W1) (hB1.block mb hmb))
  have HRO := Lib.hid hro
  have HEV := Lib.hid hev
  clear hW1 hC1 hS hro hev l1 l2 l3 l4 l5 hl hx
  go_enter Tryz.func21, Tryz.ntmps21
  go_upto_region 2 with (fail)
  rw [← HW1.out]
  go_wp2
  clear x0 x1 x2 x3 x4 x5 x6 x7 x8 q0
  go_loopw [11, 12, 24] (fun _ _ i' wr => ∃ i : Nat, i ≤ x.ops.length ∧ i' = .int .i64 i ∧ StM wr mb (applyN x t st i) (N + i) ∧ CntS wr w.heap.size (cntW x i) ∧ Hid (∀ j < i, ∀ o, x.ops[j]? = some o → o.kind ≠ 2 → P j o) ∧ Chg (fun j => j = mb ∨ j = w.heap.size) W1 wr) (fun _ _ i' _ => x.ops.length - (intOf i').toNat)
  case atStart => exact ⟨0, by omega, rfl, HS1.out, by rw [show cntW x 0 = fun _ => 0 from funext fun k => by simp [cntW, wrUpto_zero]]; exact HC1.out, Lib.hid (fun j hj => by omega), Chg.refl _ _⟩
  case round =>
    obtain ⟨i, hi, rfl, hS, hCn, HP, hC⟩ := hrel
    have hz := hC.size
    have hlow : ∀ j, j < B → wr.heap[j]? = W1.heap[j]? := fun j hj => hC.block j (by omega) (by omega)
    by_cases hlt : i < x.ops.length
    · obtain ⟨o, ho⟩ : ∃ o, x.ops[i]? = some o := ⟨_, List.getElem?_eq_getElem hlt⟩
      obtain ⟨b2, o2, c2, sv, he2, hb2, ⟨o0, o1, o2', o3, o4, o5, o6, o7, o8⟩, hsr⟩ := ops_get HRO.out ho (wr := wr) hlow
      cases he2
      obtain ⟨SA, sc, rfl, hsc1, hsc2⟩ := hsr.shape
      have hb2r : b2 < wr.heap.size := by omega
      obtain ⟨W8, hW8⟩ : ∃ W8, W8 = wr.alloc (.cells #[.int .i64 o.kind, .string o.ver.key, .int .i64 o.ver.frm, .int .i64 o.ver.nth, .bool o.dead, .string o.value, .string o.hi, .slice SA o.seen.length sc, .int .u64 o.at_] 59) := ⟨_, rfl⟩
      have hB8 : Below wr.heap.size wr W8 := by rw [hW8]; exact bel1 _ _
      have hz8 : W8.heap.size = wr.heap.size + 1 := by rw [hW8]; simp
      have hc8 : Chg (fun _ => False) wr W8 := ⟨hB8.tape, hB8.os, hB8.output, hB8.size, fun b hb _ => hB8.block b hb⟩
      have hbx : W8.heap[wr.heap.size]? = some (.cells #[.int .i64 o.kind, .string o.ver.key, .int .i64 o.ver.frm, .int .i64 o.ver.nth, .bool o.dead, .string o.value, .string o.hi, .slice SA o.seen.length sc, .int .u64 o.at_] 59) := by rw [hW8]; exact heap_alloc_new _ _
      obtain ⟨q, qf⟩ := cells_of (cs := [.int .i64 o.kind, .string o.ver.key, .int .i64 o.ver.frm, .int .i64 o.ver.nth, .bool o.dead, .string o.value, .string o.hi, .slice SA o.seen.length sc, .int .u64 o.at_]) hbx
      have e0 := q 0
      have e1 := q 1
      have hcnl := hCn.lt
      have hsml := hS.lt
      have hwl : wr.heap.size < W8.heap.size := by omega
      have hS8 := hS.keep (w' := W8) (hB8.block _ hsml)
      have hC8 := hCn.keep (w' := W8) (hB8.block _ hcnl)
      have hsr8 : Rows W8 B 3 (Flat verC) (.slice SA o.seen.length sc) o.seen := hsr.flat (fun j hj => hB8.block j (by omega))
      have hch8 : Chg (fun j => j = mb ∨ j = w.heap.size) W1 W8 := hC.trans hc8 (fun _ _ f => f.elim)
      have HW8 := Lib.hid hW8
      have HQ := Lib.hid q
      have HO := Lib.hid ho
      have HH := Lib.hid (And.intro hS8 (And.intro hC8 (And.intro hsr8 hch8)))
      clear hW8 q qf hbx ho hS8 hC8 hsr8 hch8 hsr hS hCn
      by_cases hk2 : o.kind = 2
      · have hkb : (o.kind != 2) = false := by simp [hk2]
        obtain ⟨a1, a2, a3, a4⟩ := HH.out
        obtain ⟨cN, hcN⟩ : ∃ cN, cN = cntW x i o.ver.key := ⟨_, rfl⟩
        have hcl : cN ≤ i := by rw [hcN]; exact wrUpto_len x i o.ver.key
        have lk1 := a2.look o.ver.key W8 rfl
        rw [← hcN] at lk1
        have hw : IntKind.i64.wrap ((cN : Int) + 1) = (cN : Int) + 1 := by rw [IntKind.wrap_i64] <;> omega
        obtain ⟨w5, hrun5, hC5, hc5⟩ := a2.store o.ver.key (cN + 1)
        rw [show ((cN + 1 : Nat) : Int) = (cN : Int) + 1 by omega] at hrun5
        have lk2 := hC5.look o.ver.key w5 rfl
        simp only [if_true] at lk2
        rw [show ((cN + 1 : Nat) : Int) = (cN : Int) + 1 by omega] at lk2
        have hz5 := hc5.size
        have hS5 := a1.keep (w' := w5) (hc5.block mb (by omega) (by omega))
        obtain ⟨w6, hrun6, hS6, hc6⟩ := hS5.store o.ver.key ⟨o.ver.key, t, (cN : Int) + 1⟩
        have hz6 := hc6.size
        have hC6 := hC5.keep (w' := w6) (hc6.block w.heap.size (by omega) (by omega))
        have hb6 := (hc6.block wr.heap.size (by omega) (by omega)).trans (hc5.block wr.heap.size (by omega) (by omega))
        have e4 := (World.cell?_of_block (a := ⟨wr.heap.size, 4, none⟩) hb6).trans (HQ.out 4)
        have hwl6 : wr.heap.size < w6.heap.size := by omega
        have hcw : (fun y => if y = o.ver.key then cN + 1 else cntW x i y) = cntW x (i + 1) := funext fun k => by
          unfold cntW
          rw [wrUpto_succ HO.out]
          by_cases hkk : k = o.ver.key
          · rw [if_pos hkk, if_pos ⟨hkk, hk2⟩, hcN]
            subst hkk
            unfold cntW
            simp
          · rw [if_neg hkk, if_neg (fun h => hkk h.1)]
        have hcN1 : ((wrUpto x (i + 1) o.ver.key).length : Int) = (cN : Int) + 1 := by
          have := congrFun hcw o.ver.key
          simp only [if_true] at this
          unfold cntW at this
          omega
        have hch6 : Chg (fun j => j = mb ∨ j = w.heap.size) W1 w6 := (a4.trans hc5 (fun j _ h => .inr h)).trans hc6 (fun j _ h => .inl h)
        rw [hcw] at hC6
        cases hd : o.dead with
        | false =>
          have hap : applyN x t st (i + 1) = put (applyN x t st i) o.ver.key (some ⟨o.ver.key, t, (cN : Int) + 1⟩) := by
            simp only [applyN, HO.out]
            unfold stepO
            rw [if_pos hk2, hd, hcN1]; rfl
          rw [hd] at e4
          have HX := Lib.hid (And.intro hS6 (And.intro hC6 (And.intro hap hch6)))
          clear hap a1 a2 a3 a4 hcN hcw hcN1 hk2 hS5 hS6 hC5 hC6 hch6 hc5 hc6 hb6 hd
          go_upto_region 5 with (fail)
          rw [← HW8.out]
          go_wp2
          obtain ⟨b1, b2, b3, b4⟩ := HX.out
          refine ⟨⟨i + 1, by omega, by simp, ?_, b2, Lib.hid (fun j hj o' ho' hk' => ?_), b4⟩, by simp [intOf]; omega⟩
          · rw [b3]; exact b1
          · by_cases hji : j = i
            · subst hji
              rw [HO.out] at ho'; cases ho'
              have : (o.kind != 2) = true := by simp [hk']
              rw [hkb] at this; cases this
            · exact HP.out j (by omega) o' ho' hk'
        | true =>
          have hap : applyN x t st (i + 1) = put (applyN x t st i) o.ver.key none := by
            simp only [applyN, HO.out]
            unfold stepO
            rw [if_pos hk2, hd]; rfl
          rw [hd] at e4
          obtain ⟨w7, hrun7, hS7, hc7⟩ := hS6.delete o.ver.key
          have hpp : put (put (applyN x t st i) o.ver.key (some ⟨o.ver.key, t, (cN : Int) + 1⟩)) o.ver.key none = put (applyN x t st i) o.ver.key none := by
            funext k
            unfold put
            split <;> rfl
          rw [hpp] at hS7
          have hC7 := hC6.keep (w' := w7) (hc7.block w.heap.size (by omega) (by omega))
          have hch7 := hch6.trans hc7 (fun j _ h => .inl h)
          have HX := Lib.hid (And.intro hS7 (And.intro hC7 (And.intro hap hch7)))
          clear hap a1 a2 a3 a4 hcN hcw hcN1 hk2 hS5 hS6 hS7 hC5 hC6 hC7 hch6 hch7 hc5 hc6 hc7 hb6 hd hpp
          go_upto_region 5 with (fail)
          rw [← HW8.out]
          go_wp2
          obtain ⟨b1, b2, b3, b4⟩ := HX.out
          refine ⟨⟨i + 1, by omega, by simp, ?_, b2, Lib.hid (fun j hj o' ho' hk' => ?_), b4⟩, by simp [intOf]; omega⟩
          · rw [b3]; exact b1
          · by_cases hji : j = i
            · subst hji
              rw [HO.out] at ho'; cases ho'
              have : (o.kind != 2) = true := by simp [hk']
              rw [hkb] at this; cases this
            · exact HP.out j (by omega) o' ho' hk'
      · have hkb : (o.kind != 2) = true := by simp [hk2]
        have hcall := Lib.hid (HEV.out i o (.slice SA o.seen.length sc) W8 HO.out hk2 HH.out.1 HH.out.2.2.1 (by omega))
        have e2 := HQ.out 2
        have e3 := HQ.out 3
        have e4 := HQ.out 4
        have e5 := HQ.out 5
        have e6 := HQ.out 6
        have e7 := HQ.out 7
        have e8 := HQ.out 8
        go_upto_region 5 with (fail)
        rw [← HW8.out]
        have hap : applyN x t st (i + 1) = applyN x t st i := by simp only [applyN, HO.out]; unfold stepO; rw [if_neg hk2]
        have hcw : cntW x (i + 1) = cntW x i := funext fun k => by unfold cntW; rw [wrUpto_succ HO.out, if_neg (fun h => hk2 h.2)]
        have HX := Lib.hid (And.intro hap (And.intro hcw hk2))
        clear hap hcw hk2
        rcases Classical.em (P i o) with hP | hP
        · have HPI := Lib.hid hP
          clear hP
          go_wp2_with (go_at_fn M; refine hcall.out.mono ?_; rintro r w9 ⟨hB9, b, rfl, HBP⟩
                       obtain rfl : b = true := HBP.out.2 HPI.out)
          have hc9 : Chg (fun _ => False) W8 w9 := ⟨hB9.tape, hB9.os, hB9.output, hB9.size, fun b hb _ => hB9.block b hb⟩
          obtain ⟨a1, a2, a3, a4⟩ := HH.out
          refine ⟨⟨i + 1, by omega, by simp, ?_, ?_, Lib.hid (fun j hj o' ho' hk' => ?_), a4.trans hc9 (fun _ _ f => f.elim)⟩, by simp [intOf]; omega⟩
          · rw [HX.out.1]; exact (a1.keep (hB9.block _ a1.lt)).more (by omega)
          · rw [HX.out.2.1]; exact a2.keep (hB9.block _ a2.lt)
          · by_cases hji : j = i
            · subst hji
              rw [HO.out] at ho'; cases ho'
              exact HPI.out
            · exact HP.out j (by omega) o' ho' hk'
        · have HPI := Lib.hid hP
          clear hP
          go_wp2_with (go_at_fn M; refine hcall.out.mono ?_; rintro r w9 ⟨hB9, b, rfl, HBP⟩
                       obtain rfl : b = false := by
                         cases b
                         · rfl
                         · exact absurd (HBP.out.1 rfl) HPI.out)
          go_ret
          have hc9 : Chg (fun _ => False) W8 w9 := ⟨hB9.tape, hB9.os, hB9.output, hB9.size, fun b hb _ => hB9.block b hb⟩
          obtain ⟨a1, a2, a3, a4⟩ := HH.out
          refine ⟨((Chg.of_below hB1).mono (G := fun j => j = mb) (fun j hj h => absurd h (by omega))).trans (a4.trans hc9 (fun _ _ f => f.elim)) (fun j hj h => by omega), .inr ⟨rfl, i, o, HO.out, HX.out.2.2, HPI.out⟩⟩
    · obtain rfl : i = x.ops.length := by omega
      have HS := Lib.hid hS
      clear hS hCn
      go_wp2
      go_ret
      exact ⟨((Chg.of_below hB1).mono (G := fun j => j = mb) (fun j hj h => absurd h (by omega))).trans hC (fun j hj h => by omega), .inl ⟨rfl, HS.out, fun j o hj hk => HP.out j (List.getElem?_eq_some_iff.1 hj).1 o hj hk⟩⟩
end Go.Proofs.YtooigfkjdemnlaaGreatDoor

namespace Go.Proofs.YtooigfkjdemnlaaGreatDoor
set_option maxRecDepth 100000
open Go.RowKit Go.Lib Go.Sort Go.Shelf Xw

theorem opsFault_ne {h : List HTx} {t : Nat} {x : HTx} {f : Int × Nat} : ∀ {n : Nat}, opsFault h t x n = some f → f.1 ≠ 0
  | 0, hf => by cases hf
  | n + 1, hf => by
    simp only [opsFault] at hf
    cases h1 : opsFault h t x n with
    | some g => rw [h1] at hf; cases hf; exact opsFault_ne h1
    | none =>
      rw [h1] at hf
      simp only at hf
      cases ho : x.ops[n]? with
      | none => rw [ho] at hf; cases hf
      | some o =>
        rw [ho] at hf
        simp only at hf
        by_cases h0 : operation h t x n o = 0
        · rw [if_pos h0] at hf; cases hf
        · rw [if_neg h0] at hf; cases hf; exact h0
theorem checkFault_ne {h : List HTx} {f : Int × Nat × Nat} : ∀ {n : Nat}, checkFault h n = some f → f.1 ≠ 0
  | 0, hf => by cases hf
  | n + 1, hf => by
    simp only [checkFault] at hf
    cases h1 : checkFault h n with
    | some g => rw [h1] at hf; cases hf; exact checkFault_ne h1
    | none =>
      rw [h1] at hf
      simp only at hf
      cases hx : h[n]? with
      | none => rw [hx] at hf; cases hf
      | some x =>
        rw [hx] at hf
        simp only at hf
        obtain ⟨g, hg, rfl⟩ := Option.map_eq_some_iff.1 hf
        simp only
        unfold txFault at hg
        split at hg
        · cases hg; decide
        · split at hg
          · cases hg; decide
          · exact opsFault_ne hg
theorem histFault_ne {h : List HTx} {f : Int × Nat × Nat} (hf : histFault h = some f) : f.1 ≠ 0 := by
  unfold histFault at hf
  split at hf
  · cases hf; decide
  · exact checkFault_ne hf
theorem errOf_hist {h : List HTx} (hf : histFault h ≠ none) : errOf (histFault h) ≠ 0 := by
  cases hh : histFault h with
  | none => exact absurd hh hf
  | some f => exact histFault_ne hh
def SerialA (w : World) (h : List HTx) (e : Ending) (w' : World) : Prop :=
  Below w.heap.size w w' ∧ ∃ v n, e = .returned (.tuple #[v, .int .i64 n]) ∧ ((histFault h ≠ none ∧ n = errOf (histFault h)) ∨ (histFault h = none ∧ n = 143 ∧ ∃ e ∈ edgesOf h, e.to < e.frm) ∨ (histFault h = none ∧ n = 0 ∧ ∃ l : List Nat, Line h l ∧ RowsN w' w.heap.size 1 intC v (l.map fun (t : Nat) => (t : Int))))
set_option maxHeartbeats 4000000 in
theorem serial_ {w : World} {B : Nat} {h : List HTx} {tv : Value} (hh : HistV w B tv h) (hB : B ≤ w.heap.size) (hops : ∀ x ∈ h, x.ops.length ≤ 1048576) :
    Calls Tryz.prog 10 #[.agg #[tv]] w (SerialA w h) := by
  obtain ⟨A, c, rfl, hn0, hm0⟩ := Rows.shape hh
  obtain ⟨W2, hW2⟩ : ∃ W2, W2 = (w.alloc (.cells #[.slice A h.length c] 28)).alloc (.cells #[.slice none 0 0] 34) := ⟨_, rfl⟩
  have hz2 : W2.heap.size = w.heap.size + 2 := by rw [hW2]; simp
  have hB2 : Below w.heap.size w W2 := by rw [hW2]; exact bel2 _ _ _
  have hob : W2.heap[w.heap.size + 1]? = some (.cells #[.slice none 0 0] 34) := by rw [hW2]; exact top_al _ _ (by simp)
  have hg := guarded_ (hh.keep (fun j hj => hB2.block j (by omega))) (show B ≤ W2.heap.size by omega) hops 23 #[.pointer (some ⟨w.heap.size + 1, 0, none⟩)] (enters_of Tryz.func23 (by kernel_rfl) rfl)
    (fun f w' => Below w.heap.size w w' ∧ ∃ v, w'.heap[w.heap.size + 1]? = some (.cells #[v] 34) ∧ ((f ≠ none ∧ f = histFault h) ∨ (f = some (143, 0, 0) ∧ histFault h = none ∧ ∃ e ∈ edgesOf h, e.to < e.frm) ∨ (f = none ∧ histFault h = none ∧ ∃ l : List Nat, Line h l ∧ RowsN w' (W2.heap.size + 2) 1 intC v (l.map fun (t : Nat) => (t : Int)))))
    (fun lp w1 hl hb hsz hf => by
      refine (serial1_ hl (fine_of hf) ((hb.block (w.heap.size + 1) (by omega)).trans hob)).mono ?_
      rintro e w2 ⟨f, rfl, h2, v, h1, h3⟩
      refine ⟨f, rfl, ⟨?_, v, h1, ?_⟩, h2.block _ hsz (by omega)⟩
      · exact (hB2.trans (hb.mono (by omega))).trans (h2.below (fun j hj => by omega) (by have := hb.size; omega))
      · rcases h3 with ⟨rfl, l, h4, h5⟩ | ⟨rfl, h4⟩
        · exact .inr (.inr ⟨rfl, hf, l, h4, h5.1, fun a n c hv => by have := h5.2 a n c hv; omega⟩)
        · exact .inr (.inl ⟨rfl, hf, h4⟩))
    (fun f w2 w3 ⟨h1, v, h3, h4⟩ hc => ⟨h1.trans (hc.below (fun j hj => by omega) h1.size), v, (hc.block _ (lt_of_heap h3) (by omega)).trans h3, by
      rcases h4 with h4 | h4 | ⟨h4, h5, l, h6, h7⟩
      · exact .inl h4
      · exact .inr (.inl h4)
      · exact .inr (.inr ⟨h4, h5, l, h6, h7.chg hc (fun j hj => by omega)⟩)⟩)
    (fun f w3 hf hb => ⟨hB2.trans (hb.mono (by omega)), _, (hb.block _ (by omega)).trans hob, .inl ⟨by simp, hf.symm⟩⟩)
  have HG := Lib.hid hg
  have HW2 := Lib.hid hW2
  clear hg hW2 hh
  have hmf : ∀ (fn : Fn) (first cap : Array Value) (w : World), (Instr.makeFunc fn first cap).run Tryz.prog w = .ok (.func fn first cap) w := fun _ _ _ _ => rfl
  go_enter Tryz.func10, Tryz.ntmps10
  go_upto_region 3 with (
       go_at_call 18; rw [← HW2.out]; refine HG.out.mono ?_
       rintro e w1 ⟨f, rfl, hb1, v, hv, hrows⟩
       rw [faultRes_eq]
       have HV := Lib.hid (And.intro hv (And.intro hb1 hrows))
       clear hv hrows
       obtain ⟨E, hE⟩ : ∃ E, E = errOf f := ⟨_, rfl⟩
       obtain ⟨T, hT⟩ : ∃ T, T = txnOf f := ⟨_, rfl⟩
       obtain ⟨O, hO⟩ : ∃ O, O = opOf f := ⟨_, rfl⟩
       rw [← hT, ← hO, ← hE]
       have HE := Lib.hid hE
       clear hT hO hE)
  obtain ⟨h1, h2, h3⟩ := HV.out
  have q0 := (heap_cell h1).1
  have hol := lt_of_heap h1
  have hz1 := h2.size
  have hal : ∀ o : Obj, Chg (fun _ => False) w1 (w1.alloc o) := fun o => (Chg.refl _ _).alloc o
  have H3 := Lib.hid h3
  clear h1 h3
  by_cases h0 : E = 0
  · have hb : (E != 0) = false := by simp [h0]
    have H0 := Lib.hid h0
    clear h0
    go_wp2
    refine bodyPost_ret (results_tmp2 rfl _ _ _) rfl ?_
    refine ⟨h2.alloc h2.size _, v, 0, rfl, ?_⟩
    rcases H3.out with ⟨h3, h4⟩ | ⟨h3, _⟩ | ⟨h3, h4, l, h5, h6⟩
    · have := errOf_hist (h := h) (by rw [← h4]; exact h3)
      rw [← h4, ← HE.out, H0.out] at this
      exact absurd rfl this
    · have := HE.out
      rw [h3, H0.out] at this
      exact absurd this (by decide)
    · exact .inr (.inr ⟨h4, rfl, l, h5, (RowsN.chg h6 (hal _) (fun _ f => f.elim)).1, fun a n c hv => by have := h6.2 a n c hv; omega⟩)
  · have hb : (E != 0) = true := by simp [h0]
    have H0 := Lib.hid h0
    clear h0
    go_wp2_with (with_reducible refine wp_region_free (by kernel_rfl) (fun _ _ => ?_))
    refine bodyPost_ret (results_tmp2 rfl _ _ _) rfl ?_
    refine ⟨(h2.alloc h2.size _).drew, _, E, rfl, ?_⟩
    rcases H3.out with ⟨h3, h4⟩ | ⟨h3, h4⟩ | ⟨h3, _⟩
    · exact .inl ⟨by rw [← h4]; exact h3, by rw [← h4, HE.out]⟩
    · refine .inr (.inl ⟨h4.1, ?_, h4.2⟩)
      rw [HE.out, h3]; rfl
    · have := HE.out
      rw [h3] at this
      exact absurd this H0.out
end Go.Proofs.YtooigfkjdemnlaaGreatDoor
