/- Own texts of this claim, joined in build order: K1. -/
import Derived.Test.YtooigfkjdemnlaaGreatM14
import Derived.Test.YtooigfkjdemnlaaGreatM06
import Derived.Shelf.SlIter.Sorted
import Derived.Shelf.SortM.Plain
import Derived.Shelf.SortM.SortNone
set_option linter.all false
namespace Go.Proofs.YtooigfkjdemnlaaGreat
set_option maxRecDepth 100000
open Go.RowKit Go.Lib Go.Sort Go.Shelf Xw
attribute [local go_sem] Oper.semAt_some
section
variable {K : Type} [DecidableEq K] {P : Program} {L : List (K × Value)} {w : World} {b : Nat} {ops : Array Oper} {rest : List Oper} {o : Oper} {a : Act} {Q : Exit → Act → World → Prop} {F : Fence} {n : Nat}
theorem wpListIn_range_k {enc : K → Value} (m : Operand) (t et kt' : TypeId) (hop : o.op = .range t m) (hw : Region.wanted o (yielded ops a.tmps) = true) (ht : P.underlying t = some (.map kt' et))
    (b : Nat) (hm : a.eval m = .map (some b)) (h : KMap enc w b L)
    (hK : ∀ o', MIter enc (w.alloc o') w.heap.size b L L → wpListIn F n P ops Q rest (a.put o.dst (.pointer (some ⟨w.heap.size, 0, none⟩))) (w.alloc o')) : wpListIn F n P ops Q (o :: rest) a w := by
  refine wpListIn_step fun K' hK' => ?_
  rw [if_pos hw]
  obtain ⟨o', hrun, h1⟩ := run_range_kmap (P := P) ht h
  unfold Oper.wpIn
  refine ⟨by simp [Oper.about, hop], ?_⟩
  rw [Oper.semAt_plain F _ _ (by rw [hop]; intro c hc'; cases hc')]
  simp [execOp, hop, hm, hrun, Result.andThen]
  exact hK' _ _ (hK o' h1)
theorem wpListIn_next_k {enc : K → Value} {rem : List (K × Value)} {r : Nat} (it : Operand) (hop : o.op = .next it false) (hw : Region.wanted o (yielded ops a.tmps) = true)
    (hit : a.eval it = .pointer (some ⟨r, 0, none⟩)) (h : MIter enc w r b L rem)
    (hDone : rem = [] → wpListIn F n P ops Q rest (a.put o.dst (.tuple #[.bool false])) w)
    (hMore : ∀ p ∈ rem, ∀ w', MIter enc w' r b L (kdel rem p.1) → Chg (fun j => j = r) w w' → w'.heap.size = w.heap.size → (Instr.entry (.pointer (some ⟨r, 0, none⟩))).run P w' = .ok (.tuple #[enc p.1, p.2]) w' →
      wpListIn F n P ops Q rest (a.put o.dst (.tuple #[.bool true, enc p.1, p.2])) w') : wpListIn F n P ops Q (o :: rest) a w := by
  refine wpListIn_step fun K' hK' => ?_
  rw [if_pos hw]
  unfold Oper.wpIn
  refine ⟨by simp [Oper.about, hop], ?_⟩
  rw [Oper.semAt_plain F _ _ (by rw [hop]; intro c hc'; cases hc')]
  rcases run_next_kmap (P := P) h o.type with ⟨h0, hrun⟩ | ⟨p, hp, w', hrun, h1, h2, h3, h4⟩
  · simp [execOp, hop, hit, hrun, Result.andThen]
    exact hK' _ _ (hDone h0)
  · simp [execOp, hop, hit, hrun, Result.andThen]
    exact hK' _ _ (hMore p hp w' h1 h2 h3 h4)
end
theorem grown_of_chg {w w' : World} {r : Nat} (h : Chg (fun j => j = r) w w') : w.grownBy w' (some r) :=
  ⟨h.os, h.tape, h.out, h.size, fun k hk hn => h.block k hk (fun e => hn (by rw [e]))⟩
theorem MIter.walks {K : Type} [DecidableEq K] {enc : K → Value} {w w' : World} {r b : Nat} {L rem : List (K × Value)} (h : MIter enc w r b L rem) (hk : KeepsWalks w w') : MIter enc w' r b L rem := by
  obtain ⟨es, clk, since, seen, c0, h1, h2, h3, h4, h5, h6, h7, h8, h9⟩ := h
  exact ⟨es, clk, since, seen, c0, hk.same _ _ h1 rfl, h2, h3, h4, h5, h6, h7, hk.same _ _ h8 rfl, h9⟩
theorem MIter.isWalk {K : Type} [DecidableEq K] {enc : K → Value} {w : World} {r b : Nat} {L rem : List (K × Value)} (h : MIter enc w r b L rem) : ∃ o : Obj, w.heap[r]? = some o ∧ o.isWalk = true := by
  obtain ⟨es, clk, since, seen, c0, h1, h2, h3, h4, h5, h6, h7, h8, h9⟩ := h
  exact ⟨_, h8, rfl⟩
/-- A key's bytes. -/
def kb (k : ByteArray) : List UInt8 := k.data.toList
theorem enc_kb (k : ByteArray) : encStr (kb k) = .string k := rfl
def renSortS : Ren := ⟨fun x => if x = 0 then 0 else if x = 1 then 1 else if x = 2 then 2 else if x = 6 then 88 else if x = 8 then 79 else if x = 9 then 117 else if x = 19 then 111 else if x = 20 then 112 else if x = 21 then 134 else if x = 22 then 135 else if x = 23 then 136 else if x = 24 then 137 else if x = 25 then 138 else if x = 26 then 139 else if x = 27 then 140 else if x = 28 then 141 else if x = 29 then 142 else if x = 31 then 130 else if x = 32 then 131 else if x = 36 then 149 else if x = 37 then 150 else if x = 38 then 151 else if x = 39 then 114 else if x = 41 then 154 else if x = 42 then 155 else if x = 43 then 156 else if x = 44 then 157 else if x = 45 then 158 else if x = 46 then 159 else if x = 47 then 160 else if x = 48 then 161 else if x = 49 then 162 else if x = 50 then 163 else if x = 51 then 164 else if x = 52 then 165 else if x = 53 then 166 else if x = 54 then 167 else if x = 55 then 168 else if x = 56 then 169 else if x = 57 then 170 else  x, fun x => if x = 0 then 0 else if x = 1 then 1 else if x = 2 then 2 else if x = 3 then 3 else if x = 4 then 4 else if x = 5 then 5 else if x = 6 then 6 else if x = 7 then 7 else if x = 8 then 8 else if x = 9 then 9 else if x = 10 then 10 else if x = 11 then 11 else if x = 12 then 12 else if x = 13 then 13 else if x = 14 then 14 else if x = 15 then 15 else if x = 16 then 16 else if x = 17 then 17 else if x = 18 then 18 else if x = 19 then 19 else if x = 20 then 20 else if x = 21 then 21 else if x = 26 then 72 else if x = 27 then 72 else if x = 28 then 153 else if x = 29 then 9 else if x = 31 then 147 else if x = 32 then 148 else if x = 33 then 182 else if x = 35 then 167 else if x = 36 then 168 else if x = 41 then 172 else if x = 43 then 174 else if x = 44 then 175 else if x = 45 then 176 else if x = 46 then 47 else if x = 47 then 197 else if x = 48 then 198 else if x = 49 then 199 else if x = 50 then 200 else if x = 51 then 201 else if x = 52 then 202 else if x = 53 then 191 else if x = 54 then 192 else if x = 55 then 193 else if x = 57 then 195 else if x = 60 then 207 else if x = 61 then 208 else if x = 62 then 154 else if x = 63 then 205 else if x = 64 then 126 else if x = 66 then 210 else if x = 67 then 211 else if x = 68 then 212 else if x = 69 then 213 else if x = 70 then 214 else if x = 71 then 215 else if x = 72 then 216 else if x = 73 then 217 else if x = 74 then 218 else if x = 75 then 219 else if x = 76 then 220 else if x = 77 then 221 else if x = 78 then 222 else if x = 79 then 223 else if x = 80 then 224 else if x = 81 then 225 else if x = 82 then 226 else  x, fun x => x⟩
set_option maxHeartbeats 1000000 in
theorem laySortS : SlLaysM.n6 Tryz.prog renSortS where
  mixed := by kernel_rfl
  f6 := ⟨Tryz.f88.name, by kernel_rfl, Tryz.func88.trans (by kernel_rfl)⟩
  f8 := Tryz.func79.trans (by kernel_rfl)
  f9 := ⟨Tryz.f117.name, by kernel_rfl, Tryz.func117.trans (by kernel_rfl)⟩
  f19 := Tryz.func111.trans (by kernel_rfl)
  f20 := Tryz.func112.trans (by kernel_rfl)
  f21 := ⟨Tryz.f134.name, by kernel_rfl, Tryz.func134.trans (by kernel_rfl)⟩
  f22 := ⟨Tryz.f135.name, by kernel_rfl, Tryz.func135.trans (by kernel_rfl)⟩
  f23 := ⟨Tryz.f136.name, by kernel_rfl, Tryz.func136.trans (by kernel_rfl)⟩
  f24 := ⟨Tryz.f137.name, by kernel_rfl, Tryz.func137.trans (by kernel_rfl)⟩
  f25 := ⟨Tryz.f138.name, by kernel_rfl, Tryz.func138.trans (by kernel_rfl)⟩
  f26 := ⟨Tryz.f139.name, by kernel_rfl, Tryz.func139.trans (by kernel_rfl)⟩
  f27 := ⟨Tryz.f140.name, by kernel_rfl, Tryz.func140.trans (by kernel_rfl)⟩
  f28 := ⟨Tryz.f141.name, by kernel_rfl, Tryz.func141.trans (by kernel_rfl)⟩
  f29 := ⟨Tryz.f142.name, by kernel_rfl, Tryz.func142.trans (by kernel_rfl)⟩
  f31 := Tryz.func130.trans (by kernel_rfl)
  f32 := Tryz.func131.trans (by kernel_rfl)
  f36 := ⟨Tryz.f149.name, by kernel_rfl, Tryz.func149.trans (by kernel_rfl)⟩
  f37 := ⟨Tryz.f150.name, by kernel_rfl, Tryz.func150.trans (by kernel_rfl)⟩
  f38 := ⟨Tryz.f151.name, by kernel_rfl, Tryz.func151.trans (by kernel_rfl)⟩
  f39 := ⟨Tryz.f114.name, by kernel_rfl, Tryz.func114.trans (by kernel_rfl)⟩
  f41 := ⟨Tryz.f154.name, by kernel_rfl, Tryz.func154.trans (by kernel_rfl)⟩
  t0 := by kernel_rfl
  a0 := fun _ => by kernel_rfl
  z0 := fun _ => by kernel_rfl
  v0 := fun _ => by kernel_rfl
  t3 := by kernel_rfl
  a3 := fun _ => by kernel_rfl
  z3 := fun _ => by kernel_rfl
  v3 := fun _ => by kernel_rfl
  t4 := by kernel_rfl
  a4 := fun _ => by kernel_rfl
  z4 := fun _ => by kernel_rfl
  v4 := fun _ => by kernel_rfl
  t5 := by kernel_rfl
  a5 := fun _ => by kernel_rfl
  z5 := fun _ => by kernel_rfl
  v5 := fun _ => by kernel_rfl
  t9 := by kernel_rfl
  a9 := fun _ => by kernel_rfl
  z9 := fun _ => by kernel_rfl
  v9 := fun _ => by kernel_rfl
  t26 := by kernel_rfl
  a26 := fun _ => by kernel_rfl
  z26 := fun _ => by kernel_rfl
  v26 := fun _ => by kernel_rfl
  t27 := by kernel_rfl
  a27 := fun _ => by kernel_rfl
  z27 := fun _ => by kernel_rfl
  v27 := fun _ => by kernel_rfl
  t29 := by kernel_rfl
  a29 := fun _ => by kernel_rfl
  z29 := fun _ => by kernel_rfl
  v29 := fun _ => by kernel_rfl
  t32 := by kernel_rfl
  a32 := fun _ => by kernel_rfl
  z32 := fun _ => by kernel_rfl
  v32 := fun _ => by kernel_rfl
  t35 := by kernel_rfl
  a35 := fun _ => by kernel_rfl
  z35 := fun _ => by kernel_rfl
  v35 := fun _ => by kernel_rfl
  t36 := by kernel_rfl
  a36 := fun _ => by kernel_rfl
  z36 := fun _ => by kernel_rfl
  v36 := fun _ => by kernel_rfl
  t41 := by kernel_rfl
  a41 := fun _ => by kernel_rfl
  z41 := fun _ => by kernel_rfl
  v41 := fun _ => by kernel_rfl
  t44 := by kernel_rfl
  a44 := fun _ => by kernel_rfl
  z44 := fun _ => by kernel_rfl
  v44 := fun _ => by kernel_rfl
  t46 := by kernel_rfl
  a46 := fun _ => by kernel_rfl
  z46 := fun _ => by kernel_rfl
  v46 := fun _ => by kernel_rfl
  t53 := by kernel_rfl
  a53 := fun _ => by kernel_rfl
  z53 := fun _ => by kernel_rfl
  v53 := fun _ => by kernel_rfl
  t57 := by kernel_rfl
  a57 := fun _ => by kernel_rfl
  z57 := fun _ => by kernel_rfl
  v57 := fun _ => by kernel_rfl
  t63 := by kernel_rfl
  a63 := fun _ => by kernel_rfl
  z63 := fun _ => by kernel_rfl
  v63 := fun _ => by kernel_rfl
  t64 := by kernel_rfl
  a64 := fun _ => by kernel_rfl
  z64 := fun _ => by kernel_rfl
  v64 := fun _ => by kernel_rfl
def renSortedS : Ren := ⟨fun x => if x = 0 then 0 else if x = 1 then 1 else if x = 2 then 2 else if x = 6 then 54 else if x = 8 then 87 else if x = 9 then 88 else if x = 11 then 116 else if x = 12 then 117 else if x = 13 then 79 else if x = 14 then 134 else if x = 15 then 135 else if x = 16 then 136 else if x = 17 then 137 else if x = 18 then 138 else if x = 19 then 139 else if x = 20 then 140 else if x = 21 then 141 else if x = 22 then 142 else if x = 23 then 111 else if x = 24 then 112 else if x = 25 then 149 else if x = 26 then 130 else if x = 27 then 131 else if x = 28 then 150 else if x = 29 then 151 else if x = 30 then 114 else if x = 31 then 154 else if x = 32 then 155 else if x = 33 then 156 else if x = 34 then 157 else if x = 35 then 158 else if x = 36 then 159 else if x = 37 then 160 else if x = 38 then 161 else if x = 39 then 162 else if x = 40 then 163 else if x = 41 then 164 else if x = 42 then 165 else if x = 43 then 166 else if x = 44 then 167 else if x = 45 then 168 else if x = 46 then 169 else if x = 47 then 170 else  x, fun x => if x = 0 then 0 else if x = 1 then 1 else if x = 2 then 2 else if x = 3 then 3 else if x = 4 then 4 else if x = 5 then 5 else if x = 6 then 6 else if x = 7 then 7 else if x = 8 then 8 else if x = 9 then 9 else if x = 10 then 10 else if x = 11 then 11 else if x = 12 then 12 else if x = 13 then 13 else if x = 14 then 14 else if x = 15 then 15 else if x = 16 then 16 else if x = 17 then 17 else if x = 18 then 18 else if x = 19 then 19 else if x = 20 then 20 else if x = 21 then 21 else if x = 22 then 111 else if x = 24 then 72 else if x = 25 then 112 else if x = 26 then 9 else if x = 27 then 113 else if x = 28 then 114 else if x = 32 then 153 else if x = 33 then 154 else if x = 34 then 181 else if x = 35 then 182 else if x = 36 then 147 else if x = 37 then 148 else if x = 38 then 197 else if x = 39 then 167 else if x = 40 then 168 else if x = 41 then 198 else if x = 42 then 199 else if x = 43 then 200 else if x = 44 then 201 else if x = 45 then 172 else if x = 46 then 202 else if x = 47 then 174 else if x = 48 then 175 else if x = 49 then 176 else if x = 50 then 47 else if x = 51 then 191 else if x = 52 then 192 else if x = 53 then 193 else if x = 54 then 207 else if x = 55 then 195 else if x = 56 then 208 else if x = 57 then 205 else if x = 58 then 126 else if x = 59 then 210 else if x = 60 then 211 else if x = 61 then 212 else if x = 62 then 213 else if x = 63 then 214 else if x = 64 then 215 else if x = 65 then 216 else if x = 66 then 217 else if x = 67 then 218 else if x = 68 then 219 else if x = 69 then 220 else if x = 70 then 221 else if x = 71 then 222 else if x = 72 then 223 else if x = 73 then 224 else if x = 74 then 225 else if x = 75 then 226 else  x, fun x => x⟩
theorem laySortedS : SlLaysZ.n6 Tryz.prog renSortedS where
  mixed := by kernel_rfl
  f6 := ⟨Tryz.f54.name, by kernel_rfl, Tryz.func54.trans (by kernel_rfl)⟩
  f8 := ⟨Tryz.f87.name, by kernel_rfl, Tryz.func87.trans (by kernel_rfl)⟩
  f11 := ⟨Tryz.f116.name, by kernel_rfl, Tryz.func116.trans (by kernel_rfl)⟩
  t0 := by kernel_rfl
  a0 := fun _ => by kernel_rfl
  z0 := fun _ => by kernel_rfl
  v0 := fun _ => by kernel_rfl
  t24 := by kernel_rfl
  a24 := fun _ => by kernel_rfl
  z24 := fun _ => by kernel_rfl
  v24 := fun _ => by kernel_rfl
  t26 := by kernel_rfl
  a26 := fun _ => by kernel_rfl
  z26 := fun _ => by kernel_rfl
  v26 := fun _ => by kernel_rfl
  t28 := by kernel_rfl
  a28 := fun _ => by kernel_rfl
  z28 := fun _ => by kernel_rfl
  v28 := fun _ => by kernel_rfl
  i26 := by kernel_rfl

theorem sortsS (m : Nat) : AnyZ.SortsIn Tryz.prog renSortedS Fence.wide m :=
  ⟨fun blk off cap ss W hH hblk hsz => callsIn_wide.2 (AnyM.slices_Sort_string laySortS blk off cap ss W hH hblk hsz),
   fun p cap W => callsIn_wide.2 (AnyM.slices_Sort_string_none laySortS p cap W)⟩

theorem keysI_ (mb : Option Nat) (w : World) : Calls Tryz.prog 71 #[.map mb] w fun e w' => e = .returned (.func (.func 95) #[] #[.pointer (some ⟨w.heap.size, 0, none⟩)]) ∧ w' = w.alloc (.cells #[.map mb] 71) := by
  go_enter Tryz.func71, Tryz.ntmps71
  go_wp2
  go_ret
  exact ⟨rfl, rfl⟩
set_option maxHeartbeats 1000000 in
theorem keysI1_gives {w : World} {mb Bm n : Nat} {L : List (ByteArray × Value)} (hk : KMap Value.string w mb L) {ty : TypeId} (hB : w.heap[Bm]? = some (.cells #[.map (some mb)] ty)) (hn : 1 ≤ n) :
    SeqGives Fence.wide n Tryz.prog 95 #[.pointer (some ⟨Bm, 0, none⟩)] encStr (fun ss => ss.Perm (L.map fun p => kb p.1)) L.length w := by
  intro l J W hW hJ hY h0
  have hkW := hk.below hW hk.lt
  have hm := (heap_cell ((hW.block _ (lt_of_heap hB)).trans hB)).1
  refine callsIn_of_wp Tryz.func95 rfl trivial ?_
  simp only [Tryz.ntmps95, List.size_toArray, List.length_cons, List.length_nil, Nat.reduceAdd, Nat.reduceSub, Array.replicate_succ, Array.replicate_zero, List.push_toArray, List.append_toArray, List.nil_append, List.cons_append]
  gi_wp2_with (gi_at_range; refine wpListIn_range_k _ _ _ _ rfl rfl Tryz.underlying71 _ rfl hkW ?_; intro o' hit0)
  go_frame
  gi_loopw [3] (fun _ wr => ∃ rem pre, MIter Value.string wr W.heap.size mb L rem ∧ (pre ++ rem.map (fun p => kb p.1)).Perm (L.map fun p => kb p.1) ∧ J pre wr)
    (fun _ wr => wr.rangeLeft mb W.heap.size)
  case atStart =>
    exact ⟨L, [], hit0, by simp, hJ [] W _ none h0 ⟨rfl, rfl, rfl, by simp, fun k hk _ => heap_alloc_old _ _ hk⟩ (fun r e => by cases e)⟩
  case round =>
    obtain ⟨rem, pre, hit, hperm, hJp⟩ := hrel
    gi_wp2_with (gi_at_next; refine wpListIn_next_k _ rfl rfl rfl hit ?_ ?_)
    · intro h0r
      subst h0r
      gi_wp2
      go_end0
      exact ⟨⟨_, rfl⟩, pre, by simpa using hperm, hJp⟩
    · intro pk pv hp w2 hit2 hc2 hz2 hen
      have hJ2 : J pre w2 := hJ pre wr w2 (some W.heap.size) hJp (grown_of_chg hc2) (fun r e => by cases e; exact ⟨Nat.le_refl _, hit.isWalk⟩)
      have hlen : pre.length < L.length := by
        have := hperm.length_eq
        simp only [List.length_append, List.length_map] at this
        have h1 := kdel_len hit.nodup hp
        omega
      obtain ⟨fn, tmps, assign, body, hy, hR⟩ := hY pre (kb pk) w2 hJ2 hlen
      rw [enc_kb] at hy
      gi_wp2
      refine hR.mono ?_
      rintro e W3 ⟨rfl, hJ3, hk3⟩
      gi_wp2
      have hit3 := hit2.walks hk3
      go_roundw
      case rel =>
        refine ⟨kdel rem pk, pre ++ [kb pk], hit3, List.Perm.trans ?_ hperm, hJ3⟩
        rw [List.append_assoc]
        have hkd := ((kdel_perm hit.nodup hp).map (fun p => kb p.1)).symm
        exact List.Perm.append_left pre hkd
      case measure =>
        rw [hit3.left, hit.left]
        have h1 := kdel_len hit.nodup hp
        dsimp only at h1
        omega
set_option maxHeartbeats 1000000 in
theorem sortedI_ {w : World} {mb Bm : Nat} {L : List (ByteArray × Value)} (hk : KMap Value.string w mb L) {ty : TypeId} (hB : w.heap[Bm]? = some (.cells #[.map (some mb)] ty)) (hmax : L.length ≤ 268435456) :
    Calls Tryz.prog 54 #[.func (.func 95) #[] #[.pointer (some ⟨Bm, 0, none⟩)]] w fun e w' => ∃ (v : Value) (ss : List (List UInt8)), e = .returned v ∧ ss.Perm (L.map fun p => kb p.1) ∧
      w'.ownsRow w.heap.size 9 1 v ss.length ((ss.mergeSort (fun x y => decide (x ≤ y))).map encStr) ∧ (v = .slice none 0 0 ↔ ss = []) ∧ Below w.heap.size w w' := by
  refine (callsIn_wide (n := 5)).1 ?_
  exact AnyZ.sorted_in laySortedS Fence.wide 5 trivial trivial trivial trivial rfl (by omega) (sortsS _) (enters_of Tryz.func88 (by kernel_rfl) rfl) 95 #[.pointer (some ⟨Bm, 0, none⟩)] trivial (enters_of Tryz.func95 (by kernel_rfl) rfl) _ _ (by simp only [maxLen]; omega) (by omega) _ (keysI1_gives hk hB (by omega))

theorem keysS_ (mb : Option Nat) (w : World) : Calls Tryz.prog 55 #[.map mb] w fun e w' => e = .returned (.func (.func 89) #[] #[.pointer (some ⟨w.heap.size, 0, none⟩)]) ∧ w' = w.alloc (.cells #[.map mb] 82) := by
  go_enter Tryz.func55, Tryz.ntmps55
  go_wp2
  go_ret
  exact ⟨rfl, rfl⟩
set_option maxHeartbeats 1000000 in
theorem keysS1_gives {w : World} {mb Bm n : Nat} {L : List (ByteArray × Value)} (hk : KMap Value.string w mb L) {ty : TypeId} (hB : w.heap[Bm]? = some (.cells #[.map (some mb)] ty)) (hn : 1 ≤ n) :
    SeqGives Fence.wide n Tryz.prog 89 #[.pointer (some ⟨Bm, 0, none⟩)] encStr (fun ss => ss.Perm (L.map fun p => kb p.1)) L.length w := by
  intro l J W hW hJ hY h0
  have hkW := hk.below hW hk.lt
  have hm := (heap_cell ((hW.block _ (lt_of_heap hB)).trans hB)).1
  refine callsIn_of_wp Tryz.func89 rfl trivial ?_
  simp only [Tryz.ntmps89, List.size_toArray, List.length_cons, List.length_nil, Nat.reduceAdd, Nat.reduceSub, Array.replicate_succ, Array.replicate_zero, List.push_toArray, List.append_toArray, List.nil_append, List.cons_append]
  gi_wp2_with (gi_at_range; refine wpListIn_range_k _ _ _ _ rfl rfl Tryz.underlying82 _ rfl hkW ?_; intro o' hit0)
  go_frame
  gi_loopw [3] (fun _ wr => ∃ rem pre, MIter Value.string wr W.heap.size mb L rem ∧ (pre ++ rem.map (fun p => kb p.1)).Perm (L.map fun p => kb p.1) ∧ J pre wr)
    (fun _ wr => wr.rangeLeft mb W.heap.size)
  case atStart =>
    exact ⟨L, [], hit0, by simp, hJ [] W _ none h0 ⟨rfl, rfl, rfl, by simp, fun k hk _ => heap_alloc_old _ _ hk⟩ (fun r e => by cases e)⟩
  case round =>
    obtain ⟨rem, pre, hit, hperm, hJp⟩ := hrel
    gi_wp2_with (gi_at_next; refine wpListIn_next_k _ rfl rfl rfl hit ?_ ?_)
    · intro h0r
      subst h0r
      gi_wp2
      go_end0
      exact ⟨⟨_, rfl⟩, pre, by simpa using hperm, hJp⟩
    · intro pk pv hp w2 hit2 hc2 hz2 hen
      have hJ2 : J pre w2 := hJ pre wr w2 (some W.heap.size) hJp (grown_of_chg hc2) (fun r e => by cases e; exact ⟨Nat.le_refl _, hit.isWalk⟩)
      have hlen : pre.length < L.length := by
        have := hperm.length_eq
        simp only [List.length_append, List.length_map] at this
        have h1 := kdel_len hit.nodup hp
        omega
      obtain ⟨fn, tmps, assign, body, hy, hR⟩ := hY pre (kb pk) w2 hJ2 hlen
      rw [enc_kb] at hy
      gi_wp2
      refine hR.mono ?_
      rintro e W3 ⟨rfl, hJ3, hk3⟩
      gi_wp2
      have hit3 := hit2.walks hk3
      go_roundw
      case rel =>
        refine ⟨kdel rem pk, pre ++ [kb pk], hit3, List.Perm.trans ?_ hperm, hJ3⟩
        rw [List.append_assoc]
        have hkd := ((kdel_perm hit.nodup hp).map (fun p => kb p.1)).symm
        exact List.Perm.append_left pre hkd
      case measure =>
        rw [hit3.left, hit.left]
        have h1 := kdel_len hit.nodup hp
        dsimp only at h1
        omega
set_option maxHeartbeats 1000000 in
theorem sortedS_ {w : World} {mb Bm : Nat} {L : List (ByteArray × Value)} (hk : KMap Value.string w mb L) {ty : TypeId} (hB : w.heap[Bm]? = some (.cells #[.map (some mb)] ty)) (hmax : L.length ≤ 268435456) :
    Calls Tryz.prog 54 #[.func (.func 89) #[] #[.pointer (some ⟨Bm, 0, none⟩)]] w fun e w' => ∃ (v : Value) (ss : List (List UInt8)), e = .returned v ∧ ss.Perm (L.map fun p => kb p.1) ∧
      w'.ownsRow w.heap.size 9 1 v ss.length ((ss.mergeSort (fun x y => decide (x ≤ y))).map encStr) ∧ (v = .slice none 0 0 ↔ ss = []) ∧ Below w.heap.size w w' := by
  refine (callsIn_wide (n := 5)).1 ?_
  exact AnyZ.sorted_in laySortedS Fence.wide 5 trivial trivial trivial trivial rfl (by omega) (sortsS _) (enters_of Tryz.func88 (by kernel_rfl) rfl) 89 #[.pointer (some ⟨Bm, 0, none⟩)] trivial (enters_of Tryz.func89 (by kernel_rfl) rfl) _ _ (by simp only [maxLen]; omega) (by omega) _ (keysS1_gives hk hB (by omega))
end Go.Proofs.YtooigfkjdemnlaaGreat
