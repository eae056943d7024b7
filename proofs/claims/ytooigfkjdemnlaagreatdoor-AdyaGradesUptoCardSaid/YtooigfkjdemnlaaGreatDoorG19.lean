/- Own texts of this claim, joined in build order: K1. -/
import Derived.Test.YtooigfkjdemnlaaGreatDoorG14
import Derived.Test.YtooigfkjdemnlaaGreatDoorG03
import Derived.Test.YtooigfkjdemnlaaGreatDoorG06
import Derived.Shelf.SlIter.Sorted
import Derived.Shelf.SortM.Plain
import Derived.Shelf.SortM.SortNone
set_option linter.all false
namespace Go.Proofs.YtooigfkjdemnlaaGreatDoor
set_option maxRecDepth 100000
open Go.RowKit Go.Lib Go.Sort Go.Shelf Xw
attribute [local go_sem] Oper.semAt_some
section
variable {K : Type} [DecidableEq K] {P : Program} {L : List (K × Value)} {w : World} {b : Nat} {ops : Array Oper} {rest : List Oper} {o : Oper} {a : Act} {Q : Exit → Act → World → Prop} {F : Fence} {n : Nat}
theorem wpListIn_range_k {enc : K → Value} (m : Operand) (t et kt' : TypeId) (hop : o.op = .range t m) (hw : Region.wanted o (yielded ops a.tmps) = true) (ht : P.underlying t = some (.map kt' et))
    (b : Nat) (hm : a.eval m = .map (some b)) (h : KMap enc w b L)
    (hK : ∀ o', MIter enc (w.alloc o') w.heap.size b L L → wpListIn F n P ops Q rest (a.put o.dst (.pointer (some ⟨w.heap.size, 0, none⟩))) (w.alloc o')) : wpListIn F n P ops Q (o :: rest) a w := by
  refine wpListIn_step fun K' hK' => ?_
  rw [if_pos hw]
  obtain ⟨o', hrun, h1⟩ := run_range_kmap (P := P) ht h
  unfold Oper.wpIn
  refine ⟨by simp [Oper.about, hop], ?_⟩
  rw [Oper.semAt_plain F _ _ (by rw [hop]; intro c hc'; cases hc')]
  simp [execOp, hop, hm, hrun, Result.andThen]
  exact hK' _ _ (hK o' h1)
theorem wpListIn_next_k {enc : K → Value} {rem : List (K × Value)} {r : Nat} (it : Operand) (hop : o.op = .next it false) (hw : Region.wanted o (yielded ops a.tmps) = true)
    (hit : a.eval it = .pointer (some ⟨r, 0, none⟩)) (h : MIter enc w r b L rem)
    (hDone : rem = [] → wpListIn F n P ops Q rest (a.put o.dst (.tuple #[.bool false])) w)
    (hMore : ∀ p ∈ rem, ∀ w', MIter enc w' r b L (kdel rem p.1) → Chg (fun j => j = r) w w' → w'.heap.size = w.heap.size → (Instr.entry (.pointer (some ⟨r, 0, none⟩))).run P w' = .ok (.tuple #[enc p.1, p.2]) w' →
      wpListIn F n P ops Q rest (a.put o.dst (.tuple #[.bool true, enc p.1, p.2])) w') : wpListIn F n P ops Q (o :: rest) a w := by
  refine wpListIn_step fun K' hK' => ?_
  rw [if_pos hw]
  unfold Oper.wpIn
  refine ⟨by simp [Oper.about, hop], ?_⟩
  rw [Oper.semAt_plain F _ _ (by rw [hop]; intro c hc'; cases hc')]
  rcases run_next_kmap (P := P) h o.type with ⟨h0, hrun⟩ | ⟨p, hp, w', hrun, h1, h2, h3, h4⟩
  · simp [execOp, hop, hit, hrun, Result.andThen]
    exact hK' _ _ (hDone h0)
  · simp [execOp, hop, hit, hrun, Result.andThen]
    exact hK' _ _ (hMore p hp w' h1 h2 h3 h4)
end
theorem grown_of_chg {w w' : World} {r : Nat} (h : Chg (fun j => j = r) w w') : w.grownBy w' (some r) :=
  ⟨h.os, h.tape, h.out, h.size, fun k hk hn => h.block k hk (fun e => hn (by rw [e]))⟩
theorem MIter.walks {K : Type} [DecidableEq K] {enc : K → Value} {w w' : World} {r b : Nat} {L rem : List (K × Value)} (h : MIter enc w r b L rem) (hk : KeepsWalks w w') : MIter enc w' r b L rem := by
  obtain ⟨es, clk, since, seen, c0, h1, h2, h3, h4, h5, h6, h7, h8, h9⟩ := h
  exact ⟨es, clk, since, seen, c0, hk.same _ _ h1 rfl, h2, h3, h4, h5, h6, h7, hk.same _ _ h8 rfl, h9⟩
theorem MIter.isWalk {K : Type} [DecidableEq K] {enc : K → Value} {w : World} {r b : Nat} {L rem : List (K × Value)} (h : MIter enc w r b L rem) : ∃ o : Obj, w.heap[r]? = some o ∧ o.isWalk = true := by
  obtain ⟨es, clk, since, seen, c0, h1, h2, h3, h4, h5, h6, h7, h8, h9⟩ := h
  exact ⟨_, h8, rfl⟩
def kb (k : ByteArray) : List UInt8 := k.data.toList
theorem enc_kb (k : ByteArray) : encStr (kb k) = .string k := rfl
def renSortS : Ren := ⟨fun x => if x = 0 then 0 else if x = 1 then 1 else if x = 2 then 2 else if x = 6 then 92 else if x = 8 then 99 else if x = 9 then 118 else if x = 19 then 132 else if x = 20 then 133 else if x = 21 then 157 else if x = 22 then 158 else if x = 23 then 159 else if x = 24 then 160 else if x = 25 then 161 else if x = 26 then 162 else if x = 27 then 163 else if x = 28 then 164 else if x = 29 then 165 else if x = 31 then 167 else if x = 32 then 168 else if x = 36 then 179 else if x = 37 then 180 else if x = 38 then 181 else if x = 39 then 135 else if x = 41 then 186 else if x = 42 then 187 else if x = 43 then 188 else if x = 44 then 189 else if x = 45 then 190 else if x = 46 then 191 else if x = 47 then 192 else if x = 48 then 193 else if x = 49 then 194 else if x = 50 then 195 else if x = 51 then 196 else if x = 52 then 197 else if x = 53 then 198 else if x = 54 then 199 else if x = 55 then 200 else if x = 56 then 201 else if x = 57 then 202 else  x, fun x => if x = 0 then 0 else if x = 1 then 1 else if x = 2 then 2 else if x = 3 then 3 else if x = 4 then 4 else if x = 5 then 5 else if x = 6 then 6 else if x = 7 then 7 else if x = 8 then 8 else if x = 9 then 9 else if x = 10 then 10 else if x = 11 then 11 else if x = 12 then 12 else if x = 13 then 13 else if x = 14 then 14 else if x = 15 then 15 else if x = 16 then 16 else if x = 17 then 17 else if x = 18 then 18 else if x = 19 then 19 else if x = 20 then 20 else if x = 21 then 21 else if x = 26 then 82 else if x = 27 then 82 else if x = 28 then 165 else if x = 29 then 9 else if x = 31 then 173 else if x = 32 then 174 else if x = 33 then 189 else if x = 35 then 195 else if x = 36 then 196 else if x = 41 then 200 else if x = 43 then 202 else if x = 44 then 203 else if x = 45 then 204 else if x = 46 then 50 else if x = 47 then 222 else if x = 48 then 223 else if x = 49 then 224 else if x = 50 then 225 else if x = 51 then 226 else if x = 52 then 227 else if x = 53 then 228 else if x = 54 then 229 else if x = 55 then 230 else if x = 57 then 232 else if x = 60 then 238 else if x = 61 then 239 else if x = 62 then 166 else if x = 63 then 240 else if x = 64 then 151 else if x = 66 then 244 else if x = 67 then 245 else if x = 68 then 246 else if x = 69 then 247 else if x = 70 then 248 else if x = 71 then 249 else if x = 72 then 250 else if x = 73 then 251 else if x = 74 then 252 else if x = 75 then 253 else if x = 76 then 254 else if x = 77 then 255 else if x = 78 then 256 else if x = 79 then 257 else if x = 80 then 258 else if x = 81 then 259 else if x = 82 then 260 else  x, fun x => x⟩
set_option maxHeartbeats 1000000 in
theorem laySortS : SlLaysM.n6 Tryz.prog renSortS where
  mixed := by kernel_rfl
  f6 := ⟨Tryz.f92.name, by kernel_rfl, Tryz.func92.trans (by kernel_rfl)⟩
  f8 := Tryz.func99.trans (by kernel_rfl)
  f9 := ⟨Tryz.f118.name, by kernel_rfl, Tryz.func118.trans (by kernel_rfl)⟩
  f19 := Tryz.func132.trans (by kernel_rfl)
  f20 := Tryz.func133.trans (by kernel_rfl)
  f21 := ⟨Tryz.f157.name, by kernel_rfl, Tryz.func157.trans (by kernel_rfl)⟩
  f22 := ⟨Tryz.f158.name, by kernel_rfl, Tryz.func158.trans (by kernel_rfl)⟩
  f23 := ⟨Tryz.f159.name, by kernel_rfl, Tryz.func159.trans (by kernel_rfl)⟩
  f24 := ⟨Tryz.f160.name, by kernel_rfl, Tryz.func160.trans (by kernel_rfl)⟩
  f25 := ⟨Tryz.f161.name, by kernel_rfl, Tryz.func161.trans (by kernel_rfl)⟩
  f26 := ⟨Tryz.f162.name, by kernel_rfl, Tryz.func162.trans (by kernel_rfl)⟩
  f27 := ⟨Tryz.f163.name, by kernel_rfl, Tryz.func163.trans (by kernel_rfl)⟩
  f28 := ⟨Tryz.f164.name, by kernel_rfl, Tryz.func164.trans (by kernel_rfl)⟩
  f29 := ⟨Tryz.f165.name, by kernel_rfl, Tryz.func165.trans (by kernel_rfl)⟩
  f31 := Tryz.func167.trans (by kernel_rfl)
  f32 := Tryz.func168.trans (by kernel_rfl)
  f36 := ⟨Tryz.f179.name, by kernel_rfl, Tryz.func179.trans (by kernel_rfl)⟩
  f37 := ⟨Tryz.f180.name, by kernel_rfl, Tryz.func180.trans (by kernel_rfl)⟩
  f38 := ⟨Tryz.f181.name, by kernel_rfl, Tryz.func181.trans (by kernel_rfl)⟩
  f39 := ⟨Tryz.f135.name, by kernel_rfl, Tryz.func135.trans (by kernel_rfl)⟩
  f41 := ⟨Tryz.f186.name, by kernel_rfl, Tryz.func186.trans (by kernel_rfl)⟩
  t0 := by kernel_rfl
  a0 := fun _ => by kernel_rfl
  z0 := fun _ => by kernel_rfl
  v0 := fun _ => by kernel_rfl
  t3 := by kernel_rfl
  a3 := fun _ => by kernel_rfl
  z3 := fun _ => by kernel_rfl
  v3 := fun _ => by kernel_rfl
  t4 := by kernel_rfl
  a4 := fun _ => by kernel_rfl
  z4 := fun _ => by kernel_rfl
  v4 := fun _ => by kernel_rfl
  t5 := by kernel_rfl
  a5 := fun _ => by kernel_rfl
  z5 := fun _ => by kernel_rfl
  v5 := fun _ => by kernel_rfl
  t9 := by kernel_rfl
  a9 := fun _ => by kernel_rfl
  z9 := fun _ => by kernel_rfl
  v9 := fun _ => by kernel_rfl
  t26 := by kernel_rfl
  a26 := fun _ => by kernel_rfl
  z26 := fun _ => by kernel_rfl
  v26 := fun _ => by kernel_rfl
  t27 := by kernel_rfl
  a27 := fun _ => by kernel_rfl
  z27 := fun _ => by kernel_rfl
  v27 := fun _ => by kernel_rfl
  t29 := by kernel_rfl
  a29 := fun _ => by kernel_rfl
  z29 := fun _ => by kernel_rfl
  v29 := fun _ => by kernel_rfl
  t32 := by kernel_rfl
  a32 := fun _ => by kernel_rfl
  z32 := fun _ => by kernel_rfl
  v32 := fun _ => by kernel_rfl
  t35 := by kernel_rfl
  a35 := fun _ => by kernel_rfl
  z35 := fun _ => by kernel_rfl
  v35 := fun _ => by kernel_rfl
  t36 := by kernel_rfl
  a36 := fun _ => by kernel_rfl
  z36 := fun _ => by kernel_rfl
  v36 := fun _ => by kernel_rfl
  t41 := by kernel_rfl
  a41 := fun _ => by kernel_rfl
  z41 := fun _ => by kernel_rfl
  v41 := fun _ => by kernel_rfl
  t44 := by kernel_rfl
  a44 := fun _ => by kernel_rfl
  z44 := fun _ => by kernel_rfl
  v44 := fun _ => by kernel_rfl
  t46 := by kernel_rfl
  a46 := fun _ => by kernel_rfl
  z46 := fun _ => by kernel_rfl
  v46 := fun _ => by kernel_rfl
  t53 := by kernel_rfl
  a53 := fun _ => by kernel_rfl
  z53 := fun _ => by kernel_rfl
  v53 := fun _ => by kernel_rfl
  t57 := by kernel_rfl
  a57 := fun _ => by kernel_rfl
  z57 := fun _ => by kernel_rfl
  v57 := fun _ => by kernel_rfl
  t63 := by kernel_rfl
  a63 := fun _ => by kernel_rfl
  z63 := fun _ => by kernel_rfl
  v63 := fun _ => by kernel_rfl
  t64 := by kernel_rfl
  a64 := fun _ => by kernel_rfl
  z64 := fun _ => by kernel_rfl
  v64 := fun _ => by kernel_rfl
def renSortedS : Ren := ⟨fun x => if x = 0 then 0 else if x = 1 then 1 else if x = 2 then 2 else if x = 6 then 46 else if x = 8 then 91 else if x = 9 then 92 else if x = 11 then 117 else if x = 12 then 118 else if x = 13 then 99 else if x = 14 then 157 else if x = 15 then 158 else if x = 16 then 159 else if x = 17 then 160 else if x = 18 then 161 else if x = 19 then 162 else if x = 20 then 163 else if x = 21 then 164 else if x = 22 then 165 else if x = 23 then 132 else if x = 24 then 133 else if x = 25 then 179 else if x = 26 then 167 else if x = 27 then 168 else if x = 28 then 180 else if x = 29 then 181 else if x = 30 then 135 else if x = 31 then 186 else if x = 32 then 187 else if x = 33 then 188 else if x = 34 then 189 else if x = 35 then 190 else if x = 36 then 191 else if x = 37 then 192 else if x = 38 then 193 else if x = 39 then 194 else if x = 40 then 195 else if x = 41 then 196 else if x = 42 then 197 else if x = 43 then 198 else if x = 44 then 199 else if x = 45 then 200 else if x = 46 then 201 else if x = 47 then 202 else  x, fun x => if x = 0 then 0 else if x = 1 then 1 else if x = 2 then 2 else if x = 3 then 3 else if x = 4 then 4 else if x = 5 then 5 else if x = 6 then 6 else if x = 7 then 7 else if x = 8 then 8 else if x = 9 then 9 else if x = 10 then 10 else if x = 11 then 11 else if x = 12 then 12 else if x = 13 then 13 else if x = 14 then 14 else if x = 15 then 15 else if x = 16 then 16 else if x = 17 then 17 else if x = 18 then 18 else if x = 19 then 19 else if x = 20 then 20 else if x = 21 then 21 else if x = 22 then 116 else if x = 24 then 82 else if x = 25 then 117 else if x = 26 then 9 else if x = 27 then 118 else if x = 28 then 119 else if x = 32 then 165 else if x = 33 then 166 else if x = 34 then 188 else if x = 35 then 189 else if x = 36 then 173 else if x = 37 then 174 else if x = 38 then 222 else if x = 39 then 195 else if x = 40 then 196 else if x = 41 then 223 else if x = 42 then 224 else if x = 43 then 225 else if x = 44 then 226 else if x = 45 then 200 else if x = 46 then 227 else if x = 47 then 202 else if x = 48 then 203 else if x = 49 then 204 else if x = 50 then 50 else if x = 51 then 228 else if x = 52 then 229 else if x = 53 then 230 else if x = 54 then 238 else if x = 55 then 232 else if x = 56 then 239 else if x = 57 then 240 else if x = 58 then 151 else if x = 59 then 244 else if x = 60 then 245 else if x = 61 then 246 else if x = 62 then 247 else if x = 63 then 248 else if x = 64 then 249 else if x = 65 then 250 else if x = 66 then 251 else if x = 67 then 252 else if x = 68 then 253 else if x = 69 then 254 else if x = 70 then 255 else if x = 71 then 256 else if x = 72 then 257 else if x = 73 then 258 else if x = 74 then 259 else if x = 75 then 260 else  x, fun x => x⟩
theorem laySortedS : SlLaysZ.n6 Tryz.prog renSortedS where
  mixed := by kernel_rfl
  f6 := ⟨Tryz.f46.name, by kernel_rfl, Tryz.func46.trans (by kernel_rfl)⟩
  f8 := ⟨Tryz.f91.name, by kernel_rfl, Tryz.func91.trans (by kernel_rfl)⟩
  f11 := ⟨Tryz.f117.name, by kernel_rfl, Tryz.func117.trans (by kernel_rfl)⟩
  t0 := by kernel_rfl
  a0 := fun _ => by kernel_rfl
  z0 := fun _ => by kernel_rfl
  v0 := fun _ => by kernel_rfl
  t24 := by kernel_rfl
  a24 := fun _ => by kernel_rfl
  z24 := fun _ => by kernel_rfl
  v24 := fun _ => by kernel_rfl
  t26 := by kernel_rfl
  a26 := fun _ => by kernel_rfl
  z26 := fun _ => by kernel_rfl
  v26 := fun _ => by kernel_rfl
  t28 := by kernel_rfl
  a28 := fun _ => by kernel_rfl
  z28 := fun _ => by kernel_rfl
  v28 := fun _ => by kernel_rfl
  i26 := by kernel_rfl

theorem sortsS (m : Nat) : AnyZ.SortsIn Tryz.prog renSortedS Fence.wide m :=
  ⟨fun blk off cap ss W hH hblk hsz => callsIn_wide.2 (AnyM.slices_Sort_string laySortS blk off cap ss W hH hblk hsz),
   fun p cap W => callsIn_wide.2 (AnyM.slices_Sort_string_none laySortS p cap W)⟩

theorem keysI_ (mb : Option Nat) (w : World) : Calls Tryz.prog 88 #[.map mb] w fun e w' => e = .returned (.func (.func 114) #[] #[.pointer (some ⟨w.heap.size, 0, none⟩)]) ∧ w' = w.alloc (.cells #[.map mb] 81) := by
  go_enter Tryz.func88, Tryz.ntmps88
  go_wp2
  go_ret
  exact ⟨rfl, rfl⟩
set_option maxHeartbeats 1000000 in
theorem keysI1_gives {w : World} {mb Bm n : Nat} {L : List (ByteArray × Value)} (hk : KMap Value.string w mb L) {ty : TypeId} (hB : w.heap[Bm]? = some (.cells #[.map (some mb)] ty)) (hn : 1 ≤ n) :
    SeqGives Fence.wide n Tryz.prog 114 #[.pointer (some ⟨Bm, 0, none⟩)] encStr (fun ss => ss.Perm (L.map fun p => kb p.1)) L.length w := by
  intro l J W hW hJ hY h0
  have hkW := hk.below hW hk.lt
  have hm := (heap_cell ((hW.block _ (lt_of_heap hB)).trans hB)).1
  refine callsIn_of_wp Tryz.func114 rfl trivial ?_
  simp only [Tryz.ntmps114, List.size_toArray, List.length_cons, List.length_nil, Nat.reduceAdd, Nat.reduceSub, Array.replicate_succ, Array.replicate_zero, List.push_toArray, List.append_toArray, List.nil_append, List.cons_append]
  gi_wp2_with (gi_at_range; refine wpListIn_range_k _ _ _ _ rfl rfl Tryz.underlying81 _ rfl hkW ?_; intro o' hit0)
  go_frame
  gi_loopw [3] (fun _ wr => ∃ rem pre, MIter Value.string wr W.heap.size mb L rem ∧ (pre ++ rem.map (fun p => kb p.1)).Perm (L.map fun p => kb p.1) ∧ J pre wr)
    (fun _ wr => wr.rangeLeft mb W.heap.size)
  case atStart =>
    exact ⟨L, [], hit0, by simp, hJ [] W _ none h0 ⟨rfl, rfl, rfl, by simp, fun k hk _ => heap_alloc_old _ _ hk⟩ (fun r e => by cases e)⟩
  case round =>
    obtain ⟨rem, pre, hit, hperm, hJp⟩ := hrel
    gi_wp2_with (gi_at_next; refine wpListIn_next_k _ rfl rfl rfl hit ?_ ?_)
    · intro h0r
      subst h0r
      gi_wp2
      go_end0
      exact ⟨⟨_, rfl⟩, pre, by simpa using hperm, hJp⟩
    · intro pk pv hp w2 hit2 hc2 hz2 hen
      have hJ2 : J pre w2 := hJ pre wr w2 (some W.heap.size) hJp (grown_of_chg hc2) (fun r e => by cases e; exact ⟨Nat.le_refl _, hit.isWalk⟩)
      have hlen : pre.length < L.length := by
        have := hperm.length_eq
        simp only [List.length_append, List.length_map] at this
        have h1 := kdel_len hit.nodup hp
        omega
      obtain ⟨fn, tmps, assign, body, hy, hR⟩ := hY pre (kb pk) w2 hJ2 hlen
      rw [enc_kb] at hy
      gi_wp2
      refine hR.mono ?_
      rintro e W3 ⟨rfl, hJ3, hk3⟩
      gi_wp2
      have hit3 := hit2.walks hk3
      go_roundw
      case rel =>
        refine ⟨kdel rem pk, pre ++ [kb pk], hit3, List.Perm.trans ?_ hperm, hJ3⟩
        rw [List.append_assoc]
        have hkd := ((kdel_perm hit.nodup hp).map (fun p => kb p.1)).symm
        exact List.Perm.append_left pre hkd
      case measure =>
        rw [hit3.left, hit.left]
        have h1 := kdel_len hit.nodup hp
        dsimp only at h1
        omega
set_option maxHeartbeats 1000000 in
theorem sortedI_ {w : World} {mb Bm : Nat} {L : List (ByteArray × Value)} (hk : KMap Value.string w mb L) {ty : TypeId} (hB : w.heap[Bm]? = some (.cells #[.map (some mb)] ty)) (hmax : L.length ≤ 268435456) :
    Calls Tryz.prog 46 #[.func (.func 114) #[] #[.pointer (some ⟨Bm, 0, none⟩)]] w fun e w' => ∃ (v : Value) (ss : List (List UInt8)), e = .returned v ∧ ss.Perm (L.map fun p => kb p.1) ∧
      w'.ownsRow w.heap.size 9 1 v ss.length ((ss.mergeSort (fun x y => decide (x ≤ y))).map encStr) ∧ (v = .slice none 0 0 ↔ ss = []) ∧ Below w.heap.size w w' := by
  refine (callsIn_wide (n := 5)).1 ?_
  exact AnyZ.sorted_in laySortedS Fence.wide 5 trivial trivial trivial trivial rfl (by omega) (sortsS _) (enters_of Tryz.func92 (by kernel_rfl) rfl) 114 #[.pointer (some ⟨Bm, 0, none⟩)] trivial (enters_of Tryz.func114 (by kernel_rfl) rfl) _ _ (by simp only [maxLen]; omega) (by omega) _ (keysI1_gives hk hB (by omega))

theorem keysS_ (mb : Option Nat) (w : World) : Calls Tryz.prog 47 #[.map mb] w fun e w' => e = .returned (.func (.func 93) #[] #[.pointer (some ⟨w.heap.size, 0, none⟩)]) ∧ w' = w.alloc (.cells #[.map mb] 87) := by
  go_enter Tryz.func47, Tryz.ntmps47
  go_wp2
  go_ret
  exact ⟨rfl, rfl⟩
set_option maxHeartbeats 1000000 in
theorem keysS1_gives {w : World} {mb Bm n : Nat} {L : List (ByteArray × Value)} (hk : KMap Value.string w mb L) {ty : TypeId} (hB : w.heap[Bm]? = some (.cells #[.map (some mb)] ty)) (hn : 1 ≤ n) :
    SeqGives Fence.wide n Tryz.prog 93 #[.pointer (some ⟨Bm, 0, none⟩)] encStr (fun ss => ss.Perm (L.map fun p => kb p.1)) L.length w := by
  intro l J W hW hJ hY h0
  have hkW := hk.below hW hk.lt
  have hm := (heap_cell ((hW.block _ (lt_of_heap hB)).trans hB)).1
  refine callsIn_of_wp Tryz.func93 rfl trivial ?_
  simp only [Tryz.ntmps93, List.size_toArray, List.length_cons, List.length_nil, Nat.reduceAdd, Nat.reduceSub, Array.replicate_succ, Array.replicate_zero, List.push_toArray, List.append_toArray, List.nil_append, List.cons_append]
  gi_wp2_with (gi_at_range; refine wpListIn_range_k _ _ _ _ rfl rfl Tryz.underlying87 _ rfl hkW ?_; intro o' hit0)
  go_frame
  gi_loopw [3] (fun _ wr => ∃ rem pre, MIter Value.string wr W.heap.size mb L rem ∧ (pre ++ rem.map (fun p => kb p.1)).Perm (L.map fun p => kb p.1) ∧ J pre wr)
    (fun _ wr => wr.rangeLeft mb W.heap.size)
  case atStart =>
    exact ⟨L, [], hit0, by simp, hJ [] W _ none h0 ⟨rfl, rfl, rfl, by simp, fun k hk _ => heap_alloc_old _ _ hk⟩ (fun r e => by cases e)⟩
  case round =>
    obtain ⟨rem, pre, hit, hperm, hJp⟩ := hrel
    gi_wp2_with (gi_at_next; refine wpListIn_next_k _ rfl rfl rfl hit ?_ ?_)
    · intro h0r
      subst h0r
      gi_wp2
      go_end0
      exact ⟨⟨_, rfl⟩, pre, by simpa using hperm, hJp⟩
    · intro pk pv hp w2 hit2 hc2 hz2 hen
      have hJ2 : J pre w2 := hJ pre wr w2 (some W.heap.size) hJp (grown_of_chg hc2) (fun r e => by cases e; exact ⟨Nat.le_refl _, hit.isWalk⟩)
      have hlen : pre.length < L.length := by
        have := hperm.length_eq
        simp only [List.length_append, List.length_map] at this
        have h1 := kdel_len hit.nodup hp
        omega
      obtain ⟨fn, tmps, assign, body, hy, hR⟩ := hY pre (kb pk) w2 hJ2 hlen
      rw [enc_kb] at hy
      gi_wp2
      refine hR.mono ?_
      rintro e W3 ⟨rfl, hJ3, hk3⟩
      gi_wp2
      have hit3 := hit2.walks hk3
      go_roundw
      case rel =>
        refine ⟨kdel rem pk, pre ++ [kb pk], hit3, List.Perm.trans ?_ hperm, hJ3⟩
        rw [List.append_assoc]
        have hkd := ((kdel_perm hit.nodup hp).map (fun p => kb p.1)).symm
        exact List.Perm.append_left pre hkd
      case measure =>
        rw [hit3.left, hit.left]
        have h1 := kdel_len hit.nodup hp
        dsimp only at h1
        omega
set_option maxHeartbeats 1000000 in
theorem sortedS_ {w : World} {mb Bm : Nat} {L : List (ByteArray × Value)} (hk : KMap Value.string w mb L) {ty : TypeId} (hB : w.heap[Bm]? = some (.cells #[.map (some mb)] ty)) (hmax : L.length ≤ 268435456) :
    Calls Tryz.prog 46 #[.func (.func 93) #[] #[.pointer (some ⟨Bm, 0, none⟩)]] w fun e w' => ∃ (v : Value) (ss : List (List UInt8)), e = .returned v ∧ ss.Perm (L.map fun p => kb p.1) ∧
      w'.ownsRow w.heap.size 9 1 v ss.length ((ss.mergeSort (fun x y => decide (x ≤ y))).map encStr) ∧ (v = .slice none 0 0 ↔ ss = []) ∧ Below w.heap.size w w' := by
  refine (callsIn_wide (n := 5)).1 ?_
  exact AnyZ.sorted_in laySortedS Fence.wide 5 trivial trivial trivial trivial rfl (by omega) (sortsS _) (enters_of Tryz.func92 (by kernel_rfl) rfl) 93 #[.pointer (some ⟨Bm, 0, none⟩)] trivial (enters_of Tryz.func93 (by kernel_rfl) rfl) _ _ (by simp only [maxLen]; omega) (by omega) _ (keysS1_gives hk hB (by omega))
end Go.Proofs.YtooigfkjdemnlaaGreatDoor
