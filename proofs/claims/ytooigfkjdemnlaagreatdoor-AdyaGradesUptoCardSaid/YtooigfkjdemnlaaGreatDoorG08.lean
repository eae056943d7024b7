/- Own texts of this claim, joined in build order: Srt, S1, S2, Srt2, S3, Srt3. -/
import Derived.Shelf.SlSortCmp.KitK
import Derived.Test.YtooigfkjdemnlaaGreatDoorG06
set_option linter.all false
namespace Go.Proofs.YtooigfkjdemnlaaGreatDoor
open Go.Sort
variable {α : Type} [Inhabited α]

def swr (d : Array α) (a b n : Nat) : Array α := (Array.range d.size).map fun t => if a ≤ t ∧ t < a + n then d[t - a + b]! else if b ≤ t ∧ t < b + n then d[t - b + a]! else d[t]!
theorem swr_size (d : Array α) (a b n : Nat) : (swr d a b n).size = d.size := by simp [swr]
theorem swr_get (d : Array α) (a b n t : Nat) (ht : t < d.size) : (swr d a b n)[t]! = if a ≤ t ∧ t < a + n then d[t - a + b]! else if b ≤ t ∧ t < b + n then d[t - b + a]! else d[t]! := by
  simp [swr, ht]
theorem ext_bang {a b : Array α} (hs : a.size = b.size) (h : ∀ t, t < a.size → a[t]! = b[t]!) : a = b :=
  Array.ext hs fun t h1 h2 => by have := h t h1; rwa [getElem!_pos a t h1, getElem!_pos b t h2] at this
theorem swr_zero (d : Array α) (a b : Nat) : swr d a b 0 = d := by
  refine ext_bang (swr_size _ _ _ _) fun t ht => ?_
  rw [swr_size] at ht
  rw [swr_get _ _ _ _ _ ht, if_neg (by omega), if_neg (by omega)]
theorem swr_step (d : Array α) (a b n : Nat) (h1 : a + n + 1 ≤ b) (h2 : b + n < d.size) : swp (swr d a b n) (a + n) (b + n) = swr d a b (n + 1) := by
  refine ext_bang (by rw [size_swp, swr_size, swr_size]) fun t ht => ?_
  rw [size_swp, swr_size] at ht
  rw [swp_get _ (by rw [swr_size]; omega) (by rw [swr_size]; omega), swr_get _ _ _ _ _ ht, swr_get _ _ _ _ _ ht, swr_get _ _ _ _ _ (show a + n < d.size by omega), swr_get _ _ _ _ _ h2]
  rw [if_neg (show ¬ (a ≤ a + n ∧ a + n < a + n) by omega), if_neg (show ¬ (b ≤ a + n ∧ a + n < b + n) by omega)]
  by_cases e1 : t = b + n
  · subst e1
    simp only [if_true]
    rw [if_neg (by omega), if_pos (by omega)]
    congr 1; omega
  · by_cases e2 : t = a + n
    · subst e2
      simp only [e1, if_false, if_true]
      rw [if_neg (by omega), if_neg (by omega), if_pos (by omega)]
      congr 1; omega
    · simp only [e1, e2, if_false]
      by_cases c1 : a ≤ t ∧ t < a + n
      · rw [if_pos c1, if_pos (by omega)]
      · rw [if_neg c1, if_neg (show ¬ (a ≤ t ∧ t < a + (n + 1)) by omega)]
        by_cases c2 : b ≤ t ∧ t < b + n
        · rw [if_pos c2, if_pos (by omega)]
        · rw [if_neg c2, if_neg (by omega)]

theorem bang_list (l : List α) (t : Nat) : (l.toArray)[t]! = l.getD t default := by
  by_cases h : t < l.length
  · rw [getElem!_pos _ _ (by simpa using h)]; simp [h]
  · rw [getElem!_neg _ _ (by simpa using h)]; simp at h; simp [h]
theorem swr_list (pre X mid Y post : List α) (h : X.length = Y.length) :
    swr (pre ++ X ++ mid ++ Y ++ post).toArray pre.length (pre.length + X.length + mid.length) X.length = (pre ++ Y ++ mid ++ X ++ post).toArray := by
  refine ext_bang (by rw [swr_size]; simp [h]) fun t ht => ?_
  rw [swr_size] at ht
  rw [swr_get _ _ _ _ _ ht]
  have ht' : t < pre.length + X.length + mid.length + Y.length + post.length := by simpa [Nat.add_assoc] using ht
  rw [bang_list, bang_list, bang_list, bang_list]
  simp only [List.getD_eq_getElem?_getD]
  split
  · rename_i c
    congr 1
    simp only [List.getElem?_append, List.length_append]
    repeat' split
    all_goals first | rfl | omega | (congr 1 <;> omega)
  · split
    · rename_i c1 c
      congr 1
      simp only [List.getElem?_append, List.length_append]
      repeat' split
      all_goals first | rfl | omega | (congr 1 <;> omega)
    · rename_i c1 c2
      congr 1
      simp only [List.getElem?_append, List.length_append]
      repeat' split
      all_goals first | rfl | omega | (congr 1 <;> omega)
end Go.Proofs.YtooigfkjdemnlaaGreatDoor

namespace Go.Proofs.YtooigfkjdemnlaaGreatDoor
set_option maxRecDepth 100000
open Go.RowKit Go.Lib Go.Sort Xw

structure LayS (P : Program) (k : Nat) : Prop where
  mixed : P.follows .mixedOrders = true
  fSwap : P.funcs[185]? = some Tryz.f185
  fRot : P.funcs[177]? = some Tryz.f177
  fSym : P.funcs[155]? = some Tryz.f155
  t0 : P.underlying 0 = some (TypeDesc.tuple #[])
  a0 : ∀ w, (isAgg 0).run P w = .ok false w
  z0 : ∀ w, (Go.sizeOf 0).run P w = .ok 1 w
  v0 : ∀ w, (zeroValue 0).run P w = .ok (Value.tuple #[]) w
  t3 : P.underlying 3 = some (TypeDesc.int IntKind.i64)
  a3 : ∀ w, (isAgg 3).run P w = .ok false w
  z3 : ∀ w, (Go.sizeOf 3).run P w = .ok 1 w
  v3 : ∀ w, (zeroValue 3).run P w = .ok (Value.int IntKind.i64 0) w
  t4 : P.underlying 4 = some (TypeDesc.bool)
  a4 : ∀ w, (isAgg 4).run P w = .ok false w
  z4 : ∀ w, (Go.sizeOf 4).run P w = .ok 1 w
  v4 : ∀ w, (zeroValue 4).run P w = .ok (Value.bool false) w
  tu : P.underlying 174 = some (TypeDesc.int IntKind.u64)
  au : ∀ w, (isAgg 174).run P w = .ok false w
  zu : ∀ w, (Go.sizeOf 174).run P w = .ok 1 w
  vu : ∀ w, (zeroValue 174).run P w = .ok (Value.int IntKind.u64 0) w
  t22 : P.underlying 123 = some (TypeDesc.slice 125)
  a22 : ∀ w, (isAgg 123).run P w = .ok false w
  z22 : ∀ w, (Go.sizeOf 123).run P w = .ok 1 w
  v22 : ∀ w, (zeroValue 123).run P w = .ok (Value.slice none 0 0) w
  t25 : P.underlying 162 = some (TypeDesc.func #[125, 125] #[3] false)
  a25 : ∀ w, (isAgg 162).run P w = .ok false w
  z25 : ∀ w, (Go.sizeOf 162).run P w = .ok 1 w
  v25 : ∀ w, (zeroValue 162).run P w = .ok (Value.nilFunc) w
  aE : ∀ w, (isAgg 125).run P w = .ok true w
  zE : ∀ w, (Go.sizeOf 125).run P w = .ok k w
theorem layS : LayS Tryz.prog 3 where
  mixed := by kernel_rfl
  fSwap := Tryz.func185
  fRot := Tryz.func177
  fSym := Tryz.func155
  t0 := by kernel_rfl
  a0 := fun _ => by kernel_rfl
  z0 := fun _ => by kernel_rfl
  v0 := fun _ => by kernel_rfl
  t3 := by kernel_rfl
  a3 := fun _ => by kernel_rfl
  z3 := fun _ => by kernel_rfl
  v3 := fun _ => by kernel_rfl
  t4 := by kernel_rfl
  a4 := fun _ => by kernel_rfl
  z4 := fun _ => by kernel_rfl
  v4 := fun _ => by kernel_rfl
  tu := by kernel_rfl
  au := fun _ => by kernel_rfl
  zu := fun _ => by kernel_rfl
  vu := fun _ => by kernel_rfl
  t22 := by kernel_rfl
  a22 := fun _ => by kernel_rfl
  z22 := fun _ => by kernel_rfl
  v22 := fun _ => by kernel_rfl
  t25 := by kernel_rfl
  a25 := fun _ => by kernel_rfl
  z25 := fun _ => by kernel_rfl
  v25 := fun _ => by kernel_rfl
  aE := fun _ => by kernel_rfl
  zE := fun _ => by kernel_rfl

section
variable {P : Program} {k : Nat} {α : Type} [Inhabited α]
set_option maxHeartbeats 8000000 in
theorem swapRangeG (L : LayS P k) (enc : α → List Value) (blk off cap a b n : Nat) (f : Value) (d0 d : Array α) (w0 w : World) (R : RowK enc k w0 blk off d0) (hs : d.size = d0.size) (S : SWK enc k w0 blk off d w)
    (h1 : a + n ≤ b) (h2 : b + n ≤ d0.size) (hsz : d0.size < 4611686018427387904) :
    Calls P 185 #[.slice (some ⟨blk, off, none⟩) d0.size cap, .int .i64 a, .int .i64 b, .int .i64 n, f] w fun e w' => e = .returned (.tuple #[]) ∧ SWK enc k w0 blk off (swr d a b n) w' := by
  have mixed := L.mixed; have t0 := L.t0; have a0 := L.a0; have z0 := L.z0; have v0 := L.v0; have t3 := L.t3; have a3 := L.a3; have z3 := L.z3; have v3 := L.v3; have t4 := L.t4; have a4 := L.a4; have z4 := L.z4; have v4 := L.v4; have t22 := L.t22; have a22 := L.a22; have z22 := L.z22; have v22 := L.v22; have t25 := L.t25; have a25 := L.a25; have z25 := L.z25; have v25 := L.v25; have aE := L.aE; have zE := L.zE
  have S0 : Aside (SWK enc k w0 blk off d w) := S
  clear S
  go_enter L.fSwap, Tryz.ntmps185
  go_wp2
  go_loopw [10] (fun vi wr => ∃ i : Nat, i ≤ n ∧ vi = .int .i64 i ∧ Aside (SWK enc k w0 blk off (swr d a b i) wr)) (fun vi _ => n - (intOf vi).toNat)
  case atStart => exact ⟨0, by omega, rfl, by rw [swr_zero]; exact S0⟩
  case round =>
    obtain ⟨i, hi, rfl, S1⟩ := hrel
    have hz : (swr d a b i).size = d0.size := by rw [swr_size, hs]
    by_cases hlt : i < n
    · have ea : ((a : Int) + (i : Int)).toNat = a + i := by omega
      have pa : (0 : Int) ≤ (a : Int) + (i : Int) := by omega
      have ba : (a : Int) + (i : Int) < (d0.size : Int) := by omega
      have ra : IntKind.i64.wrap ((a : Int) + (i : Int)) = (a : Int) + (i : Int) := by rw [IntKind.wrap_i64]; omega
      have eb : ((b : Int) + (i : Int)).toNat = b + i := by omega
      have pb : (0 : Int) ≤ (b : Int) + (i : Int) := by omega
      have bb : (b : Int) + (i : Int) < (d0.size : Int) := by omega
      have rb : IntKind.i64.wrap ((b : Int) + (i : Int)) = (b : Int) + (i : Int) := by rw [IntKind.wrap_i64]; omega
      have S3 : Aside (SWK enc k w0 blk off (swr d a b (i + 1)) ((wr.drew.setCells blk (off + (a + i) * k) (enc (swr d a b i)[b + i]!)).setCells blk (off + (b + i) * k) (enc (swr d a b i)[a + i]!))) := by
        have := S1.out.swapped R (a + i) (b + i) (by omega) (by omega)
        rw [swr_step d a b i (by omega) (by omega)] at this
        exact this
      have l1 := S1.out.ld1 R hz P (a + i) (by omega)
      have l2 := S1.out.ld1 R hz P (b + i) (by omega)
      have s1 := S1.out.st1 R hz P (a + i) (by omega) (swr d a b i)[b + i]!
      have s2 := S1.out.st2 R hz P (a + i) (b + i) (by omega) (by omega) (swr d a b i)[b + i]! (swr d a b i)[a + i]!
      have n1 : (enc (swr d a b i)[a + i]!).length = k := R.hk _
      have n2 : (enc (swr d a b i)[b + i]!).length = k := R.hk _
      generalize enc (swr d a b i)[a + i]! = xa at l1 s2 S3 n1
      generalize enc (swr d a b i)[b + i]! = xb at l2 s1 s2 S3 n2
      clear S1
      go_wp2_with fail
      go_big_region_o
      clear l1 l2 s1 s2
      generalize (wr.drew.setCells blk (off + (a + i) * k) xb).setCells blk (off + (b + i) * k) xa = w2 at S3 ⊢
      go_wp2
      exact ⟨⟨i + 1, by omega, by simp, S3⟩, by simp [intOf]; omega⟩
    · obtain rfl : i = n := by omega
      go_wp2
      go_end0
      exact ⟨rfl, S1.out⟩
end
end Go.Proofs.YtooigfkjdemnlaaGreatDoor

namespace Go.Proofs.YtooigfkjdemnlaaGreatDoor
set_option maxRecDepth 100000
open Go.RowKit Go.Lib Go.Sort Xw
section
variable {P : Program} {k : Nat} {α : Type} [Inhabited α]
set_option maxHeartbeats 8000000 in
theorem rotateG (L : LayS P k) (enc : α → List Value) (blk off cap a m b : Nat) (f : Value) (d0 : Array α) (pre X Y post : List α) (w0 w : World) (R : RowK enc k w0 blk off d0) (hs : (pre ++ X ++ Y ++ post).length = d0.size) (S : SWK enc k w0 blk off (pre ++ X ++ Y ++ post).toArray w)
    (ha : a = pre.length) (hm : m = pre.length + X.length) (hb : b = pre.length + X.length + Y.length) (hX : X ≠ []) (hY : Y ≠ []) (hsz : d0.size < 4611686018427387904) :
    Calls P 177 #[.slice (some ⟨blk, off, none⟩) d0.size cap, .int .i64 a, .int .i64 m, .int .i64 b, f] w fun e w' => e = .returned (.tuple #[]) ∧ SWK enc k w0 blk off (pre ++ Y ++ X ++ post).toArray w' := by
  have mixed := L.mixed; have t0 := L.t0; have a0 := L.a0; have z0 := L.z0; have v0 := L.v0; have t3 := L.t3; have a3 := L.a3; have z3 := L.z3; have v3 := L.v3; have t4 := L.t4; have a4 := L.a4; have z4 := L.z4; have v4 := L.v4; have t22 := L.t22; have a22 := L.a22; have z22 := L.z22; have v22 := L.v22; have t25 := L.t25; have a25 := L.a25; have z25 := L.z25; have v25 := L.v25; have aE := L.aE; have zE := L.zE
  have S0 : Aside (SWK enc k w0 blk off (pre ++ X ++ Y ++ post).toArray w) := S
  have HX : Hid (X ≠ [] ∧ Y ≠ []) := Lib.hid ⟨hX, hY⟩
  have HL := Lib.hid hs
  have e1 : IntKind.i64.wrap ((m : Int) - (a : Int)) = (X.length : Int) := by simp at hs; rw [IntKind.wrap_i64]; omega
  have e2 : IntKind.i64.wrap ((b : Int) - (m : Int)) = (Y.length : Int) := by simp at hs; rw [IntKind.wrap_i64]; omega
  have hmz : m < 4611686018427387904 := by simp at hs; omega
  have HM : Hid (m = pre.length + X.length) := Lib.hid hm
  have esw : ∀ args w, (callFunc 185 args).run P w = .ok (.enter 185 args) w := enters_of L.fSwap (by kernel_rfl) rfl
  clear S hX hY hs hm hb ha
  go_enter L.fRot, Tryz.ntmps177
  go_wp2
  go_loopw [10, 11] (fun vi vj wr => ∃ (i j : Nat) (pr : List α) (U V po : List α), vi = .int .i64 i ∧ vj = .int .i64 j ∧ Hid (U.length = i ∧ V.length = j ∧ 0 < i ∧ 0 < j ∧ m = pr.length + i) ∧ Hid (pr ++ V ++ U ++ po = pre ++ Y ++ X ++ post) ∧ Aside (SWK enc k w0 blk off (pr ++ U ++ V ++ po).toArray wr))
    (fun vi vj _ => (intOf vi).toNat + (intOf vj).toNat)
  case atStart => exact ⟨X.length, Y.length, pre, X, Y, post, rfl, rfl, Lib.hid ⟨rfl, rfl, List.length_pos_iff.2 HX.out.1, List.length_pos_iff.2 HX.out.2, HM.out⟩, Lib.hid rfl, S0⟩
  case round =>
    obtain ⟨i, j, pr, U, V, po, rfl, rfl, HUV, HT, S1⟩ := hrel
    have hl : Hid (pr.length + V.length + U.length + po.length = d0.size) := by
      have := HL.out
      have h2 := congrArg List.length HT.out
      simp at this h2
      exact Lib.hid (by omega)
    have r1 : IntKind.i64.wrap ((m : Int) - (i : Int)) = ((m - i : Nat) : Int) := by have := HUV.out; rw [IntKind.wrap_i64]; omega
    by_cases hij : j < i
    · have HC : Hid (Calls P 185 #[.slice (some ⟨blk, off, none⟩) d0.size cap, .int .i64 ((m - i : Nat) : Int), .int .i64 m, .int .i64 j, f] wr fun e w' => e = .returned (.tuple #[]) ∧ SWK enc k w0 blk off ((pr ++ V) ++ U.drop j ++ U.take j ++ po).toArray w') := by
        obtain ⟨hu, hv, hi0, hj0, hm⟩ := HUV.out
        have hl := hl.out
        have e : (pr ++ U ++ V ++ po) = pr ++ U.take j ++ U.drop j ++ V ++ po := by simp
        have hS := S1.out
        rw [e] at hS
        refine (swapRangeG L enc blk off cap (m - i) m j f d0 _ w0 wr R (by simp; omega) hS (by omega) (by omega) hsz).mono ?_
        rintro e w' ⟨he, hw⟩
        refine ⟨he, ?_⟩
        have := swr_list pr (U.take j) (U.drop j) V po (by simp; omega)
        simp only [List.length_take, List.length_drop] at this
        rw [show pr.length + min j U.length + (U.length - j) = m by omega, show min j U.length = j by omega, show pr.length = m - i by omega] at this
        rw [this] at hw
        exact hw
      have HT' : Hid ((pr ++ V) ++ U.take j ++ U.drop j ++ po = pre ++ Y ++ X ++ post) := Lib.hid (by rw [← HT.out]; simp)
      have HUV' : Hid ((U.drop j).length = i - j ∧ (U.take j).length = j ∧ 0 < i - j ∧ 0 < j ∧ m = (pr ++ V).length + (i - j)) := Lib.hid (by
        obtain ⟨hu, hv, hi0, hj0, hm⟩ := HUV.out
        simp; omega)
      have r2 : IntKind.i64.wrap ((i : Int) - (j : Int)) = ((i - j : Nat) : Int) := by have := HUV.out; have := hl.out; rw [IntKind.wrap_i64]; omega
      have hne : ((i : Int) != (j : Int)) = true := by simp; omega
      have hgt : (j : Int) < (i : Int) := by omega
      clear S1 HT
      go_wp2_with (go_at_fn 185; refine (HC.out).mono ?_; rintro e w1 ⟨rfl, S2⟩; have S3 := Lib.hid S2; clear S2)
      refine ⟨⟨i - j, j, pr ++ V, U.drop j, U.take j, po, rfl, rfl, HUV', HT', S3.out⟩, by have := HUV'.out; simp [intOf]; omega⟩
    · by_cases hlt : i < j
      · have HC : Hid (Calls P 185 #[.slice (some ⟨blk, off, none⟩) d0.size cap, .int .i64 ((m - i : Nat) : Int), .int .i64 ((m + j - i : Nat) : Int), .int .i64 i, f] wr fun e w' => e = .returned (.tuple #[]) ∧ SWK enc k w0 blk off (pr ++ V.drop (j - i) ++ V.take (j - i) ++ (U ++ po)).toArray w') := by
          obtain ⟨hu, hv, hi0, hj0, hm⟩ := HUV.out
          have hl := hl.out
          have e : (pr ++ U ++ V ++ po) = pr ++ U ++ V.take (j - i) ++ V.drop (j - i) ++ po := by simp
          have hS := S1.out
          rw [e] at hS
          refine (swapRangeG L enc blk off cap (m - i) (m + j - i) i f d0 _ w0 wr R (by simp; omega) hS (by omega) (by omega) hsz).mono ?_
          rintro e w' ⟨he, hw⟩
          refine ⟨he, ?_⟩
          have := swr_list pr U (V.take (j - i)) (V.drop (j - i)) po (by simp; omega)
          simp only [List.length_take] at this
          rw [show pr.length + U.length + min (j - i) V.length = m + j - i by omega, hu, show pr.length = m - i by omega] at this
          rw [this] at hw
          simpa using hw
        have HT' : Hid (pr ++ V.take (j - i) ++ V.drop (j - i) ++ (U ++ po) = pre ++ Y ++ X ++ post) := Lib.hid (by rw [← HT.out]; simp)
        have HUV' : Hid ((V.drop (j - i)).length = i ∧ (V.take (j - i)).length = j - i ∧ 0 < i ∧ 0 < j - i ∧ m = pr.length + i) := Lib.hid (by
          obtain ⟨hu, hv, hi0, hj0, hm⟩ := HUV.out
          simp; omega)
        have r2 : IntKind.i64.wrap ((j : Int) - (i : Int)) = ((j - i : Nat) : Int) := by have := HUV.out; have := hl.out; rw [IntKind.wrap_i64]; omega
        have r3 : IntKind.i64.wrap ((m : Int) + (j : Int)) = ((m + j : Nat) : Int) := by have := HUV.out; have := hl.out; rw [IntKind.wrap_i64]; omega
        have r4 : IntKind.i64.wrap ((m : Int) + (j : Int) - (i : Int)) = ((m + j - i : Nat) : Int) := by have := HUV.out; have := hl.out; rw [IntKind.wrap_i64]; omega
        have hne : ((i : Int) != (j : Int)) = true := by simp; omega
        have hgt : ¬ (j : Int) < (i : Int) := by omega
        clear S1 HT
        go_wp2_with (go_at_fn 185; refine (HC.out).mono ?_; rintro e w1 ⟨rfl, S2⟩; have S3 := Lib.hid S2; clear S2)
        refine ⟨⟨i, j - i, pr, V.drop (j - i), V.take (j - i), U ++ po, rfl, rfl, HUV', HT', S3.out⟩, by have := HUV'.out; simp [intOf]; omega⟩
      · obtain rfl : i = j := by omega
        have HC : Hid (Calls P 185 #[.slice (some ⟨blk, off, none⟩) d0.size cap, .int .i64 ((m - i : Nat) : Int), .int .i64 m, .int .i64 i, f] wr fun e w' => e = .returned (.tuple #[]) ∧ SWK enc k w0 blk off (pre ++ Y ++ X ++ post).toArray w') := by
          obtain ⟨hu, hv, hi0, hj0, hm⟩ := HUV.out
          have hl := hl.out
          have e : (pr ++ U ++ V ++ po) = pr ++ U ++ [] ++ V ++ po := by simp
          have hS := S1.out
          rw [e] at hS
          refine (swapRangeG L enc blk off cap (m - i) m i f d0 _ w0 wr R (by simp; omega) hS (by omega) (by omega) hsz).mono ?_
          rintro e w' ⟨he, hw⟩
          refine ⟨he, ?_⟩
          have := swr_list pr U [] V po (by omega)
          simp only [List.length_nil, Nat.add_zero] at this
          rw [show pr.length + U.length = m by omega, hu, show pr.length = m - i by omega] at this
          rw [this] at hw
          rw [← HT.out]
          simpa using hw
        clear S1 HT
        go_wp2_with (go_at_fn 185; refine (HC.out).mono ?_; rintro e w1 ⟨rfl, S2⟩; have S3 := Lib.hid S2; clear S2)
        go_end0
        exact ⟨rfl, S3.out⟩
end
end Go.Proofs.YtooigfkjdemnlaaGreatDoor

namespace Go.Proofs.YtooigfkjdemnlaaGreatDoor
open Go.Sort
variable {α : Type} [Inhabited α]

theorem swp_list (l : List α) (i j : Nat) : swp l.toArray i j = ((l.set i (l.getD j default)).set j (l.getD i default)).toArray := by
  unfold swp
  rw [bang_list, bang_list]
  simp
theorem swp_next (P Q : List α) (x y : α) : swp (P ++ x :: y :: Q).toArray P.length (P.length + 1) = (P ++ y :: x :: Q).toArray := by
  rw [swp_list]
  congr 1
  simp [List.getD_eq_getElem?_getD, List.set_append, List.getElem?_append]
theorem swp_prev (P Q : List α) (x y : α) : swp (P ++ x :: y :: Q).toArray (P.length + 1) P.length = (P ++ y :: x :: Q).toArray := by
  rw [swp_list]
  congr 1
  simp [List.getD_eq_getElem?_getD, List.set_append, List.getElem?_append]

def Srtd (lt : α → α → Bool) (l : List α) : Prop := l.Pairwise fun x y => lt y x = false
section
variable {lt : α → α → Bool} (O : SWO lt)
include O
theorem SWO.asym {x y : α} (h : lt x y = true) : lt y x = false := by
  cases h2 : lt y x with
  | false => rfl
  | true => have := O.trans _ _ _ h h2; rw [O.irrefl] at this; cases this
theorem srtd_put {B : List α} {x : α} {r : Nat} (hB : Srtd lt B) (h1 : ∀ y ∈ B.take r, lt x y = false) (h2 : ∀ y ∈ B.drop r, lt y x = false) : Srtd lt (B.take r ++ [x] ++ B.drop r) := by
  have hB' : Srtd lt (B.take r ++ B.drop r) := by rw [List.take_append_drop]; exact hB
  unfold Srtd at *
  rw [List.pairwise_append] at hB' ⊢
  obtain ⟨p1, p2, p3⟩ := hB'
  refine ⟨List.pairwise_append.2 ⟨p1, List.pairwise_singleton _ _, fun u hu v hv => ?_⟩, p2, fun u hu v hv => ?_⟩
  · rw [List.mem_singleton] at hv; subst hv; exact h1 u hu
  · rcases List.mem_append.1 hu with h | h
    · exact p3 u h v hv
    · rw [List.mem_singleton] at h; subst h; exact h2 v hv
theorem perm_put (B : List α) (x : α) (r : Nat) : (B.take r ++ [x] ++ B.drop r).Perm (x :: B) := by
  have : (B.take r ++ [x] ++ B.drop r).Perm (x :: (B.take r ++ B.drop r)) := by
    rw [List.append_assoc]; exact List.perm_middle
  rwa [List.take_append_drop] at this
theorem less_below {B : List α} {x : α} {h t : Nat} (hB : Srtd lt B) (ht : t ≤ h) (hh : h < B.length) (hl : lt (B.getD h default) x = true) : lt (B.getD t default) x = true := by
  rcases Nat.lt_or_ge t h with c | c
  · cases hq : lt (B.getD t default) x with
    | true => rfl
    | false =>
      have := List.pairwise_iff_getElem.1 hB t h (by omega) hh c
      simp only [List.getD_eq_getElem?_getD, List.getElem?_eq_getElem hh, List.getElem?_eq_getElem (show t < B.length by omega), Option.getD_some] at hl hq
      have := O.ntrans _ _ _ this hq
      rw [this] at hl; cases hl
  · obtain rfl : t = h := by omega
    exact hl
theorem more_above {B : List α} {x : α} {h t : Nat} (hB : Srtd lt B) (ht : h ≤ t) (hh : t < B.length) (hl : lt (B.getD h default) x = false) : lt (B.getD t default) x = false := by
  rcases Nat.lt_or_ge h t with c | c
  · have := List.pairwise_iff_getElem.1 hB h t (by omega) hh c
    simp only [List.getD_eq_getElem?_getD, List.getElem?_eq_getElem hh, List.getElem?_eq_getElem (show h < B.length by omega), Option.getD_some] at hl ⊢
    exact O.ntrans _ _ _ this hl
  · obtain rfl : t = h := by omega
    exact hl
theorem less_above {B : List α} {x : α} {h t : Nat} (hB : Srtd lt B) (ht : h ≤ t) (hh : t < B.length) (hl : lt x (B.getD h default) = true) : lt x (B.getD t default) = true := by
  rcases Nat.lt_or_ge h t with c | c
  · cases hq : lt x (B.getD t default) with
    | true => rfl
    | false =>
      have := List.pairwise_iff_getElem.1 hB h t (by omega) hh c
      simp only [List.getD_eq_getElem?_getD, List.getElem?_eq_getElem hh, List.getElem?_eq_getElem (show h < B.length by omega), Option.getD_some] at hl hq
      have := O.ntrans _ _ _ hq this
      rw [this] at hl; cases hl
  · obtain rfl : t = h := by omega
    exact hl
theorem more_below {B : List α} {x : α} {h t : Nat} (hB : Srtd lt B) (ht : t ≤ h) (hh : h < B.length) (hl : lt x (B.getD h default) = false) : lt x (B.getD t default) = false := by
  rcases Nat.lt_or_ge t h with c | c
  · have := List.pairwise_iff_getElem.1 hB t h (by omega) hh c
    simp only [List.getD_eq_getElem?_getD, List.getElem?_eq_getElem hh, List.getElem?_eq_getElem (show t < B.length by omega), Option.getD_some] at hl ⊢
    exact O.ntrans _ _ _ hl this
  · obtain rfl : t = h := by omega
    exact hl

theorem srtd_cut {A1 A2 B1 B2 C1 C2 : List α} (hA : Srtd lt (A1 ++ A2)) (hB : Srtd lt (B1 ++ B2)) (p1 : C1.Perm (A1 ++ B1)) (p2 : C2.Perm (A2 ++ B2)) (s1 : Srtd lt C1) (s2 : Srtd lt C2)
    (h1 : ∀ x ∈ A1, ∀ y ∈ B2, lt y x = false) (h2 : ∀ x ∈ B1, ∀ y ∈ A2, lt y x = false) : Srtd lt (C1 ++ C2) := by
  refine List.pairwise_append.2 ⟨s1, s2, fun u hu v hv => ?_⟩
  have a3 := (List.pairwise_append.1 hA).2.2
  have b3 := (List.pairwise_append.1 hB).2.2
  rcases List.mem_append.1 (p1.mem_iff.1 hu) with h | h <;> rcases List.mem_append.1 (p2.mem_iff.1 hv) with h' | h'
  · exact a3 u h v h'
  · exact h1 u h v h'
  · exact h2 u h v h'
  · exact b3 u h v h'
omit O in
theorem perm_cut {A1 A2 B1 B2 C1 C2 : List α} (p1 : C1.Perm (A1 ++ B1)) (p2 : C2.Perm (A2 ++ B2)) : (C1 ++ C2).Perm ((A1 ++ A2) ++ (B1 ++ B2)) := by
  refine (p1.append p2).trans ?_
  rw [List.append_assoc, List.append_assoc]
  refine List.Perm.append_left _ ?_
  rw [← List.append_assoc, ← List.append_assoc]
  exact List.perm_append_comm.append_right _
theorem cut_of {A B : List α} {s e : Nat} (hA : Srtd lt A) (hB : Srtd lt B) (hs : s ≤ A.length) (he : e ≤ B.length)
    (c1 : s = 0 ∨ e = B.length ∨ lt (B.getD e default) (A.getD (s - 1) default) = false) (c2 : s = A.length ∨ e = 0 ∨ lt (B.getD (e - 1) default) (A.getD s default) = true) :
    (∀ x ∈ A.take s, ∀ y ∈ B.drop e, lt y x = false) ∧ (∀ x ∈ B.take e, ∀ y ∈ A.drop s, lt y x = false) := by
  constructor
  · intro x hx y hy
    obtain ⟨i, hi, rfl⟩ := List.getElem_of_mem hx
    obtain ⟨j, hj, rfl⟩ := List.getElem_of_mem hy
    simp only [List.length_take, List.length_drop] at hi hj
    rcases c1 with c | c | c
    · omega
    · omega
    · have u1 := more_below O hA (t := i) (h := s - 1) (by omega) (by omega) c
      have u2 := more_above O hB (h := e) (t := e + j) (x := A.getD i default) (by omega) (by omega) u1
      simpa [List.getD_eq_getElem?_getD, List.getElem?_eq_getElem (show i < A.length by omega), List.getElem?_eq_getElem (show e + j < B.length by omega)] using u2
  · intro x hx y hy
    obtain ⟨i, hi, rfl⟩ := List.getElem_of_mem hx
    obtain ⟨j, hj, rfl⟩ := List.getElem_of_mem hy
    simp only [List.length_take, List.length_drop] at hi hj
    rcases c2 with c | c | c
    · omega
    · omega
    · have u1 := less_above O hA (h := s) (t := s + j) (by omega) (by omega) c
      have u2 := less_below O hB (t := i) (h := e - 1) (by omega) (by omega) u1
      have u3 := SWO.asym O u2
      simpa [List.getD_eq_getElem?_getD, List.getElem?_eq_getElem (show i < B.length by omega), List.getElem?_eq_getElem (show s + j < A.length by omega)] using u3
end
end Go.Proofs.YtooigfkjdemnlaaGreatDoor

namespace Go.Proofs.YtooigfkjdemnlaaGreatDoor
set_option maxRecDepth 100000
open Go.RowKit Go.Lib Go.Sort Xw
section
variable {P : Program} {k : Nat} {α : Type} [Inhabited α]
theorem get_at (p l q : List α) (t : Nat) (ht : t < l.length) : (p ++ l ++ q).toArray[p.length + t]! = l.getD t default := by
  rw [bang_list]; simp [List.getD_eq_getElem?_getD, List.getElem?_append, ht, show ¬ p.length + t < p.length by omega]

set_option maxHeartbeats 8000000 in
theorem symMerge1 (L : LayS P k) (enc : α → List Value) (cf : α → α → Int) (g : Nat) (cb : Array Value) (blk off cap a m b : Nat) (d0 : Array α) (pre : List α) (x : α) (B post : List α) (w0 w : World) (R : RowK enc k w0 blk off d0)
    (eg : ∀ args w, (callFunc g args).run P w = .ok (.enter g args) w) (hcmp : CmpLays P g cb enc k cf blk off d0.size w0) (O : SWO (ltOf cf))
    (hs : (pre ++ [x] ++ B ++ post).length = d0.size) (S : SWK enc k w0 blk off (pre ++ [x] ++ B ++ post).toArray w) (hB : Srtd (ltOf cf) B)
    (ha : a = pre.length) (hm : m = a + 1) (hb : b = m + B.length) (hsz : d0.size < 4611686018427387904) :
    Calls P 155 #[.slice (some ⟨blk, off, none⟩) d0.size cap, .int .i64 a, .int .i64 m, .int .i64 b, .func (.func g) #[] cb] w fun e w' => e = .returned (.tuple #[]) ∧ ∃ C : List α, C.Perm ([x] ++ B) ∧ Srtd (ltOf cf) C ∧ SWK enc k w0 blk off (pre ++ C ++ post).toArray w' := by
  have mixed := L.mixed; have t0 := L.t0; have a0 := L.a0; have z0 := L.z0; have v0 := L.v0; have t3 := L.t3; have a3 := L.a3; have z3 := L.z3; have v3 := L.v3; have t4 := L.t4; have a4 := L.a4; have z4 := L.z4; have v4 := L.v4; have t22 := L.t22; have a22 := L.a22; have z22 := L.z22; have v22 := L.v22; have t25 := L.t25; have a25 := L.a25; have z25 := L.z25; have v25 := L.v25; have aE := L.aE; have zE := L.zE; have tu := L.tu; have au := L.au; have zu := L.zu; have vu := L.vu
  have S0 : Aside (SWK enc k w0 blk off (pre ++ [x] ++ B ++ post).toArray w) := S
  have HL : Hid (pre.length + 1 + B.length + post.length = d0.size) := Lib.hid (by simp at hs; omega)
  have HA : Hid (a = pre.length ∧ m = a + 1 ∧ b = m + B.length) := Lib.hid ⟨ha, hm, hb⟩
  have hsz2 : b ≤ d0.size := by have := HL.out; omega
  have hmb : m ≤ b := by omega
  have r1 : IntKind.i64.wrap ((m : Int) - (a : Int)) = 1 := by have := HL.out; rw [IntKind.wrap_i64]; omega
  have HC : Aside _ := hcmp
  have gx : Hid ((pre ++ [x] ++ B ++ post).toArray[a]! = x) := Lib.hid (by
    have := get_at pre [x] (B ++ post) 0 (by simp)
    rw [ha]; simpa using this)
  have gB : Hid (∀ t, t < B.length → (pre ++ [x] ++ B ++ post).toArray[m + t]! = B.getD t default) := Lib.hid (fun t ht => by
    have := get_at (pre ++ [x]) B post t ht
    rw [hm, ha]; simpa using this)
  have ham : a < d0.size := by have := HL.out; omega
  clear S hs ha hm hb hcmp
  go_enter L.fSym, Tryz.ntmps155
  go_wp2
  go_loopw [10, 11, 12] (fun vi vj vh wr => ∃ i j : Nat, vi = .int .i64 i ∧ vj = .int .i64 j ∧ m ≤ i ∧ i ≤ j ∧ j ≤ b ∧ Hid ((∀ t, t < i - m → ltOf cf (B.getD t default) x = true) ∧ ∀ t, j - m ≤ t → t < B.length → ltOf cf (B.getD t default) x = false) ∧ Aside (SWK enc k w0 blk off (pre ++ [x] ++ B ++ post).toArray wr))
    (fun vi vj _ _ => (intOf vj).toNat - (intOf vi).toNat)
  case atStart => exact ⟨m, b, rfl, rfl, Nat.le_refl _, hmb, Nat.le_refl _, Lib.hid ⟨fun t ht => by omega, fun t h1 h2 => by have := HA.out; omega⟩, S0⟩
  case round =>
    obtain ⟨i, j, rfl, rfl, h1, h2, h3, HI, S1⟩ := hrel
    by_cases hlt : i < j
    · have hsd : (pre ++ [x] ++ B ++ post).toArray.size = d0.size := by have := HL.out; simp; omega
      have l1 := S1.out.ld R hsd P ((i + j) / 2) (by omega)
      have l2 := S1.out.ld R hsd P a (by omega)
      obtain ⟨y, hy⟩ : ∃ y, (pre ++ [x] ++ B ++ post).toArray[(i + j) / 2]! = y := ⟨_, rfl⟩
      have hyB : Hid (B.getD ((i + j) / 2 - m) default = y) := Lib.hid (by
        rw [← hy, ← gB.out ((i + j) / 2 - m) (by have := HA.out; omega), show m + ((i + j) / 2 - m) = (i + j) / 2 by omega])
      have hcg := fun n os => S1.out.cmp HC.out hsd y x n os
      rw [hy] at l1
      rw [gx.out] at l2
      have hd2 : (i + j) / 2 < d0.size := by omega
      clear hy hsd
      have bz : ((i : Int) + (j : Int)) / 2 < (d0.size : Int) := by omega
      have p0 : (0 : Int) ≤ ((i : Int) + (j : Int)) / 2 := by omega
      have e0 : (((i : Int) + (j : Int)) / 2).toNat = (i + j) / 2 := by omega
      have HR : Hid (m ≤ i ∧ i ≤ j ∧ j ≤ b) := Lib.hid ⟨h1, h2, h3⟩
      by_cases hlv : cf y x < 0
      · have HI2 : Hid ((∀ t, t < (i + j) / 2 + 1 - m → ltOf cf (B.getD t default) x = true) ∧ ∀ t, j - m ≤ t → t < B.length → ltOf cf (B.getD t default) x = false) :=
          Lib.hid ⟨fun t ht => less_below O hB (h := (i + j) / 2 - m) (by omega) (by have := HA.out; omega) (by rw [hyB.out]; exact decide_eq_true hlv), HI.out.2⟩
        go_wp2_with fail
        go_quiet_grown (first | (go_at_fn g; refine Calls.grown_of (hcg _ _)))
        go_wp2
        exact ⟨⟨(i + j) / 2 + 1, j, by simp, rfl, by omega, by omega, h3, HI2, S1.out.grown nq osq⟩, by simp [intOf]; omega⟩
      · have HI2 : Hid ((∀ t, t < i - m → ltOf cf (B.getD t default) x = true) ∧ ∀ t, (i + j) / 2 - m ≤ t → t < B.length → ltOf cf (B.getD t default) x = false) :=
          Lib.hid ⟨HI.out.1, fun t ht htl => more_above O hB (h := (i + j) / 2 - m) ht htl (by rw [hyB.out]; exact decide_eq_false hlv)⟩
        go_wp2_with fail
        go_quiet_grown (first | (go_at_fn g; refine Calls.grown_of (hcg _ _)))
        go_wp2
        exact ⟨⟨i, (i + j) / 2, rfl, by simp, h1, by omega, by omega, HI2, S1.out.grown nq osq⟩, by simp [intOf]; omega⟩
    · obtain rfl : i = j := by omega
      obtain ⟨q, hq⟩ : ∃ q, i = m + q := ⟨i - m, by omega⟩
      have HQ : Hid (i = m + q ∧ q ≤ B.length ∧ m = a + 1 ∧ b = m + B.length ∧ a = pre.length) := Lib.hid (by have := HA.out; omega)
      have r2 : IntKind.i64.wrap ((i : Int) - 1) = ((a + q : Nat) : Int) := by have := HQ.out; rw [IntKind.wrap_i64]; omega
      clear hq hlt
      go_wp2
      go_loopw [13] (fun vk wr => ∃ t : Nat, vk = .int .i64 ((a + t : Nat) : Int) ∧ t ≤ q ∧ Aside (SWK enc k w0 blk off (pre ++ (B.take t ++ [x] ++ B.drop t) ++ post).toArray wr)) (fun vk _ => a + q - (intOf vk).toNat)
      case atStart => exact ⟨0, by simp, by omega, by have := S1.out; show SWK enc k w0 blk off _ wr; simpa using this⟩
      case round =>
        obtain ⟨t, rfl, ht, S2⟩ := hrel
        by_cases htq : t < q
        · have hBt : t < B.length := by have := HQ.out; omega
          obtain ⟨y, hy, hy2⟩ : ∃ y, B.drop t = y :: B.drop (t + 1) ∧ B.take (t + 1) = B.take t ++ [y] := ⟨_, List.drop_eq_getElem_cons hBt, List.take_succ_eq_append_getElem hBt⟩
          have hl1 : (pre ++ (B.take t ++ [x] ++ B.drop t) ++ post) = (pre ++ B.take t) ++ x :: y :: (B.drop (t + 1) ++ post) := by
            rw [hy]; simp
          have hl2 : (pre ++ (B.take (t + 1) ++ [x] ++ B.drop (t + 1)) ++ post) = (pre ++ B.take t) ++ y :: x :: (B.drop (t + 1) ++ post) := by
            rw [hy2]; simp
          have hpl : (pre ++ B.take t).length = a + t := by have := HQ.out; simp; omega
          obtain ⟨dk, hdk⟩ : ∃ dk, dk = (pre ++ (B.take t ++ [x] ++ B.drop t) ++ post).toArray := ⟨_, rfl⟩
          have hsd : dk.size = d0.size := by rw [hdk]; have := HL.out; simp; omega
          have hsw : swp dk (a + t) (a + t + 1) = (pre ++ (B.take (t + 1) ++ [x] ++ B.drop (t + 1)) ++ post).toArray := by
            rw [hdk, hl1, hl2, ← hpl]; exact swp_next _ _ _ _
          have S2' : SWK enc k w0 blk off dk wr := by rw [hdk]; exact S2.out
          have hat : a + t + 1 < d0.size := by have := HQ.out; have := HL.out; omega
          have S3 : Aside (SWK enc k w0 blk off (pre ++ (B.take (t + 1) ++ [x] ++ B.drop (t + 1)) ++ post).toArray ((wr.drew.setCells blk (off + (a + t) * k) (enc dk[a + t + 1]!)).setCells blk (off + (a + t + 1) * k) (enc dk[a + t]!))) := by
            have := S2'.swapped R (a + t) (a + t + 1) (by omega) (by omega)
            rw [hsw] at this
            exact this
          have l1 := S2'.ld1 R hsd P (a + t) (by omega)
          have l2 := S2'.ld1 R hsd P (a + t + 1) (by omega)
          have s1 := S2'.st1 R hsd P (a + t) (by omega) dk[a + t + 1]!
          have s2 := S2'.st2 R hsd P (a + t) (a + t + 1) (by omega) (by omega) dk[a + t + 1]! dk[a + t]!
          have n1 : (enc dk[a + t]!).length = k := R.hk _
          have n2 : (enc dk[a + t + 1]!).length = k := R.hk _
          generalize enc dk[a + t]! = xa at l1 s2 S3 n1
          generalize enc dk[a + t + 1]! = xb at l2 s1 s2 S3 n2
          obtain ⟨c, hc⟩ : ∃ c, c = a + t := ⟨_, rfl⟩
          rw [← hc] at l1 l2 s1 s2 S3 hat
          have HCC := Lib.hid hc
          have ncz : ((a + t : Nat) : Int) = (c : Int) := by rw [hc]
          have ltq : (c : Int) < ((a + q : Nat) : Int) := by omega
          have e1 : ((c : Int) + 1).toNat = c + 1 := by omega
          have p1 : (0 : Int) ≤ (c : Int) + 1 := by omega
          have b1 : (c : Int) + 1 < (d0.size : Int) := by omega
          have b2 : (c : Int) < (d0.size : Int) := by omega
          have rc : IntKind.i64.wrap ((c : Int) + 1) = (c : Int) + 1 := by rw [IntKind.wrap_i64]; omega
          rw [ncz]
          clear S1 S2 S2' hl1 hl2 hpl hdk hsd hsw hy hy2 hc ncz hBt
          go_wp2_with fail
          go_big_region_o
          clear l1 l2 s1 s2
          generalize (wr.drew.setCells blk (off + c * k) xb).setCells blk (off + (c + 1) * k) xa = w2 at S3 ⊢
          go_wp2
          exact ⟨⟨t + 1, by rw [HCC.out]; simp; omega, by omega, S3⟩, by have := HCC.out; simp [intOf]; omega⟩
        · obtain rfl : t = q := by omega
          go_wp2
          refine bodyPost_ret (results_none rfl _ _ _) rfl ?_
          refine ⟨rfl, B.take t ++ [x] ++ B.drop t, perm_put O B x t, srtd_put O hB ?_ ?_, S2.out⟩
          · intro y hy
            obtain ⟨i', hi', rfl⟩ := List.getElem_of_mem hy
            simp only [List.length_take] at hi'
            have := HI.out.1 i' (by have := HQ.out; omega)
            have := SWO.asym O this
            simpa [List.getD_eq_getElem?_getD, List.getElem?_eq_getElem (show i' < B.length by omega)] using this
          · intro y hy
            obtain ⟨i', hi', rfl⟩ := List.getElem_of_mem hy
            simp only [List.length_drop] at hi'
            have := HI.out.2 (t + i') (by have := HQ.out; omega) (by omega)
            simpa [List.getD_eq_getElem?_getD, List.getElem?_eq_getElem (show t + i' < B.length by omega)] using this
end
end Go.Proofs.YtooigfkjdemnlaaGreatDoor

namespace Go.Proofs.YtooigfkjdemnlaaGreatDoor
open Go.Sort
variable {α : Type} {lt : α → α → Bool} {bs : Nat}
inductive Runs (lt : α → α → Bool) (bs : Nat) : List α → Prop
  | last (l : List α) : l.length ≤ bs → Srtd lt l → Runs lt bs l
  | more (X r : List α) : X.length = bs → Srtd lt X → Runs lt bs r → Runs lt bs (X ++ r)
inductive Full (lt : α → α → Bool) (bs : Nat) : List α → Prop
  | nil : Full lt bs []
  | snoc (l X : List α) : Full lt bs l → X.length = bs → Srtd lt X → Full lt bs (l ++ X)
theorem Full.runs {l r : List α} (h : Full lt bs l) (hr : Runs lt bs r) : Runs lt bs (l ++ r) := by
  induction h generalizing r with
  | nil => exact hr
  | snoc l X _ h1 h2 ih => rw [List.append_assoc]; exact ih (Runs.more X r h1 h2 hr)
theorem Runs.small {l : List α} (h : Runs lt bs l) (hl : l.length ≤ bs) : Srtd lt l := by
  cases h with
  | last _ _ h => exact h
  | more X r h1 h2 h3 =>
    have : r = [] := by rw [List.length_append] at hl; exact List.length_eq_zero_iff.1 (by omega)
    subst this
    simpa using h2
theorem Runs.take {l : List α} (h : Runs lt bs l) (hl : bs < l.length) : ∃ X r, l = X ++ r ∧ X.length = bs ∧ Srtd lt X ∧ Runs lt bs r := by
  cases h with
  | last _ h _ => omega
  | more X r h1 h2 h3 => exact ⟨X, r, rfl, h1, h2, h3⟩
theorem Runs.two {l : List α} (h : Runs lt bs l) (h0 : 0 < bs) (hl : 2 * bs ≤ l.length) : ∃ X Y r, l = X ++ (Y ++ r) ∧ X.length = bs ∧ Y.length = bs ∧ Srtd lt X ∧ Srtd lt Y ∧ Runs lt bs r := by
  obtain ⟨X, r, rfl, h1, h2, h3⟩ := h.take (by omega)
  rw [List.length_append] at hl
  rcases Nat.lt_or_ge bs r.length with c | c
  · obtain ⟨Y, r', rfl, h4, h5, h6⟩ := h3.take c
    exact ⟨X, Y, r', rfl, h1, h4, h2, h5, h6⟩
  · exact ⟨X, r, [], by simp, h1, by omega, h2, h3.small c, Runs.last _ (by simp) List.Pairwise.nil⟩
end Go.Proofs.YtooigfkjdemnlaaGreatDoor
