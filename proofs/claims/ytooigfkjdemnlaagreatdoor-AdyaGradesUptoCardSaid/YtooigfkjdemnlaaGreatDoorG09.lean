/- Own texts of this claim, joined in build order: S4. -/
import Derived.Test.YtooigfkjdemnlaaGreatDoorG08
set_option linter.all false
namespace Go.Proofs.YtooigfkjdemnlaaGreatDoor
set_option maxRecDepth 100000
open Go.RowKit Go.Lib Go.Sort Xw
section
variable {P : Program} {k : Nat} {α : Type} [Inhabited α]
set_option maxHeartbeats 8000000 in
theorem symMerge2 (L : LayS P k) (enc : α → List Value) (cf : α → α → Int) (g : Nat) (cb : Array Value) (blk off cap a m b : Nat) (d0 : Array α) (pre A : List α) (y : α) (post : List α) (w0 w : World) (R : RowK enc k w0 blk off d0)
    (eg : ∀ args w, (callFunc g args).run P w = .ok (.enter g args) w) (hcmp : CmpLays P g cb enc k cf blk off d0.size w0) (O : SWO (ltOf cf))
    (hs : (pre ++ A ++ [y] ++ post).length = d0.size) (S : SWK enc k w0 blk off (pre ++ A ++ [y] ++ post).toArray w) (hA : Srtd (ltOf cf) A)
    (ha : a = pre.length) (hm : m = a + A.length) (hb : b = m + 1) (hn1 : A.length ≠ 1) (hsz : d0.size < 4611686018427387904) :
    Calls P 155 #[.slice (some ⟨blk, off, none⟩) d0.size cap, .int .i64 a, .int .i64 m, .int .i64 b, .func (.func g) #[] cb] w fun e w' => e = .returned (.tuple #[]) ∧ ∃ C : List α, C.Perm (A ++ [y]) ∧ Srtd (ltOf cf) C ∧ SWK enc k w0 blk off (pre ++ C ++ post).toArray w' := by
  have mixed := L.mixed; have t0 := L.t0; have a0 := L.a0; have z0 := L.z0; have v0 := L.v0; have t3 := L.t3; have a3 := L.a3; have z3 := L.z3; have v3 := L.v3; have t4 := L.t4; have a4 := L.a4; have z4 := L.z4; have v4 := L.v4; have t22 := L.t22; have a22 := L.a22; have z22 := L.z22; have v22 := L.v22; have t25 := L.t25; have a25 := L.a25; have z25 := L.z25; have v25 := L.v25; have aE := L.aE; have zE := L.zE; have tu := L.tu; have au := L.au; have zu := L.zu; have vu := L.vu
  have S0 : Aside (SWK enc k w0 blk off (pre ++ A ++ [y] ++ post).toArray w) := S
  have HL : Hid (pre.length + 1 + A.length + post.length = d0.size) := Lib.hid (by simp at hs; omega)
  have HA : Hid (a = pre.length ∧ m = a + A.length ∧ b = m + 1) := Lib.hid ⟨ha, hm, hb⟩
  have hsz2 : m < d0.size := by have := HL.out; omega
  have hmb : a ≤ m := by omega
  obtain ⟨n, hn⟩ : ∃ n, A.length = n := ⟨_, rfl⟩
  have r1 : IntKind.i64.wrap ((m : Int) - (a : Int)) = (n : Int) := by have := HL.out; rw [IntKind.wrap_i64]; omega
  have hnn : ((n : Int) == 1) = false := by simp; omega
  have r0 : IntKind.i64.wrap ((b : Int) - (m : Int)) = 1 := by have := HL.out; rw [IntKind.wrap_i64]; omega
  have HC : Aside _ := hcmp
  have gy : Hid ((pre ++ A ++ [y] ++ post).toArray[m]! = y) := Lib.hid (by
    have := get_at (pre ++ A) [y] post 0 (by simp)
    rw [hm, ha]; simpa using this)
  have gA : Hid (∀ t, t < A.length → (pre ++ A ++ [y] ++ post).toArray[a + t]! = A.getD t default) := Lib.hid (fun t ht => by
    have := get_at pre A ([y] ++ post) t ht
    rw [ha]; simpa using this)
  clear S hs ha hm hb hcmp hn1 hn
  go_enter L.fSym, Tryz.ntmps155
  go_wp2
  go_loopw [14, 15, 16] (fun vi vj vh wr => ∃ i j : Nat, vi = .int .i64 i ∧ vj = .int .i64 j ∧ a ≤ i ∧ i ≤ j ∧ j ≤ m ∧ Hid ((∀ t, t < i - a → ltOf cf y (A.getD t default) = false) ∧ ∀ t, j - a ≤ t → t < A.length → ltOf cf y (A.getD t default) = true) ∧ Aside (SWK enc k w0 blk off (pre ++ A ++ [y] ++ post).toArray wr))
    (fun vi vj _ _ => (intOf vj).toNat - (intOf vi).toNat)
  case atStart => exact ⟨a, m, rfl, rfl, Nat.le_refl _, hmb, Nat.le_refl _, Lib.hid ⟨fun t ht => by omega, fun t h1 h2 => by have := HA.out; omega⟩, S0⟩
  case round =>
    obtain ⟨i, j, rfl, rfl, h1, h2, h3, HI, S1⟩ := hrel
    by_cases hlt : i < j
    · have hsd : (pre ++ A ++ [y] ++ post).toArray.size = d0.size := by have := HL.out; simp; omega
      have l1 := S1.out.ld R hsd P ((i + j) / 2) (by omega)
      have l2 := S1.out.ld R hsd P m (by omega)
      obtain ⟨x, hx⟩ : ∃ x, (pre ++ A ++ [y] ++ post).toArray[(i + j) / 2]! = x := ⟨_, rfl⟩
      have hxA : Hid (A.getD ((i + j) / 2 - a) default = x) := Lib.hid (by
        rw [← hx, ← gA.out ((i + j) / 2 - a) (by have := HA.out; omega), show a + ((i + j) / 2 - a) = (i + j) / 2 by omega])
      have hcg := fun n os => S1.out.cmp HC.out hsd y x n os
      rw [hx] at l1
      rw [gy.out] at l2
      have hd2 : (i + j) / 2 < d0.size := by omega
      clear hx hsd
      have bz : ((i : Int) + (j : Int)) / 2 < (d0.size : Int) := by omega
      have p0 : (0 : Int) ≤ ((i : Int) + (j : Int)) / 2 := by omega
      have e0 : (((i : Int) + (j : Int)) / 2).toNat = (i + j) / 2 := by omega
      have HR : Hid (a ≤ i ∧ i ≤ j ∧ j ≤ m) := Lib.hid ⟨h1, h2, h3⟩
      by_cases hlv : cf y x < 0
      · have HI2 : Hid ((∀ t, t < i - a → ltOf cf y (A.getD t default) = false) ∧ ∀ t, (i + j) / 2 - a ≤ t → t < A.length → ltOf cf y (A.getD t default) = true) :=
          Lib.hid ⟨HI.out.1, fun t ht htl => less_above O hA (h := (i + j) / 2 - a) ht htl (by rw [hxA.out]; exact decide_eq_true hlv)⟩
        have hdv : decide (cf y x < 0) = true := decide_eq_true hlv
        go_wp2_with fail
        go_quiet_grown (first | (go_at_fn g; refine Calls.grown_of (hcg _ _)))
        go_wp2
        exact ⟨⟨i, (i + j) / 2, rfl, by simp, h1, by omega, by omega, HI2, S1.out.grown nq osq⟩, by simp [intOf]; omega⟩
      · have HI2 : Hid ((∀ t, t < (i + j) / 2 + 1 - a → ltOf cf y (A.getD t default) = false) ∧ ∀ t, j - a ≤ t → t < A.length → ltOf cf y (A.getD t default) = true) :=
          Lib.hid ⟨fun t ht => more_below O hA (h := (i + j) / 2 - a) (by omega) (by have := HA.out; omega) (by rw [hxA.out]; exact decide_eq_false hlv), HI.out.2⟩
        have hdv : decide (cf y x < 0) = false := decide_eq_false hlv
        go_wp2_with fail
        go_quiet_grown (first | (go_at_fn g; refine Calls.grown_of (hcg _ _)))
        go_wp2
        exact ⟨⟨(i + j) / 2 + 1, j, by simp, rfl, by omega, by omega, h3, HI2, S1.out.grown nq osq⟩, by simp [intOf]; omega⟩
    · obtain rfl : i = j := by omega
      obtain ⟨q, hq⟩ : ∃ q, i = a + q := ⟨i - a, by omega⟩
      have HQ : Hid (i = a + q ∧ q ≤ A.length ∧ b = m + 1 ∧ m = a + A.length ∧ a = pre.length) := Lib.hid (by have := HA.out; omega)
      clear hq hlt
      go_wp2
      go_loopw [17] (fun vk wr => ∃ c t : Nat, vk = .int .i64 (c : Int) ∧ i ≤ c ∧ c ≤ m ∧ Hid (c = a + t ∧ q ≤ t ∧ t ≤ A.length) ∧ Aside (SWK enc k w0 blk off (pre ++ (A.take t ++ [y] ++ A.drop t) ++ post).toArray wr)) (fun vk _ => (intOf vk).toNat)
      case atStart => exact ⟨m, A.length, rfl, h3, Nat.le_refl _, Lib.hid (by have := HQ.out; omega), by have := S1.out; show SWK enc k w0 blk off _ wr; simpa using this⟩
      case round =>
        obtain ⟨c, t, rfl, hic, hcm, HT, S2⟩ := hrel
        by_cases htq : i < c
        · obtain ⟨c, rfl⟩ : ∃ c', c = c' + 1 := ⟨c - 1, by omega⟩
          obtain ⟨t, rfl⟩ : ∃ t', t = t' + 1 := ⟨t - 1, by have := HT.out; have := HQ.out; omega⟩
          have hAt : t < A.length := by have := HT.out; omega
          obtain ⟨x, hx, hx2⟩ : ∃ x, A.drop t = x :: A.drop (t + 1) ∧ A.take (t + 1) = A.take t ++ [x] := ⟨_, List.drop_eq_getElem_cons hAt, List.take_succ_eq_append_getElem hAt⟩
          have hl1 : (pre ++ (A.take (t + 1) ++ [y] ++ A.drop (t + 1)) ++ post) = (pre ++ A.take t) ++ x :: y :: (A.drop (t + 1) ++ post) := by
            rw [hx2]; simp
          have hl2 : (pre ++ (A.take t ++ [y] ++ A.drop t) ++ post) = (pre ++ A.take t) ++ y :: x :: (A.drop (t + 1) ++ post) := by
            rw [hx]; simp
          have hpl : (pre ++ A.take t).length = c := by have := HQ.out; have := HT.out; simp; omega
          obtain ⟨dk, hdk⟩ : ∃ dk, dk = (pre ++ (A.take (t + 1) ++ [y] ++ A.drop (t + 1)) ++ post).toArray := ⟨_, rfl⟩
          have hsd : dk.size = d0.size := by rw [hdk]; have := HL.out; simp; omega
          have hsw : swp dk (c + 1) c = (pre ++ (A.take t ++ [y] ++ A.drop t) ++ post).toArray := by
            rw [hdk, hl1, hl2, ← hpl]; exact swp_prev _ _ _ _
          have S2' : SWK enc k w0 blk off dk wr := by rw [hdk]; exact S2.out
          have hat : c + 1 < d0.size := by have := HQ.out; have := HL.out; omega
          have S3 : Aside (SWK enc k w0 blk off (pre ++ (A.take t ++ [y] ++ A.drop t) ++ post).toArray ((wr.drew.setCells blk (off + (c + 1) * k) (enc dk[c]!)).setCells blk (off + c * k) (enc dk[c + 1]!))) := by
            have := S2'.swapped R (c + 1) c (by omega) (by omega)
            rw [hsw] at this
            exact this
          have l1 := S2'.ld1 R hsd P c (by omega)
          have l2 := S2'.ld1 R hsd P (c + 1) (by omega)
          have s1 := S2'.st1 R hsd P (c + 1) (by omega) dk[c]!
          have s2 := S2'.st2 R hsd P (c + 1) c (by omega) (by omega) dk[c]! dk[c + 1]!
          have n1 : (enc dk[c]!).length = k := R.hk _
          have n2 : (enc dk[c + 1]!).length = k := R.hk _
          generalize enc dk[c]! = xa at l1 s1 s2 S3 n1
          generalize enc dk[c + 1]! = xb at l2 s2 S3 n2
          have HT2 : Hid (c = a + t ∧ q ≤ t ∧ t ≤ A.length) := Lib.hid (by have := HT.out; have := HQ.out; omega)
          have e1 : ((c : Int) + 1).toNat = c + 1 := by omega
          have p1 : (0 : Int) ≤ (c : Int) + 1 := by omega
          have b1 : (c : Int) + 1 < (d0.size : Int) := by omega
          have b2 : (c : Int) < (d0.size : Int) := by omega
          have rc : IntKind.i64.wrap (c : Int) = (c : Int) := by rw [IntKind.wrap_i64]; omega
          have hci : (i : Int) < (c : Int) + 1 := by omega
          clear S1 S2 S2' hl1 hl2 hpl hdk hsd hsw hx hx2 hAt
          go_wp2_with fail
          go_big_region_o
          clear l1 l2 s1 s2
          generalize (wr.drew.setCells blk (off + (c + 1) * k) xa).setCells blk (off + c * k) xb = w2 at S3 ⊢
          go_wp2
          exact ⟨⟨c, t, by simp, by omega, by omega, HT2, S3⟩, by simp [intOf]⟩
        · obtain rfl : c = i := by omega
          obtain rfl : t = q := by have := HT.out; have := HQ.out; omega
          go_wp2
          refine bodyPost_ret (results_none rfl _ _ _) rfl ?_
          refine ⟨rfl, A.take t ++ [y] ++ A.drop t, (perm_put O A y t).trans (by simpa using (List.perm_append_comm (l₁ := [y]) (l₂ := A))), srtd_put O hA ?_ ?_, S2.out⟩
          · intro x hx
            obtain ⟨i', hi', rfl⟩ := List.getElem_of_mem hx
            simp only [List.length_take] at hi'
            have := HI.out.1 i' (by have := HQ.out; omega)
            simpa [List.getD_eq_getElem?_getD, List.getElem?_eq_getElem (show i' < A.length by omega)] using this
          · intro x hx
            obtain ⟨i', hi', rfl⟩ := List.getElem_of_mem hx
            simp only [List.length_drop] at hi'
            have := HI.out.2 (t + i') (by have := HQ.out; omega) (by omega)
            have := SWO.asym O this
            simpa [List.getD_eq_getElem?_getD, List.getElem?_eq_getElem (show t + i' < A.length by omega)] using this
end
end Go.Proofs.YtooigfkjdemnlaaGreatDoor
