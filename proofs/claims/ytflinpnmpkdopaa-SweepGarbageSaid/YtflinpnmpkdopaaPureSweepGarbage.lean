/- SweepGarbage answers true: the verdict on every two words and floor is the document's. No condition. -/
import Derived.Test.YtflinpnmpkdopaaPSweepGarbagex1
namespace Go.Proofs.Ytflinpnmpkdopaa.Pure
open Go.RowKit Go.Proofs.Ytflinpnmpkdopaa.PSweepGarbage Go.Proofs.YtflinpnmpkdopaaW.PrintWords Go.Proofs.YtflinpnmpkdopaaW.PrintLast

theorem split_some (x : Int) : ∃ k n, strataref01_Split.f x = some (k, n) := by
  unfold strataref01_Split.f
  repeat' split
  all_goals exact ⟨_, _, rfl⟩

theorem wf_u64 {x : Int} (h : (Lit.int .u64 x).wf = true) : 0 ≤ x ∧ x < 18446744073709551616 := by
  simp [Lit.wf, IntKind.min, IntKind.max, IntKind.bits, IntKind.signed] at h
  omega

theorem wrap_u64 (n : Int) (h0 : 0 ≤ n) (h1 : n < 18446744073709551616) : IntKind.u64.wrap n = n := by
  simp [IntKind.wrap, IntKind.bits, IntKind.signed]; omega

theorem ofInt_nat (n : Nat) (h : n < 18446744073709551616) : (BitVec.ofInt 64 (n : Int)).toNat = n := by
  rw [BitVec.ofInt_natCast, BitVec.toNat_ofNat]; exact Nat.mod_eq_of_lt h

theorem land_pow (n i : Nat) : n &&& 2 ^ i = if n.testBit i = true then 2 ^ i else 0 := by
  apply Nat.eq_of_testBit_eq
  intro j
  rw [Nat.testBit_and, Nat.testBit_two_pow]
  by_cases h : i = j
  · subst h
    cases c : n.testBit i
    · simp
    · simp
  · rw [decide_eq_false h, Bool.and_false]
    split
    · rw [Nat.testBit_two_pow, decide_eq_false h]
    · simp

theorem and_pow (n : Nat) (h : n < 18446744073709551616) (i : Nat) (hi : i < 64) :
    Go.bits .and .u64 (n : Int) ((2 ^ i : Nat) : Int) = if n / 2 ^ i % 2 = 1 then ((2 ^ i : Nat) : Int) else 0 := by
  have hp : 2 ^ i < 18446744073709551616 := (Nat.pow_lt_pow_right (by decide) hi : 2 ^ i < 2 ^ 64)
  have e : Go.bits .and .u64 (n : Int) ((2 ^ i : Nat) : Int) = IntKind.u64.wrap (((BitVec.ofInt 64 (n : Int) &&& BitVec.ofInt 64 ((2 ^ i : Nat) : Int)).toNat : Nat) : Int) := rfl
  rw [e, BitVec.toNat_and, ofInt_nat n h, ofInt_nat _ hp, land_pow, Nat.testBit_eq_decide_div_mod_eq]
  by_cases c : n / 2 ^ i % 2 = 1
  · rw [if_pos c, if_pos (decide_eq_true c)]; exact wrap_u64 _ (Int.natCast_nonneg _) (Int.ofNat_lt.2 hp)
  · rw [if_neg c, if_neg (by rw [decide_eq_false c]; decide)]; exact wrap_u64 _ (by omega) (by omega)

theorem andNot_63 (n : Nat) (h : n < 18446744073709551616) : Go.bits .andNot .u64 (n : Int) 9223372036854775808 = ((n % 9223372036854775808 : Nat) : Int) := by
  have e : Go.bits .andNot .u64 (n : Int) 9223372036854775808 = IntKind.u64.wrap (((BitVec.ofInt 64 (n : Int) &&& ~~~ (BitVec.ofInt 64 9223372036854775808)).toNat : Nat) : Int) := rfl
  have k : (~~~ (BitVec.ofInt 64 9223372036854775808)).toNat = 2 ^ 63 - 1 := by decide +kernel
  rw [e, BitVec.toNat_and, ofInt_nat n h, k, Nat.and_two_pow_sub_one_eq_mod]
  exact wrap_u64 _ (by omega) (by omega)

theorem split_same (x : Int) (h : (Lit.int .u64 x).wf = true) : bits_Split.f x = strataref01_Split.f x := by
  obtain ⟨h0, h1⟩ := wf_u64 h
  obtain ⟨n, rfl⟩ := Int.eq_ofNat_of_zero_le h0
  have hn : n < 18446744073709551616 := by omega
  have a := and_pow n hn 62 (by decide)
  have b := and_pow n hn 63 (by decide)
  have c := andNot_63 n hn
  have a' : Go.bits .and .u64 (n : Int) 4611686018427387904 = if n / 2 ^ 62 % 2 = 1 then ((2 ^ 62 : Nat) : Int) else 0 := a
  have b' : Go.bits .and .u64 (n : Int) 9223372036854775808 = if n / 2 ^ 63 % 2 = 1 then ((2 ^ 63 : Nat) : Int) else 0 := b
  unfold bits_Split.f strataref01_Split.f
  rw [a', b', c]
  clear a b c a' b' h
  by_cases e1 : n < 4611686018427387904
  · have i1 : n / 2 ^ 62 % 2 = 0 := by omega
    have i2 : n / 2 ^ 63 % 2 = 0 := by omega
    rw [if_neg (by omega), if_neg (c := n / 2 ^ 62 % 2 = 1) (by omega), if_neg (c := n / 2 ^ 63 % 2 = 1) (by omega), if_pos rfl, if_pos rfl, if_pos (by omega)]
  by_cases e2 : n = 9223372036854775807
  · subst e2; rfl
  by_cases e3 : n < 9223372036854775808
  · have i1 : n / 2 ^ 62 % 2 = 1 := by omega
    rw [if_neg (by omega), if_pos (c := n / 2 ^ 62 % 2 = 1) i1, if_neg (by decide), if_neg (by omega), if_neg (by omega), if_neg (by omega)]
  have w : IntKind.u64.wrap ((n : Int) - 9223372036854775808) = (n : Int) - 9223372036854775808 := wrap_u64 _ (by omega) (by omega)
  rw [w]
  by_cases e4 : n < 13835058055282163712
  · have i1 : n / 2 ^ 62 % 2 = 0 := by omega
    have i2 : n / 2 ^ 63 % 2 = 1 := by omega
    rw [if_neg (by omega), if_neg (c := n / 2 ^ 62 % 2 = 1) (by omega), if_pos rfl, if_pos (c := n / 2 ^ 63 % 2 = 1) i2, if_neg (by decide), if_neg (by omega), if_neg (by omega), if_pos (by omega), if_pos (by omega)]
    have : ((n % 9223372036854775808 : Nat) : Int) = (n : Int) - 9223372036854775808 := by omega
    rw [this]
  · have i1 : n / 2 ^ 62 % 2 = 1 := by omega
    rw [if_neg (by omega), if_pos (c := n / 2 ^ 62 % 2 = 1) i1, if_neg (by decide), if_neg (by omega), if_neg (by omega), if_pos (by omega), if_neg (by omega)]

theorem SweepGarbage : stratalaw08_SweepGarbage.Pure := by
  intro b e f hb he _
  have split : ∀ x : Int, (Lit.int .u64 x).wf = true → bits_Split.f x = strataref01_Split.f x := by
    intro x hx
    exact split_same x hx
  obtain ⟨k, n, hs⟩ := split_some b
  obtain ⟨k2, n2, hs2⟩ := split_some e
  unfold stratalaw08_SweepGarbage.f sweep_Garbage.f strataref08_Garbage.f
  rw [split b hb, split e he, hs, hs2]
  have hi : bits_Split.f 9223372036854775807 = some (3, 0) := by unfold bits_Split.f; rfl
  rw [hi]
  simp only [Option.bind_some]
  by_cases h3 : k = 3
  · simp [h3]
  · by_cases h1 : k = 1
    · by_cases h1' : k2 = 1 <;> simp [h1, h1']
    · simp [h3, h1]

end Go.Proofs.Ytflinpnmpkdopaa.Pure
