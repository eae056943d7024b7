-- PRINTED BY print.sh 35421559b90ae4d0a3588c463048766b98c2df88dd9212a6774a882060cdf62d: not written by this session
import Derived.Test.YtflinpnmpkdopaaPVersionFatesx0
namespace Go.Proofs.Ytflinpnmpkdopaa.PVersionFates
open Go.RowKit Go.Proofs.YtflinpnmpkdopaaW.PrintWords Go.Proofs.YtflinpnmpkdopaaW.PrintLast Go.Proofs.YtflinpnmpkdopaaW.PrintMore
attribute [local go_sem] max2_int min2_int max_two min_two max_three min_three max_four min_four   -- for this text's walks alone
set_option linter.unusedVariables false
set_option linter.unusedSimpArgs false

/-! ### version_JudgeBegin: function 17 -/
def version_JudgeBegin.f (a0 : Bool) (a1 : Int) (a2 : Int) (a3 : Int) : Option (Int) := if a0 = true then (some 1) else (if a1 = 5 then (some 4) else (if a1 = 2 then (if a2 = 0 then (some 5) else (if a2 ≤ a3 then (some 2) else (some 0))) else (if a1 = 3 then (if a2 ≤ a3 then (some 1) else (some 0)) else (if a1 = 1 then (some 0) else (if a1 = 4 then (some 0) else (some 0))))))
set_option maxHeartbeats 8000000 in
set_option maxRecDepth 100000 in
theorem version_JudgeBegin.calls (a0 : Bool) (a1 : Int) (a2 : Int) (a3 : Int) (r : Int) (w : World) (h : version_JudgeBegin.f a0 a1 a2 a3 = some r) :
    Calls Try.prog 17 #[.bool a0, .int .i64 a1, .int .u64 a2, .int .u64 a3] w fun e w' => e = .returned (.int .i64 r) ∧ Drawn0 w w' := by
  have H : (if a0 = true then (some 1) else (if a1 = 5 then (some 4) else (if a1 = 2 then (if a2 = 0 then (some 5) else (if a2 ≤ a3 then (some 2) else (some 0))) else (if a1 = 3 then (if a2 ≤ a3 then (some 1) else (some 0)) else (if a1 = 1 then (some 0) else (if a1 = 4 then (some 0) else (some 0))))))) = some r := h
  clear h
  by_cases c5 : a0 = true
  · subst c5
    have H1 : (some 1) = some r := by rw [if_pos rfl] at H; exact H
    clear H
    have H := H1
    clear H1
    obtain rfl := Option.some.inj H
    go_enter Try.func17, Try.ntmps17
    go_wp2
    go_ret
    exact ⟨by first | rfl | (simp; done) | (simp [*]; done), by repeat (first | exact Drawn0.refl _ | apply Drawn0.step)⟩
  · replace c5 := Bool.eq_false_iff.mpr c5
    subst c5
    have H1 : (if a1 = 5 then (some 4) else (if a1 = 2 then (if a2 = 0 then (some 5) else (if a2 ≤ a3 then (some 2) else (some 0))) else (if a1 = 3 then (if a2 ≤ a3 then (some 1) else (some 0)) else (if a1 = 1 then (some 0) else (if a1 = 4 then (some 0) else (some 0)))))) = some r := by rw [if_neg (show ¬ (false = true) by decide)] at H; exact H
    clear H
    have H := H1
    clear H1
    by_cases c6 : a1 = 5
    · rw [if_pos c6] at H
      have c6b0 : (a1 == 5) = true := beq_iff_eq.mpr c6
      have c6b1 : (a1 != 5) = false := bne_eq_false_iff_eq.mpr c6
      clear c6
      obtain rfl := Option.some.inj H
      go_enter Try.func17, Try.ntmps17
      go_wp2
      go_ret
      exact ⟨by first | rfl | (simp; done) | (simp [*]; done), by repeat (first | exact Drawn0.refl _ | apply Drawn0.step)⟩
    · rw [if_neg c6] at H
      have c6b0 : (a1 == 5) = false := beq_eq_false_iff_ne.mpr c6
      have c6b1 : (a1 != 5) = true := bne_iff_ne.mpr c6
      by_cases c7 : a1 = 2
      · rw [if_pos c7] at H
        have c7b0 : (a1 == 2) = true := beq_iff_eq.mpr c7
        have c7b1 : (a1 != 2) = false := bne_eq_false_iff_eq.mpr c7
        clear c7
        by_cases c8 : a2 = 0
        · rw [if_pos c8] at H
          have c8b0 : (a2 == 0) = true := beq_iff_eq.mpr c8
          have c8b1 : (a2 != 0) = false := bne_eq_false_iff_eq.mpr c8
          clear c8
          obtain rfl := Option.some.inj H
          go_enter Try.func17, Try.ntmps17
          go_wp2
          go_ret
          exact ⟨by first | rfl | (simp; done) | (simp [*]; done), by repeat (first | exact Drawn0.refl _ | apply Drawn0.step)⟩
        · rw [if_neg c8] at H
          have c8b0 : (a2 == 0) = false := beq_eq_false_iff_ne.mpr c8
          have c8b1 : (a2 != 0) = true := bne_iff_ne.mpr c8
          by_cases c9 : a2 ≤ a3
          · rw [if_pos c9] at H
            have c9b0 : decide (a2 ≤ a3) = true := decide_eq_true c9
            clear c9
            obtain rfl := Option.some.inj H
            go_enter Try.func17, Try.ntmps17
            go_wp2
            go_ret
            exact ⟨by first | rfl | (simp; done) | (simp [*]; done), by repeat (first | exact Drawn0.refl _ | apply Drawn0.step)⟩
          · rw [if_neg c9] at H
            have c9b0 : decide (a2 ≤ a3) = false := decide_eq_false c9
            clear c9
            obtain rfl := Option.some.inj H
            go_enter Try.func17, Try.ntmps17
            go_wp2
            go_ret
            exact ⟨by first | rfl | (simp; done) | (simp [*]; done), by repeat (first | exact Drawn0.refl _ | apply Drawn0.step)⟩
      · rw [if_neg c7] at H
        have c7b0 : (a1 == 2) = false := beq_eq_false_iff_ne.mpr c7
        have c7b1 : (a1 != 2) = true := bne_iff_ne.mpr c7
        by_cases c10 : a1 = 3
        · rw [if_pos c10] at H
          have c10b0 : (a1 == 3) = true := beq_iff_eq.mpr c10
          have c10b1 : (a1 != 3) = false := bne_eq_false_iff_eq.mpr c10
          clear c10
          by_cases c11 : a2 ≤ a3
          · rw [if_pos c11] at H
            have c11b0 : decide (a2 ≤ a3) = true := decide_eq_true c11
            clear c11
            obtain rfl := Option.some.inj H
            go_enter Try.func17, Try.ntmps17
            go_wp2
            go_ret
            exact ⟨by first | rfl | (simp; done) | (simp [*]; done), by repeat (first | exact Drawn0.refl _ | apply Drawn0.step)⟩
          · rw [if_neg c11] at H
            have c11b0 : decide (a2 ≤ a3) = false := decide_eq_false c11
            clear c11
            obtain rfl := Option.some.inj H
            go_enter Try.func17, Try.ntmps17
            go_wp2
            go_ret
            exact ⟨by first | rfl | (simp; done) | (simp [*]; done), by repeat (first | exact Drawn0.refl _ | apply Drawn0.step)⟩
        · rw [if_neg c10] at H
          have c10b0 : (a1 == 3) = false := beq_eq_false_iff_ne.mpr c10
          have c10b1 : (a1 != 3) = true := bne_iff_ne.mpr c10
          by_cases c12 : a1 = 1
          · rw [if_pos c12] at H
            have c12b0 : (a1 == 1) = true := beq_iff_eq.mpr c12
            have c12b1 : (a1 != 1) = false := bne_eq_false_iff_eq.mpr c12
            clear c12
            obtain rfl := Option.some.inj H
            go_enter Try.func17, Try.ntmps17
            go_wp2
            go_ret
            exact ⟨by first | rfl | (simp; done) | (simp [*]; done), by repeat (first | exact Drawn0.refl _ | apply Drawn0.step)⟩
          · rw [if_neg c12] at H
            have c12b0 : (a1 == 1) = false := beq_eq_false_iff_ne.mpr c12
            have c12b1 : (a1 != 1) = true := bne_iff_ne.mpr c12
            by_cases c13 : a1 = 4
            · rw [if_pos c13] at H
              have c13b0 : (a1 == 4) = true := beq_iff_eq.mpr c13
              have c13b1 : (a1 != 4) = false := bne_eq_false_iff_eq.mpr c13
              clear c13
              obtain rfl := Option.some.inj H
              go_enter Try.func17, Try.ntmps17
              go_wp2
              go_ret
              exact ⟨by first | rfl | (simp; done) | (simp [*]; done), by repeat (first | exact Drawn0.refl _ | apply Drawn0.step)⟩
            · rw [if_neg c13] at H
              have c13b0 : (a1 == 4) = false := beq_eq_false_iff_ne.mpr c13
              have c13b1 : (a1 != 4) = true := bne_iff_ne.mpr c13
              obtain rfl := Option.some.inj H
              go_enter Try.func17, Try.ntmps17
              go_wp2
              go_ret
              exact ⟨by first | rfl | (simp; done) | (simp [*]; done), by repeat (first | exact Drawn0.refl _ | apply Drawn0.step)⟩

/-! ### version_JudgeEnd: function 18 -/
def version_JudgeEnd.f (a0 : Bool) (a1 : Int) (a2 : Int) (a3 : Int) : Option (Int) := if a0 = true then (some 0) else (if a1 = 5 then (some 4) else (if a1 = 2 then (if a2 = 0 then (some 5) else (if a2 ≤ a3 then (some 3) else (some 1))) else (if a1 = 3 then (if a2 ≤ a3 then (some 0) else (some 1)) else (if a1 = 1 then (some 1) else (if a1 = 4 then (some 1) else (some 0))))))
set_option maxHeartbeats 8000000 in
set_option maxRecDepth 100000 in
theorem version_JudgeEnd.calls (a0 : Bool) (a1 : Int) (a2 : Int) (a3 : Int) (r : Int) (w : World) (h : version_JudgeEnd.f a0 a1 a2 a3 = some r) :
    Calls Try.prog 18 #[.bool a0, .int .i64 a1, .int .u64 a2, .int .u64 a3] w fun e w' => e = .returned (.int .i64 r) ∧ Drawn0 w w' := by
  have H : (if a0 = true then (some 0) else (if a1 = 5 then (some 4) else (if a1 = 2 then (if a2 = 0 then (some 5) else (if a2 ≤ a3 then (some 3) else (some 1))) else (if a1 = 3 then (if a2 ≤ a3 then (some 0) else (some 1)) else (if a1 = 1 then (some 1) else (if a1 = 4 then (some 1) else (some 0))))))) = some r := h
  clear h
  by_cases c5 : a0 = true
  · subst c5
    have H1 : (some 0) = some r := by rw [if_pos rfl] at H; exact H
    clear H
    have H := H1
    clear H1
    obtain rfl := Option.some.inj H
    go_enter Try.func18, Try.ntmps18
    go_wp2
    go_ret
    exact ⟨by first | rfl | (simp; done) | (simp [*]; done), by repeat (first | exact Drawn0.refl _ | apply Drawn0.step)⟩
  · replace c5 := Bool.eq_false_iff.mpr c5
    subst c5
    have H1 : (if a1 = 5 then (some 4) else (if a1 = 2 then (if a2 = 0 then (some 5) else (if a2 ≤ a3 then (some 3) else (some 1))) else (if a1 = 3 then (if a2 ≤ a3 then (some 0) else (some 1)) else (if a1 = 1 then (some 1) else (if a1 = 4 then (some 1) else (some 0)))))) = some r := by rw [if_neg (show ¬ (false = true) by decide)] at H; exact H
    clear H
    have H := H1
    clear H1
    by_cases c6 : a1 = 5
    · rw [if_pos c6] at H
      have c6b0 : (a1 == 5) = true := beq_iff_eq.mpr c6
      have c6b1 : (a1 != 5) = false := bne_eq_false_iff_eq.mpr c6
      clear c6
      obtain rfl := Option.some.inj H
      go_enter Try.func18, Try.ntmps18
      go_wp2
      go_ret
      exact ⟨by first | rfl | (simp; done) | (simp [*]; done), by repeat (first | exact Drawn0.refl _ | apply Drawn0.step)⟩
    · rw [if_neg c6] at H
      have c6b0 : (a1 == 5) = false := beq_eq_false_iff_ne.mpr c6
      have c6b1 : (a1 != 5) = true := bne_iff_ne.mpr c6
      by_cases c7 : a1 = 2
      · rw [if_pos c7] at H
        have c7b0 : (a1 == 2) = true := beq_iff_eq.mpr c7
        have c7b1 : (a1 != 2) = false := bne_eq_false_iff_eq.mpr c7
        clear c7
        by_cases c8 : a2 = 0
        · rw [if_pos c8] at H
          have c8b0 : (a2 == 0) = true := beq_iff_eq.mpr c8
          have c8b1 : (a2 != 0) = false := bne_eq_false_iff_eq.mpr c8
          clear c8
          obtain rfl := Option.some.inj H
          go_enter Try.func18, Try.ntmps18
          go_wp2
          go_ret
          exact ⟨by first | rfl | (simp; done) | (simp [*]; done), by repeat (first | exact Drawn0.refl _ | apply Drawn0.step)⟩
        · rw [if_neg c8] at H
          have c8b0 : (a2 == 0) = false := beq_eq_false_iff_ne.mpr c8
          have c8b1 : (a2 != 0) = true := bne_iff_ne.mpr c8
          by_cases c9 : a2 ≤ a3
          · rw [if_pos c9] at H
            have c9b0 : decide (a2 ≤ a3) = true := decide_eq_true c9
            clear c9
            obtain rfl := Option.some.inj H
            go_enter Try.func18, Try.ntmps18
            go_wp2
            go_ret
            exact ⟨by first | rfl | (simp; done) | (simp [*]; done), by repeat (first | exact Drawn0.refl _ | apply Drawn0.step)⟩
          · rw [if_neg c9] at H
            have c9b0 : decide (a2 ≤ a3) = false := decide_eq_false c9
            clear c9
            obtain rfl := Option.some.inj H
            go_enter Try.func18, Try.ntmps18
            go_wp2
            go_ret
            exact ⟨by first | rfl | (simp; done) | (simp [*]; done), by repeat (first | exact Drawn0.refl _ | apply Drawn0.step)⟩
      · rw [if_neg c7] at H
        have c7b0 : (a1 == 2) = false := beq_eq_false_iff_ne.mpr c7
        have c7b1 : (a1 != 2) = true := bne_iff_ne.mpr c7
        by_cases c10 : a1 = 3
        · rw [if_pos c10] at H
          have c10b0 : (a1 == 3) = true := beq_iff_eq.mpr c10
          have c10b1 : (a1 != 3) = false := bne_eq_false_iff_eq.mpr c10
          clear c10
          by_cases c11 : a2 ≤ a3
          · rw [if_pos c11] at H
            have c11b0 : decide (a2 ≤ a3) = true := decide_eq_true c11
            clear c11
            obtain rfl := Option.some.inj H
            go_enter Try.func18, Try.ntmps18
            go_wp2
            go_ret
            exact ⟨by first | rfl | (simp; done) | (simp [*]; done), by repeat (first | exact Drawn0.refl _ | apply Drawn0.step)⟩
          · rw [if_neg c11] at H
            have c11b0 : decide (a2 ≤ a3) = false := decide_eq_false c11
            clear c11
            obtain rfl := Option.some.inj H
            go_enter Try.func18, Try.ntmps18
            go_wp2
            go_ret
            exact ⟨by first | rfl | (simp; done) | (simp [*]; done), by repeat (first | exact Drawn0.refl _ | apply Drawn0.step)⟩
        · rw [if_neg c10] at H
          have c10b0 : (a1 == 3) = false := beq_eq_false_iff_ne.mpr c10
          have c10b1 : (a1 != 3) = true := bne_iff_ne.mpr c10
          by_cases c12 : a1 = 1
          · rw [if_pos c12] at H
            have c12b0 : (a1 == 1) = true := beq_iff_eq.mpr c12
            have c12b1 : (a1 != 1) = false := bne_eq_false_iff_eq.mpr c12
            clear c12
            obtain rfl := Option.some.inj H
            go_enter Try.func18, Try.ntmps18
            go_wp2
            go_ret
            exact ⟨by first | rfl | (simp; done) | (simp [*]; done), by repeat (first | exact Drawn0.refl _ | apply Drawn0.step)⟩
          · rw [if_neg c12] at H
            have c12b0 : (a1 == 1) = false := beq_eq_false_iff_ne.mpr c12
            have c12b1 : (a1 != 1) = true := bne_iff_ne.mpr c12
            by_cases c13 : a1 = 4
            · rw [if_pos c13] at H
              have c13b0 : (a1 == 4) = true := beq_iff_eq.mpr c13
              have c13b1 : (a1 != 4) = false := bne_eq_false_iff_eq.mpr c13
              clear c13
              obtain rfl := Option.some.inj H
              go_enter Try.func18, Try.ntmps18
              go_wp2
              go_ret
              exact ⟨by first | rfl | (simp; done) | (simp [*]; done), by repeat (first | exact Drawn0.refl _ | apply Drawn0.step)⟩
            · rw [if_neg c13] at H
              have c13b0 : (a1 == 4) = false := beq_eq_false_iff_ne.mpr c13
              have c13b1 : (a1 != 4) = true := bne_iff_ne.mpr c13
              obtain rfl := Option.some.inj H
              go_enter Try.func18, Try.ntmps18
              go_wp2
              go_ret
              exact ⟨by first | rfl | (simp; done) | (simp [*]; done), by repeat (first | exact Drawn0.refl _ | apply Drawn0.step)⟩

/-! ### stratalaw07_fate: function 21 -/
def stratalaw07_fate.f (a0 : Bool) (a1 : Int) (a2 : Int) : Option (Bool) := if a0 = true then (some (decide (a1 ≤ a2))) else (some false)
set_option maxHeartbeats 8000000 in
set_option maxRecDepth 100000 in
theorem stratalaw07_fate.calls (a0 : Bool) (a1 : Int) (a2 : Int) (r : Bool) (w : World) (h : stratalaw07_fate.f a0 a1 a2 = some r) :
    Calls Try.prog 21 #[.bool a0, .int .u64 a1, .int .u64 a2] w fun e w' => e = .returned (.bool r) ∧ Drawn0 w w' := by
  have H : (if a0 = true then (some (decide (a1 ≤ a2))) else (some false)) = some r := h
  clear h
  by_cases c4 : a0 = true
  · subst c4
    have H1 : (some (decide (a1 ≤ a2))) = some r := by rw [if_pos rfl] at H; exact H
    clear H
    have H := H1
    clear H1
    obtain rfl := Option.some.inj H
    go_enter Try.func21, Try.ntmps21
    go_wp2
    go_ret
    exact ⟨by first | rfl | (simp; done) | (simp [*]; done), by repeat (first | exact Drawn0.refl _ | apply Drawn0.step)⟩
  · replace c4 := Bool.eq_false_iff.mpr c4
    subst c4
    have H1 : (some false) = some r := by rw [if_neg (show ¬ (false = true) by decide)] at H; exact H
    clear H
    have H := H1
    clear H1
    obtain rfl := Option.some.inj H
    go_enter Try.func21, Try.ntmps21
    go_wp2
    go_ret
    exact ⟨by first | rfl | (simp; done) | (simp [*]; done), by repeat (first | exact Drawn0.refl _ | apply Drawn0.step)⟩

/-! ### stratalaw07_VersionFates: function 9 -/
def stratalaw07_VersionFates.j0 : Nat → Int → Int → Int → Int → Int → Int → Bool → Option (Bool)
  | 0, _, _, _, _, _, _, _ => none
  | k + 1, x0, x1, x2, x3, x9, x10, x30 => if x30 = true then (some false) else (if x0 = 1 then (if x3 ≤ x2 then (some true) else ((stratalaw07_fate.f true x3 x2).bind fun t105 => (if t105 = true then (some false) else ((stratalaw07_fate.f false x3 x2).bind fun t106 => (if t106 = true then (some false) else (if x9 = 0 then (some (x10 == 1)) else (some false))))))) else (if x0 = 2 then (if x1 = 0 then (if x9 = 5 then (some (x10 == 5)) else (some false)) else ((stratalaw07_fate.f true x1 x2).bind fun t107 => ((stratalaw07_fate.f false x1 x2).bind fun t108 => (if (t107 == t108) = true then (if x9 = 0 then (some (x10 == 1)) else (some false)) else (if x9 = 2 then (some (x10 == 3)) else (some false)))))) else (if x0 = 3 then ((stratalaw07_fate.f true x1 x2).bind fun t109 => (if t109 = true then (if x9 = 1 then (some (x10 == 0)) else (some false)) else (if x9 = 0 then (some (x10 == 1)) else (some false)))) else (if x0 = 4 then ((stratalaw07_fate.f false x1 x2).bind fun t110 => (if t110 = true then (some false) else (if x9 = 0 then (some (x10 == 1)) else (some false)))) else (if x0 = 5 then (if x9 = 4 then (some (x10 == 4)) else (some false)) else (if x9 = 0 then (some (x10 == 0)) else (some false)))))))
def stratalaw07_VersionFates.f (k : Nat) (a0 : Int) (a1 : Int) (a2 : Int) (a3 : Int) : Option (Bool) := (version_JudgeBegin.f false a0 a1 a2).bind fun t101 => ((version_JudgeEnd.f false a0 a1 a2).bind fun t102 => ((version_JudgeBegin.f true a0 a1 a2).bind fun t103 => (if t103 = 1 then ((version_JudgeEnd.f true a0 a1 a2).bind fun t104 => (stratalaw07_VersionFates.j0 k a0 a1 a2 a3 t101 t102 (t104 != 0))) else (stratalaw07_VersionFates.j0 k a0 a1 a2 a3 t101 t102 true))))
theorem stratalaw07_VersionFates.mono_l : ∀ k, (∀ y0 y1 y2 y3 y4 y5 y6, LeO (stratalaw07_VersionFates.j0 k y0 y1 y2 y3 y4 y5 y6) (stratalaw07_VersionFates.j0 (k + 1) y0 y1 y2 y3 y4 y5 y6))
  | 0 => fun _ _ _ _ _ _ _ r h => by simp [stratalaw07_VersionFates.j0] at h
  | k + 1 => by
    have ih0 := stratalaw07_VersionFates.mono_l k
    · intro y0 y1 y2 y3 y4 y5 y6
      unfold stratalaw07_VersionFates.j0
      repeat' first
      | (with_reducible exact ih0 _ _ _ _ _ _ _)
      | (with_reducible exact LeO.refl _)
      | (with_reducible exact LeO.none _)
      | (with_reducible refine LeO.ite ?_ ?_)
      | (with_reducible refine LeO.bind ?_ (fun _ => ?_))
      | exact ih0 _ _ _ _ _ _ _
      | exact LeO.none _
      | refine LeO.ite ?_ ?_
      | refine LeO.bind ?_ (fun _ => ?_)
theorem stratalaw07_VersionFates.mono : ∀ a0 a1 a2 a3 k, LeO (stratalaw07_VersionFates.f k a0 a1 a2 a3) (stratalaw07_VersionFates.f (k + 1) a0 a1 a2 a3) := by
  intro a0 a1 a2 a3 k
  have ih0 := stratalaw07_VersionFates.mono_l k
  unfold stratalaw07_VersionFates.f
  repeat' first
      | (with_reducible exact ih0 _ _ _ _ _ _ _)
      | (with_reducible exact LeO.refl _)
      | (with_reducible exact LeO.none _)
      | (with_reducible refine LeO.ite ?_ ?_)
      | (with_reducible refine LeO.bind ?_ (fun _ => ?_))
      | exact ih0 _ _ _ _ _ _ _
      | exact LeO.none _
      | refine LeO.ite ?_ ?_
      | refine LeO.bind ?_ (fun _ => ?_)
set_option maxHeartbeats 8000000 in
set_option maxRecDepth 100000 in
theorem stratalaw07_VersionFates.calls (k : Nat) (a0 : Int) (a1 : Int) (a2 : Int) (a3 : Int) (r : Bool) (w : World) (h : stratalaw07_VersionFates.f k a0 a1 a2 a3 = some r) :
    Calls Try.prog 9 #[.int .i64 a0, .int .u64 a1, .int .u64 a2, .int .u64 a3] w fun e w' => e = .returned (.bool r) ∧ Drawn0 w w' := by
  have H : ((version_JudgeBegin.f false a0 a1 a2).bind fun t101 => ((version_JudgeEnd.f false a0 a1 a2).bind fun t102 => ((version_JudgeBegin.f true a0 a1 a2).bind fun t103 => (if t103 = 1 then ((version_JudgeEnd.f true a0 a1 a2).bind fun t104 => (stratalaw07_VersionFates.j0 k a0 a1 a2 a3 t101 t102 (t104 != 0))) else (stratalaw07_VersionFates.j0 k a0 a1 a2 a3 t101 t102 true))))) = some r := h
  clear h
  replace H := Option.bind_eq_some_iff.mp H
  obtain ⟨t101, A50, H⟩ := H
  replace H : ((version_JudgeEnd.f false a0 a1 a2).bind fun t102 => ((version_JudgeBegin.f true a0 a1 a2).bind fun t103 => (if t103 = 1 then ((version_JudgeEnd.f true a0 a1 a2).bind fun t104 => (stratalaw07_VersionFates.j0 k a0 a1 a2 a3 t101 t102 (t104 != 0))) else (stratalaw07_VersionFates.j0 k a0 a1 a2 a3 t101 t102 true)))) = some r := H
  have A5 := Aside0.mk A50
  clear A50
  replace H := Option.bind_eq_some_iff.mp H
  obtain ⟨t102, A60, H⟩ := H
  replace H : ((version_JudgeBegin.f true a0 a1 a2).bind fun t103 => (if t103 = 1 then ((version_JudgeEnd.f true a0 a1 a2).bind fun t104 => (stratalaw07_VersionFates.j0 k a0 a1 a2 a3 t101 t102 (t104 != 0))) else (stratalaw07_VersionFates.j0 k a0 a1 a2 a3 t101 t102 true))) = some r := H
  have A6 := Aside0.mk A60
  clear A60
  have HC7 := Aside0.mk H
  clear H
  go_enter Try.func9, Try.ntmps9
  go_upto_region 3 with (first | ((with_reducible refine gate_callee (f := 17) rfl ?_); refine goesL_ (some 14) rfl rfl Try.func17 (by kernel_rfl) rfl #[.bool false, .int .i64 a0, .int .u64 a1, .int .u64 a2] rfl (by (try simp only [List.map_toArray, List.map_cons, List.map_nil]); first | done | rfl | (simp only [List.length_drop, List.length_take]; rfl)) ?_; (with_reducible refine (version_JudgeBegin.calls false a0 a1 a2 t101 _ A5.out).mono ?_); rintro e w' ⟨rfl, ⟨nd, rfl⟩⟩; refine ⟨_, rfl, ?_⟩) | ((with_reducible refine gate_callee (f := 18) rfl ?_); refine goesL_ (some 18) rfl rfl Try.func18 (by kernel_rfl) rfl #[.bool false, .int .i64 a0, .int .u64 a1, .int .u64 a2] rfl (by (try simp only [List.map_toArray, List.map_cons, List.map_nil]); first | done | rfl | (simp only [List.length_drop, List.length_take]; rfl)) ?_; (with_reducible refine (version_JudgeEnd.calls false a0 a1 a2 t102 _ A6.out).mono ?_); rintro e w' ⟨rfl, ⟨nd, rfl⟩⟩; refine ⟨_, rfl, ?_⟩))
  (try simp only [Act.put, List.setIfInBounds_toArray, List.set_cons_zero, List.set_cons_succ])
  go_cut [30] (fun v30 wc => ∃ (kq : Nat) (x30_6 : Bool), v30 = .bool x30_6 ∧ Aside0 (stratalaw07_VersionFates.j0 kq a0 a1 a2 a3 t101 t102 x30_6 = some r) ∧ Aside0 (kq ≤ k) ∧ Drawn0 w wc)
  case first =>
    have H := HC7.out
    clear HC7
    replace H := Option.bind_eq_some_iff.mp H
    obtain ⟨t103, A80, H⟩ := H
    replace H : (if t103 = 1 then ((version_JudgeEnd.f true a0 a1 a2).bind fun t104 => (stratalaw07_VersionFates.j0 k a0 a1 a2 a3 t101 t102 (t104 != 0))) else (stratalaw07_VersionFates.j0 k a0 a1 a2 a3 t101 t102 true)) = some r := H
    have A8 := Aside0.mk A80
    clear A80
    by_cases c9 : t103 = 1
    · rw [if_pos c9] at H
      have c9b0 : (t103 == 1) = true := beq_iff_eq.mpr c9
      have c9b1 : (t103 != 1) = false := bne_eq_false_iff_eq.mpr c9
      clear c9
      (first | rw [c9b0] | (simp only [i64_w, i32_w]; rw [c9b0]) | skip)
      replace H := Option.bind_eq_some_iff.mp H
      obtain ⟨t104, A100, H⟩ := H
      replace H : (stratalaw07_VersionFates.j0 k a0 a1 a2 a3 t101 t102 (t104 != 0)) = some r := H
      have A10 := Aside0.mk A100
      clear A100
      have H' := Aside0.mk H
      clear H
      go_wp2_with (first | ((with_reducible refine gate_callee (f := 17) rfl ?_); refine goesL_ (some 22) rfl rfl Try.func17 (by kernel_rfl) rfl #[.bool true, .int .i64 a0, .int .u64 a1, .int .u64 a2] rfl (by (try simp only [List.map_toArray, List.map_cons, List.map_nil]); first | done | rfl | (simp only [List.length_drop, List.length_take]; rfl)) ?_; (with_reducible refine (version_JudgeBegin.calls true a0 a1 a2 t103 _ A8.out).mono ?_); rintro e w' ⟨rfl, ⟨nd, rfl⟩⟩; refine ⟨_, rfl, ?_⟩) | (go_at_call 18; (with_reducible refine (version_JudgeEnd.calls true a0 a1 a2 t104 _ A10.out).mono ?_); rintro e w' ⟨rfl, ⟨nd, rfl⟩⟩))
      go_meet
      case rel => exact ⟨_, ((t104 != 0)), (by first | rfl | (simp; done) | (simp [*]; done)), H', ⟨by first | omega | exact Nat.le_refl _⟩, by repeat (first | exact Drawn0.refl _ | apply Drawn0.step)⟩
    · rw [if_neg c9] at H
      have c9b0 : (t103 == 1) = false := beq_eq_false_iff_ne.mpr c9
      have c9b1 : (t103 != 1) = true := bne_iff_ne.mpr c9
      (first | rw [c9b0] | (simp only [i64_w, i32_w]; rw [c9b0]) | skip)
      have H' := Aside0.mk H
      clear H
      go_wp2_with (first | ((with_reducible refine gate_callee (f := 17) rfl ?_); refine goesL_ (some 22) rfl rfl Try.func17 (by kernel_rfl) rfl #[.bool true, .int .i64 a0, .int .u64 a1, .int .u64 a2] rfl (by (try simp only [List.map_toArray, List.map_cons, List.map_nil]); first | done | rfl | (simp only [List.length_drop, List.length_take]; rfl)) ?_; (with_reducible refine (version_JudgeBegin.calls true a0 a1 a2 t103 _ A8.out).mono ?_); rintro e w' ⟨rfl, ⟨nd, rfl⟩⟩; refine ⟨_, rfl, ?_⟩))
      go_meet
      case rel => exact ⟨_, (true), (by first | rfl | (simp; done) | (simp [*]; done)), H', ⟨by first | omega | exact Nat.le_refl _⟩, by repeat (first | exact Drawn0.refl _ | apply Drawn0.step)⟩
  case rest =>
    clear HC7
    try clear c1
    try clear p2
    try clear c9
    try clear c9b0
    try clear c9b1
    obtain ⟨kq, x30_6, rfl, HA, HJ6, ⟨mc6, rfl⟩⟩ := hcut
    cases kq with
    | zero => exact absurd HA.out (by simp [stratalaw07_VersionFates.j0])
    | succ kj6 =>
      have H := HA.out
      clear HA
      simp only [stratalaw07_VersionFates.j0] at H
      by_cases c11 : x30_6 = true
      · subst c11
        have H1 : (some false) = some r := by rw [if_pos rfl] at H; exact H
        clear H
        have H := H1
        clear H1
        obtain rfl := Option.some.inj H
        go_wp2
        go_ret
        exact ⟨by first | rfl | (simp; done) | (simp [*]; done), by repeat (first | exact Drawn0.refl _ | apply Drawn0.step)⟩
      · replace c11 := Bool.eq_false_iff.mpr c11
        subst c11
        have H1 : (if a0 = 1 then (if a3 ≤ a2 then (some true) else ((stratalaw07_fate.f true a3 a2).bind fun t105 => (if t105 = true then (some false) else ((stratalaw07_fate.f false a3 a2).bind fun t106 => (if t106 = true then (some false) else (if t101 = 0 then (some (t102 == 1)) else (some false))))))) else (if a0 = 2 then (if a1 = 0 then (if t101 = 5 then (some (t102 == 5)) else (some false)) else ((stratalaw07_fate.f true a1 a2).bind fun t107 => ((stratalaw07_fate.f false a1 a2).bind fun t108 => (if (t107 == t108) = true then (if t101 = 0 then (some (t102 == 1)) else (some false)) else (if t101 = 2 then (some (t102 == 3)) else (some false)))))) else (if a0 = 3 then ((stratalaw07_fate.f true a1 a2).bind fun t109 => (if t109 = true then (if t101 = 1 then (some (t102 == 0)) else (some false)) else (if t101 = 0 then (some (t102 == 1)) else (some false)))) else (if a0 = 4 then ((stratalaw07_fate.f false a1 a2).bind fun t110 => (if t110 = true then (some false) else (if t101 = 0 then (some (t102 == 1)) else (some false)))) else (if a0 = 5 then (if t101 = 4 then (some (t102 == 4)) else (some false)) else (if t101 = 0 then (some (t102 == 0)) else (some false))))))) = some r := by rw [if_neg (show ¬ (false = true) by decide)] at H; exact H
        clear H
        have H := H1
        clear H1
        by_cases c12 : a0 = 1
        · rw [if_pos c12] at H
          have c12b0 : (a0 == 1) = true := beq_iff_eq.mpr c12
          have c12b1 : (a0 != 1) = false := bne_eq_false_iff_eq.mpr c12
          clear c12
          by_cases c13 : a3 ≤ a2
          · rw [if_pos c13] at H
            have c13b0 : decide (a3 ≤ a2) = true := decide_eq_true c13
            clear c13
            obtain rfl := Option.some.inj H
            go_wp2
            go_ret
            exact ⟨by first | rfl | (simp; done) | (simp [*]; done), by repeat (first | exact Drawn0.refl _ | apply Drawn0.step)⟩
          · rw [if_neg c13] at H
            have c13b0 : decide (a3 ≤ a2) = false := decide_eq_false c13
            clear c13
            replace H := Option.bind_eq_some_iff.mp H
            obtain ⟨t105, A140, H⟩ := H
            replace H : (if t105 = true then (some false) else ((stratalaw07_fate.f false a3 a2).bind fun t106 => (if t106 = true then (some false) else (if t101 = 0 then (some (t102 == 1)) else (some false))))) = some r := H
            have A14 := Aside0.mk A140
            clear A140
            by_cases c15 : t105 = true
            · subst c15
              have H1 : (some false) = some r := by rw [if_pos rfl] at H; exact H
              clear H
              have H := H1
              clear H1
              obtain rfl := Option.some.inj H
              go_wp2_with (first | (go_at_call 21; (with_reducible refine (stratalaw07_fate.calls true a3 a2 true _ A14.out).mono ?_); rintro e w' ⟨rfl, ⟨nd, rfl⟩⟩))
              go_ret
              exact ⟨by first | rfl | (simp; done) | (simp [*]; done), by repeat (first | exact Drawn0.refl _ | apply Drawn0.step)⟩
            · replace c15 := Bool.eq_false_iff.mpr c15
              subst c15
              have H1 : ((stratalaw07_fate.f false a3 a2).bind fun t106 => (if t106 = true then (some false) else (if t101 = 0 then (some (t102 == 1)) else (some false)))) = some r := by rw [if_neg (show ¬ (false = true) by decide)] at H; exact H
              clear H
              have H := H1
              clear H1
              replace H := Option.bind_eq_some_iff.mp H
              obtain ⟨t106, A160, H⟩ := H
              replace H : (if t106 = true then (some false) else (if t101 = 0 then (some (t102 == 1)) else (some false))) = some r := H
              have A16 := Aside0.mk A160
              clear A160
              by_cases c17 : t106 = true
              · subst c17
                have H1 : (some false) = some r := by rw [if_pos rfl] at H; exact H
                clear H
                have H := H1
                clear H1
                obtain rfl := Option.some.inj H
                go_wp2_with (first | (go_at_call 21; (with_reducible refine (stratalaw07_fate.calls true a3 a2 false _ A14.out).mono ?_); rintro e w' ⟨rfl, ⟨nd, rfl⟩⟩) | (go_at_call 21; (with_reducible refine (stratalaw07_fate.calls false a3 a2 true _ A16.out).mono ?_); rintro e w' ⟨rfl, ⟨nd, rfl⟩⟩))
                go_ret
                exact ⟨by first | rfl | (simp; done) | (simp [*]; done), by repeat (first | exact Drawn0.refl _ | apply Drawn0.step)⟩
              · replace c17 := Bool.eq_false_iff.mpr c17
                subst c17
                have H1 : (if t101 = 0 then (some (t102 == 1)) else (some false)) = some r := by rw [if_neg (show ¬ (false = true) by decide)] at H; exact H
                clear H
                have H := H1
                clear H1
                by_cases c18 : t101 = 0
                · rw [if_pos c18] at H
                  have c18b0 : (t101 == 0) = true := beq_iff_eq.mpr c18
                  have c18b1 : (t101 != 0) = false := bne_eq_false_iff_eq.mpr c18
                  clear c18
                  obtain rfl := Option.some.inj H
                  go_wp2_with (first | (go_at_call 21; (with_reducible refine (stratalaw07_fate.calls true a3 a2 false _ A14.out).mono ?_); rintro e w' ⟨rfl, ⟨nd, rfl⟩⟩) | (go_at_call 21; (with_reducible refine (stratalaw07_fate.calls false a3 a2 false _ A16.out).mono ?_); rintro e w' ⟨rfl, ⟨nd, rfl⟩⟩))
                  go_ret
                  exact ⟨by first | rfl | (simp; done) | (simp [*]; done), by repeat (first | exact Drawn0.refl _ | apply Drawn0.step)⟩
                · rw [if_neg c18] at H
                  have c18b0 : (t101 == 0) = false := beq_eq_false_iff_ne.mpr c18
                  have c18b1 : (t101 != 0) = true := bne_iff_ne.mpr c18
                  obtain rfl := Option.some.inj H
                  go_wp2_with (first | (go_at_call 21; (with_reducible refine (stratalaw07_fate.calls true a3 a2 false _ A14.out).mono ?_); rintro e w' ⟨rfl, ⟨nd, rfl⟩⟩) | (go_at_call 21; (with_reducible refine (stratalaw07_fate.calls false a3 a2 false _ A16.out).mono ?_); rintro e w' ⟨rfl, ⟨nd, rfl⟩⟩))
                  go_ret
                  exact ⟨by first | rfl | (simp; done) | (simp [*]; done), by repeat (first | exact Drawn0.refl _ | apply Drawn0.step)⟩
        · rw [if_neg c12] at H
          have c12b0 : (a0 == 1) = false := beq_eq_false_iff_ne.mpr c12
          have c12b1 : (a0 != 1) = true := bne_iff_ne.mpr c12
          by_cases c19 : a0 = 2
          · rw [if_pos c19] at H
            have c19b0 : (a0 == 2) = true := beq_iff_eq.mpr c19
            have c19b1 : (a0 != 2) = false := bne_eq_false_iff_eq.mpr c19
            clear c19
            by_cases c20 : a1 = 0
            · rw [if_pos c20] at H
              have c20b0 : (a1 == 0) = true := beq_iff_eq.mpr c20
              have c20b1 : (a1 != 0) = false := bne_eq_false_iff_eq.mpr c20
              clear c20
              by_cases c21 : t101 = 5
              · rw [if_pos c21] at H
                have c21b0 : (t101 == 5) = true := beq_iff_eq.mpr c21
                have c21b1 : (t101 != 5) = false := bne_eq_false_iff_eq.mpr c21
                clear c21
                obtain rfl := Option.some.inj H
                go_wp2
                go_ret
                exact ⟨by first | rfl | (simp; done) | (simp [*]; done), by repeat (first | exact Drawn0.refl _ | apply Drawn0.step)⟩
              · rw [if_neg c21] at H
                have c21b0 : (t101 == 5) = false := beq_eq_false_iff_ne.mpr c21
                have c21b1 : (t101 != 5) = true := bne_iff_ne.mpr c21
                obtain rfl := Option.some.inj H
                go_wp2
                go_ret
                exact ⟨by first | rfl | (simp; done) | (simp [*]; done), by repeat (first | exact Drawn0.refl _ | apply Drawn0.step)⟩
            · rw [if_neg c20] at H
              have c20b0 : (a1 == 0) = false := beq_eq_false_iff_ne.mpr c20
              have c20b1 : (a1 != 0) = true := bne_iff_ne.mpr c20
              replace H := Option.bind_eq_some_iff.mp H
              obtain ⟨t107, A220, H⟩ := H
              replace H : ((stratalaw07_fate.f false a1 a2).bind fun t108 => (if (t107 == t108) = true then (if t101 = 0 then (some (t102 == 1)) else (some false)) else (if t101 = 2 then (some (t102 == 3)) else (some false)))) = some r := H
              have A22 := Aside0.mk A220
              clear A220
              replace H := Option.bind_eq_some_iff.mp H
              obtain ⟨t108, A230, H⟩ := H
              replace H : (if (t107 == t108) = true then (if t101 = 0 then (some (t102 == 1)) else (some false)) else (if t101 = 2 then (some (t102 == 3)) else (some false))) = some r := H
              have A23 := Aside0.mk A230
              clear A230
              by_cases c24 : (t107 == t108) = true
              · rw [if_pos c24] at H
                have c24b0 : (t107 == t108) = true := c24
                (try (have c24b1 : decide (t107 = t108) = true := by simpa using c24))
                (try (have c24b2 : (t107 == t108) = true := by simpa using c24))
                clear c24
                by_cases c25 : t101 = 0
                · rw [if_pos c25] at H
                  have c25b0 : (t101 == 0) = true := beq_iff_eq.mpr c25
                  have c25b1 : (t101 != 0) = false := bne_eq_false_iff_eq.mpr c25
                  clear c25
                  obtain rfl := Option.some.inj H
                  go_wp2_with (first | ((with_reducible refine gate_callee (f := 21) rfl ?_); refine goesL_ (some 69) rfl rfl Try.func21 (by kernel_rfl) rfl #[.bool true, .int .u64 a1, .int .u64 a2] rfl (by (try simp only [List.map_toArray, List.map_cons, List.map_nil]); first | done | rfl | (simp only [List.length_drop, List.length_take]; rfl)) ?_; (with_reducible refine (stratalaw07_fate.calls true a1 a2 t107 _ A22.out).mono ?_); rintro e w' ⟨rfl, ⟨nd, rfl⟩⟩; refine ⟨_, rfl, ?_⟩) | ((with_reducible refine gate_callee (f := 21) rfl ?_); refine goesL_ (some 72) rfl rfl Try.func21 (by kernel_rfl) rfl #[.bool false, .int .u64 a1, .int .u64 a2] rfl (by (try simp only [List.map_toArray, List.map_cons, List.map_nil]); first | done | rfl | (simp only [List.length_drop, List.length_take]; rfl)) ?_; (with_reducible refine (stratalaw07_fate.calls false a1 a2 t108 _ A23.out).mono ?_); rintro e w' ⟨rfl, ⟨nd, rfl⟩⟩; refine ⟨_, rfl, ?_⟩))
                  go_ret
                  exact ⟨by first | rfl | (simp; done) | (simp [*]; done), by repeat (first | exact Drawn0.refl _ | apply Drawn0.step)⟩
                · rw [if_neg c25] at H
                  have c25b0 : (t101 == 0) = false := beq_eq_false_iff_ne.mpr c25
                  have c25b1 : (t101 != 0) = true := bne_iff_ne.mpr c25
                  obtain rfl := Option.some.inj H
                  go_wp2_with (first | ((with_reducible refine gate_callee (f := 21) rfl ?_); refine goesL_ (some 69) rfl rfl Try.func21 (by kernel_rfl) rfl #[.bool true, .int .u64 a1, .int .u64 a2] rfl (by (try simp only [List.map_toArray, List.map_cons, List.map_nil]); first | done | rfl | (simp only [List.length_drop, List.length_take]; rfl)) ?_; (with_reducible refine (stratalaw07_fate.calls true a1 a2 t107 _ A22.out).mono ?_); rintro e w' ⟨rfl, ⟨nd, rfl⟩⟩; refine ⟨_, rfl, ?_⟩) | ((with_reducible refine gate_callee (f := 21) rfl ?_); refine goesL_ (some 72) rfl rfl Try.func21 (by kernel_rfl) rfl #[.bool false, .int .u64 a1, .int .u64 a2] rfl (by (try simp only [List.map_toArray, List.map_cons, List.map_nil]); first | done | rfl | (simp only [List.length_drop, List.length_take]; rfl)) ?_; (with_reducible refine (stratalaw07_fate.calls false a1 a2 t108 _ A23.out).mono ?_); rintro e w' ⟨rfl, ⟨nd, rfl⟩⟩; refine ⟨_, rfl, ?_⟩))
                  go_ret
                  exact ⟨by first | rfl | (simp; done) | (simp [*]; done), by repeat (first | exact Drawn0.refl _ | apply Drawn0.step)⟩
              · rw [if_neg c24] at H
                have c24b0 : (t107 == t108) = false := by simpa using c24
                (try (have c24b1 : decide (t107 = t108) = false := by simpa using c24))
                (try (have c24b2 : (t107 == t108) = false := by simpa using c24))
                (try (have c24b3 : ¬ (t107 = t108) := by simpa using c24))
                clear c24
                by_cases c26 : t101 = 2
                · rw [if_pos c26] at H
                  have c26b0 : (t101 == 2) = true := beq_iff_eq.mpr c26
                  have c26b1 : (t101 != 2) = false := bne_eq_false_iff_eq.mpr c26
                  clear c26
                  obtain rfl := Option.some.inj H
                  go_wp2_with (first | ((with_reducible refine gate_callee (f := 21) rfl ?_); refine goesL_ (some 69) rfl rfl Try.func21 (by kernel_rfl) rfl #[.bool true, .int .u64 a1, .int .u64 a2] rfl (by (try simp only [List.map_toArray, List.map_cons, List.map_nil]); first | done | rfl | (simp only [List.length_drop, List.length_take]; rfl)) ?_; (with_reducible refine (stratalaw07_fate.calls true a1 a2 t107 _ A22.out).mono ?_); rintro e w' ⟨rfl, ⟨nd, rfl⟩⟩; refine ⟨_, rfl, ?_⟩) | ((with_reducible refine gate_callee (f := 21) rfl ?_); refine goesL_ (some 72) rfl rfl Try.func21 (by kernel_rfl) rfl #[.bool false, .int .u64 a1, .int .u64 a2] rfl (by (try simp only [List.map_toArray, List.map_cons, List.map_nil]); first | done | rfl | (simp only [List.length_drop, List.length_take]; rfl)) ?_; (with_reducible refine (stratalaw07_fate.calls false a1 a2 t108 _ A23.out).mono ?_); rintro e w' ⟨rfl, ⟨nd, rfl⟩⟩; refine ⟨_, rfl, ?_⟩))
                  go_ret
                  exact ⟨by first | rfl | (simp; done) | (simp [*]; done), by repeat (first | exact Drawn0.refl _ | apply Drawn0.step)⟩
                · rw [if_neg c26] at H
                  have c26b0 : (t101 == 2) = false := beq_eq_false_iff_ne.mpr c26
                  have c26b1 : (t101 != 2) = true := bne_iff_ne.mpr c26
                  obtain rfl := Option.some.inj H
                  go_wp2_with (first | ((with_reducible refine gate_callee (f := 21) rfl ?_); refine goesL_ (some 69) rfl rfl Try.func21 (by kernel_rfl) rfl #[.bool true, .int .u64 a1, .int .u64 a2] rfl (by (try simp only [List.map_toArray, List.map_cons, List.map_nil]); first | done | rfl | (simp only [List.length_drop, List.length_take]; rfl)) ?_; (with_reducible refine (stratalaw07_fate.calls true a1 a2 t107 _ A22.out).mono ?_); rintro e w' ⟨rfl, ⟨nd, rfl⟩⟩; refine ⟨_, rfl, ?_⟩) | ((with_reducible refine gate_callee (f := 21) rfl ?_); refine goesL_ (some 72) rfl rfl Try.func21 (by kernel_rfl) rfl #[.bool false, .int .u64 a1, .int .u64 a2] rfl (by (try simp only [List.map_toArray, List.map_cons, List.map_nil]); first | done | rfl | (simp only [List.length_drop, List.length_take]; rfl)) ?_; (with_reducible refine (stratalaw07_fate.calls false a1 a2 t108 _ A23.out).mono ?_); rintro e w' ⟨rfl, ⟨nd, rfl⟩⟩; refine ⟨_, rfl, ?_⟩))
                  go_ret
                  exact ⟨by first | rfl | (simp; done) | (simp [*]; done), by repeat (first | exact Drawn0.refl _ | apply Drawn0.step)⟩
          · rw [if_neg c19] at H
            have c19b0 : (a0 == 2) = false := beq_eq_false_iff_ne.mpr c19
            have c19b1 : (a0 != 2) = true := bne_iff_ne.mpr c19
            by_cases c27 : a0 = 3
            · rw [if_pos c27] at H
              have c27b0 : (a0 == 3) = true := beq_iff_eq.mpr c27
              have c27b1 : (a0 != 3) = false := bne_eq_false_iff_eq.mpr c27
              clear c27
              replace H := Option.bind_eq_some_iff.mp H
              obtain ⟨t109, A280, H⟩ := H
              replace H : (if t109 = true then (if t101 = 1 then (some (t102 == 0)) else (some false)) else (if t101 = 0 then (some (t102 == 1)) else (some false))) = some r := H
              have A28 := Aside0.mk A280
              clear A280
              by_cases c29 : t109 = true
              · subst c29
                have H1 : (if t101 = 1 then (some (t102 == 0)) else (some false)) = some r := by rw [if_pos rfl] at H; exact H
                clear H
                have H := H1
                clear H1
                by_cases c30 : t101 = 1
                · rw [if_pos c30] at H
                  have c30b0 : (t101 == 1) = true := beq_iff_eq.mpr c30
                  have c30b1 : (t101 != 1) = false := bne_eq_false_iff_eq.mpr c30
                  clear c30
                  obtain rfl := Option.some.inj H
                  go_wp2_with (first | ((with_reducible refine gate_callee (f := 21) rfl ?_); refine goesL_ (some 90) rfl rfl Try.func21 (by kernel_rfl) rfl #[.bool true, .int .u64 a1, .int .u64 a2] rfl (by (try simp only [List.map_toArray, List.map_cons, List.map_nil]); first | done | rfl | (simp only [List.length_drop, List.length_take]; rfl)) ?_; (with_reducible refine (stratalaw07_fate.calls true a1 a2 true _ A28.out).mono ?_); rintro e w' ⟨rfl, ⟨nd, rfl⟩⟩; refine ⟨_, rfl, ?_⟩))
                  go_ret
                  exact ⟨by first | rfl | (simp; done) | (simp [*]; done), by repeat (first | exact Drawn0.refl _ | apply Drawn0.step)⟩
                · rw [if_neg c30] at H
                  have c30b0 : (t101 == 1) = false := beq_eq_false_iff_ne.mpr c30
                  have c30b1 : (t101 != 1) = true := bne_iff_ne.mpr c30
                  obtain rfl := Option.some.inj H
                  go_wp2_with (first | ((with_reducible refine gate_callee (f := 21) rfl ?_); refine goesL_ (some 90) rfl rfl Try.func21 (by kernel_rfl) rfl #[.bool true, .int .u64 a1, .int .u64 a2] rfl (by (try simp only [List.map_toArray, List.map_cons, List.map_nil]); first | done | rfl | (simp only [List.length_drop, List.length_take]; rfl)) ?_; (with_reducible refine (stratalaw07_fate.calls true a1 a2 true _ A28.out).mono ?_); rintro e w' ⟨rfl, ⟨nd, rfl⟩⟩; refine ⟨_, rfl, ?_⟩))
                  go_ret
                  exact ⟨by first | rfl | (simp; done) | (simp [*]; done), by repeat (first | exact Drawn0.refl _ | apply Drawn0.step)⟩
              · replace c29 := Bool.eq_false_iff.mpr c29
                subst c29
                have H1 : (if t101 = 0 then (some (t102 == 1)) else (some false)) = some r := by rw [if_neg (show ¬ (false = true) by decide)] at H; exact H
                clear H
                have H := H1
                clear H1
                by_cases c31 : t101 = 0
                · rw [if_pos c31] at H
                  have c31b0 : (t101 == 0) = true := beq_iff_eq.mpr c31
                  have c31b1 : (t101 != 0) = false := bne_eq_false_iff_eq.mpr c31
                  clear c31
                  obtain rfl := Option.some.inj H
                  go_wp2_with (first | ((with_reducible refine gate_callee (f := 21) rfl ?_); refine goesL_ (some 90) rfl rfl Try.func21 (by kernel_rfl) rfl #[.bool true, .int .u64 a1, .int .u64 a2] rfl (by (try simp only [List.map_toArray, List.map_cons, List.map_nil]); first | done | rfl | (simp only [List.length_drop, List.length_take]; rfl)) ?_; (with_reducible refine (stratalaw07_fate.calls true a1 a2 false _ A28.out).mono ?_); rintro e w' ⟨rfl, ⟨nd, rfl⟩⟩; refine ⟨_, rfl, ?_⟩))
                  go_ret
                  exact ⟨by first | rfl | (simp; done) | (simp [*]; done), by repeat (first | exact Drawn0.refl _ | apply Drawn0.step)⟩
                · rw [if_neg c31] at H
                  have c31b0 : (t101 == 0) = false := beq_eq_false_iff_ne.mpr c31
                  have c31b1 : (t101 != 0) = true := bne_iff_ne.mpr c31
                  obtain rfl := Option.some.inj H
                  go_wp2_with (first | ((with_reducible refine gate_callee (f := 21) rfl ?_); refine goesL_ (some 90) rfl rfl Try.func21 (by kernel_rfl) rfl #[.bool true, .int .u64 a1, .int .u64 a2] rfl (by (try simp only [List.map_toArray, List.map_cons, List.map_nil]); first | done | rfl | (simp only [List.length_drop, List.length_take]; rfl)) ?_; (with_reducible refine (stratalaw07_fate.calls true a1 a2 false _ A28.out).mono ?_); rintro e w' ⟨rfl, ⟨nd, rfl⟩⟩; refine ⟨_, rfl, ?_⟩))
                  go_ret
                  exact ⟨by first | rfl | (simp; done) | (simp [*]; done), by repeat (first | exact Drawn0.refl _ | apply Drawn0.step)⟩
            · rw [if_neg c27] at H
              have c27b0 : (a0 == 3) = false := beq_eq_false_iff_ne.mpr c27
              have c27b1 : (a0 != 3) = true := bne_iff_ne.mpr c27
              by_cases c32 : a0 = 4
              · rw [if_pos c32] at H
                have c32b0 : (a0 == 4) = true := beq_iff_eq.mpr c32
                have c32b1 : (a0 != 4) = false := bne_eq_false_iff_eq.mpr c32
                clear c32
                replace H := Option.bind_eq_some_iff.mp H
                obtain ⟨t110, A330, H⟩ := H
                replace H : (if t110 = true then (some false) else (if t101 = 0 then (some (t102 == 1)) else (some false))) = some r := H
                have A33 := Aside0.mk A330
                clear A330
                by_cases c34 : t110 = true
                · subst c34
                  have H1 : (some false) = some r := by rw [if_pos rfl] at H; exact H
                  clear H
                  have H := H1
                  clear H1
                  obtain rfl := Option.some.inj H
                  go_wp2_with (first | ((with_reducible refine gate_callee (f := 21) rfl ?_); refine goesL_ (some 107) rfl rfl Try.func21 (by kernel_rfl) rfl #[.bool false, .int .u64 a1, .int .u64 a2] rfl (by (try simp only [List.map_toArray, List.map_cons, List.map_nil]); first | done | rfl | (simp only [List.length_drop, List.length_take]; rfl)) ?_; (with_reducible refine (stratalaw07_fate.calls false a1 a2 true _ A33.out).mono ?_); rintro e w' ⟨rfl, ⟨nd, rfl⟩⟩; refine ⟨_, rfl, ?_⟩))
                  go_ret
                  exact ⟨by first | rfl | (simp; done) | (simp [*]; done), by repeat (first | exact Drawn0.refl _ | apply Drawn0.step)⟩
                · replace c34 := Bool.eq_false_iff.mpr c34
                  subst c34
                  have H1 : (if t101 = 0 then (some (t102 == 1)) else (some false)) = some r := by rw [if_neg (show ¬ (false = true) by decide)] at H; exact H
                  clear H
                  have H := H1
                  clear H1
                  by_cases c35 : t101 = 0
                  · rw [if_pos c35] at H
                    have c35b0 : (t101 == 0) = true := beq_iff_eq.mpr c35
                    have c35b1 : (t101 != 0) = false := bne_eq_false_iff_eq.mpr c35
                    clear c35
                    obtain rfl := Option.some.inj H
                    go_wp2_with (first | ((with_reducible refine gate_callee (f := 21) rfl ?_); refine goesL_ (some 107) rfl rfl Try.func21 (by kernel_rfl) rfl #[.bool false, .int .u64 a1, .int .u64 a2] rfl (by (try simp only [List.map_toArray, List.map_cons, List.map_nil]); first | done | rfl | (simp only [List.length_drop, List.length_take]; rfl)) ?_; (with_reducible refine (stratalaw07_fate.calls false a1 a2 false _ A33.out).mono ?_); rintro e w' ⟨rfl, ⟨nd, rfl⟩⟩; refine ⟨_, rfl, ?_⟩))
                    go_ret
                    exact ⟨by first | rfl | (simp; done) | (simp [*]; done), by repeat (first | exact Drawn0.refl _ | apply Drawn0.step)⟩
                  · rw [if_neg c35] at H
                    have c35b0 : (t101 == 0) = false := beq_eq_false_iff_ne.mpr c35
                    have c35b1 : (t101 != 0) = true := bne_iff_ne.mpr c35
                    obtain rfl := Option.some.inj H
                    go_wp2_with (first | ((with_reducible refine gate_callee (f := 21) rfl ?_); refine goesL_ (some 107) rfl rfl Try.func21 (by kernel_rfl) rfl #[.bool false, .int .u64 a1, .int .u64 a2] rfl (by (try simp only [List.map_toArray, List.map_cons, List.map_nil]); first | done | rfl | (simp only [List.length_drop, List.length_take]; rfl)) ?_; (with_reducible refine (stratalaw07_fate.calls false a1 a2 false _ A33.out).mono ?_); rintro e w' ⟨rfl, ⟨nd, rfl⟩⟩; refine ⟨_, rfl, ?_⟩))
                    go_ret
                    exact ⟨by first | rfl | (simp; done) | (simp [*]; done), by repeat (first | exact Drawn0.refl _ | apply Drawn0.step)⟩
              · rw [if_neg c32] at H
                have c32b0 : (a0 == 4) = false := beq_eq_false_iff_ne.mpr c32
                have c32b1 : (a0 != 4) = true := bne_iff_ne.mpr c32
                by_cases c36 : a0 = 5
                · rw [if_pos c36] at H
                  have c36b0 : (a0 == 5) = true := beq_iff_eq.mpr c36
                  have c36b1 : (a0 != 5) = false := bne_eq_false_iff_eq.mpr c36
                  clear c36
                  by_cases c37 : t101 = 4
                  · rw [if_pos c37] at H
                    have c37b0 : (t101 == 4) = true := beq_iff_eq.mpr c37
                    have c37b1 : (t101 != 4) = false := bne_eq_false_iff_eq.mpr c37
                    clear c37
                    obtain rfl := Option.some.inj H
                    go_wp2
                    go_ret
                    exact ⟨by first | rfl | (simp; done) | (simp [*]; done), by repeat (first | exact Drawn0.refl _ | apply Drawn0.step)⟩
                  · rw [if_neg c37] at H
                    have c37b0 : (t101 == 4) = false := beq_eq_false_iff_ne.mpr c37
                    have c37b1 : (t101 != 4) = true := bne_iff_ne.mpr c37
                    obtain rfl := Option.some.inj H
                    go_wp2
                    go_ret
                    exact ⟨by first | rfl | (simp; done) | (simp [*]; done), by repeat (first | exact Drawn0.refl _ | apply Drawn0.step)⟩
                · rw [if_neg c36] at H
                  have c36b0 : (a0 == 5) = false := beq_eq_false_iff_ne.mpr c36
                  have c36b1 : (a0 != 5) = true := bne_iff_ne.mpr c36
                  by_cases c38 : t101 = 0
                  · rw [if_pos c38] at H
                    have c38b0 : (t101 == 0) = true := beq_iff_eq.mpr c38
                    have c38b1 : (t101 != 0) = false := bne_eq_false_iff_eq.mpr c38
                    clear c38
                    obtain rfl := Option.some.inj H
                    go_wp2
                    go_ret
                    exact ⟨by first | rfl | (simp; done) | (simp [*]; done), by repeat (first | exact Drawn0.refl _ | apply Drawn0.step)⟩
                  · rw [if_neg c38] at H
                    have c38b0 : (t101 == 0) = false := beq_eq_false_iff_ne.mpr c38
                    have c38b1 : (t101 != 0) = true := bne_iff_ne.mpr c38
                    obtain rfl := Option.some.inj H
                    go_wp2
                    go_ret
                    exact ⟨by first | rfl | (simp; done) | (simp [*]; done), by repeat (first | exact Drawn0.refl _ | apply Drawn0.step)⟩

/-- THE ONE PURE STATEMENT of stratalaw07_VersionFates: yours. -/
def stratalaw07_VersionFates.Pure : Prop := ∀ (a0 : Int) (a1 : Int) (a2 : Int) (a3 : Int), (Lit.int .i64 a0).wf = true → (Lit.int .u64 a1).wf = true → (Lit.int .u64 a2).wf = true → (Lit.int .u64 a3).wf = true → ∃ k, stratalaw07_VersionFates.f k a0 a1 a2 a3 = some true
theorem stratalaw07_VersionFates.walk (P : stratalaw07_VersionFates.Pure) (a0 : Int) (a1 : Int) (a2 : Int) (a3 : Int) (w : World) (w0 : (Lit.int .i64 a0).wf = true) (w1 : (Lit.int .u64 a1).wf = true) (w2 : (Lit.int .u64 a2).wf = true) (w3 : (Lit.int .u64 a3).wf = true) :
    Calls Try.prog 9 #[.int .i64 a0, .int .u64 a1, .int .u64 a2, .int .u64 a3] w fun e w' => e = .returned (.bool true) ∧ Below w.heap.size w w' := by
  obtain ⟨k, h⟩ := P a0 a1 a2 a3 w0 w1 w2 w3
  refine (stratalaw07_VersionFates.calls k a0 a1 a2 a3 true w h).mono ?_
  rintro e w' ⟨rfl, hd⟩
  exact ⟨rfl, hd.below⟩

end Go.Proofs.Ytflinpnmpkdopaa.PVersionFates
