/- Own texts of this claim, joined in build order: S5, S6, S7, S8. -/
import Derived.Test.YtooigfkjdemnlaaGreatDoorG09
import Derived.Deep.Cut
import Derived.Deep.CutRange
import Derived.Test.YtooigfkjdemnlaaGreatDoorG08
set_option linter.all false
namespace Go.Proofs.YtooigfkjdemnlaaGreatDoor
set_option maxRecDepth 100000
open Go.RowKit Go.Lib Go.Sort Xw
section
variable {P : Program} {k : Nat} {α : Type} [Inhabited α]
theorem tdl (l Y : List α) (n : Nat) : l.take n ++ (l.drop n ++ Y) = l ++ Y := by rw [← List.append_assoc, List.take_append_drop]
def SymAsk (P : Program) (enc : α → List Value) (k : Nat) (cf : α → α → Int) (g : Nat) (cb : Array Value) (blk off cap : Nat) (d0 : Array α) (w0 : World) (n : Nat) : Prop :=
  ∀ (a m b : Nat) (pre A B post : List α) (w : World), A.length + B.length ≤ n → (pre ++ A ++ B ++ post).length = d0.size → Aside (SWK enc k w0 blk off (pre ++ A ++ B ++ post).toArray w) → Srtd (ltOf cf) A → Srtd (ltOf cf) B → A ≠ [] → B ≠ [] →
    a = pre.length → m = a + A.length → b = m + B.length →
    Calls P 155 #[.slice (some ⟨blk, off, none⟩) d0.size cap, .int .i64 a, .int .i64 m, .int .i64 b, .func (.func g) #[] cb] w fun e w' => e = .returned (.tuple #[]) ∧ ∃ C : List α, C.Perm (A ++ B) ∧ Srtd (ltOf cf) C ∧ SWK enc k w0 blk off (pre ++ C ++ post).toArray w'

set_option maxHeartbeats 16000000 in
theorem symMergeN (L : LayS P k) (enc : α → List Value) (cf : α → α → Int) (g : Nat) (cb : Array Value) (blk off cap a m b : Nat) (d0 : Array α) (pre A B post : List α) (w0 w : World) (R : RowK enc k w0 blk off d0)
    (eg : ∀ args w, (callFunc g args).run P w = .ok (.enter g args) w) (hcmp : CmpLays P g cb enc k cf blk off d0.size w0) (O : SWO (ltOf cf))
    (IH : SymAsk P enc k cf g cb blk off cap d0 w0 (A.length + B.length - 1))
    (hs : (pre ++ A ++ B ++ post).length = d0.size) (S : SWK enc k w0 blk off (pre ++ A ++ B ++ post).toArray w) (hA : Srtd (ltOf cf) A) (hB : Srtd (ltOf cf) B)
    (ha : a = pre.length) (hm : m = a + A.length) (hb : b = m + B.length) (hnA : 2 ≤ A.length) (hnB : 2 ≤ B.length) (hsz : d0.size < 2305843009213693952) :
    Calls P 155 #[.slice (some ⟨blk, off, none⟩) d0.size cap, .int .i64 a, .int .i64 m, .int .i64 b, .func (.func g) #[] cb] w fun e w' => e = .returned (.tuple #[]) ∧ ∃ C : List α, C.Perm (A ++ B) ∧ Srtd (ltOf cf) C ∧ SWK enc k w0 blk off (pre ++ C ++ post).toArray w' := by
  have mixed := L.mixed; have t0 := L.t0; have a0 := L.a0; have z0 := L.z0; have v0 := L.v0; have t3 := L.t3; have a3 := L.a3; have z3 := L.z3; have v3 := L.v3; have t4 := L.t4; have a4 := L.a4; have z4 := L.z4; have v4 := L.v4; have t22 := L.t22; have a22 := L.a22; have z22 := L.z22; have v22 := L.v22; have t25 := L.t25; have a25 := L.a25; have z25 := L.z25; have v25 := L.v25; have aE := L.aE; have zE := L.zE; have tu := L.tu; have au := L.au; have zu := L.zu; have vu := L.vu
  have erot : ∀ args w, (callFunc 177 args).run P w = .ok (.enter 177 args) w := enters_of L.fRot (by kernel_rfl) rfl
  have esym : ∀ args w, (callFunc 155 args).run P w = .ok (.enter 155 args) w := enters_of L.fSym (by kernel_rfl) rfl
  have S0 : Aside (SWK enc k w0 blk off (pre ++ A ++ B ++ post).toArray w) := S
  have HL : Hid (pre.length + A.length + B.length + post.length = d0.size ∧ 2 ≤ A.length ∧ 2 ≤ B.length) := Lib.hid (by simp at hs; omega)
  have HA : Hid (a = pre.length ∧ m = a + A.length ∧ b = m + B.length) := Lib.hid ⟨ha, hm, hb⟩
  have HIH : Aside _ := IH
  have HC : Aside _ := hcmp
  have gA : Hid (∀ t, t < A.length → (pre ++ A ++ B ++ post).toArray[a + t]! = A.getD t default) := Lib.hid (fun t ht => by
    have := get_at pre A (B ++ post) t ht
    rw [ha]; simpa using this)
  have gB : Hid (∀ t, t < B.length → (pre ++ A ++ B ++ post).toArray[m + t]! = B.getD t default) := Lib.hid (fun t ht => by
    have := get_at (pre ++ A) B post t ht
    rw [show m + t = (pre ++ A).length + t by simp; omega]; exact this)
  obtain ⟨nA, hA1⟩ : ∃ q, A.length = q := ⟨_, rfl⟩
  obtain ⟨nB, hB1⟩ : ∃ q, B.length = q := ⟨_, rfl⟩
  have r1 : IntKind.i64.wrap ((m : Int) - (a : Int)) = (nA : Int) := by have := HL.out; rw [IntKind.wrap_i64]; omega
  have r0 : IntKind.i64.wrap ((b : Int) - (m : Int)) = (nB : Int) := by have := HL.out; rw [IntKind.wrap_i64]; omega
  have q1 : ((nA : Int) == 1) = false := by simp; omega
  have q0 : ((nB : Int) == 1) = false := by simp; omega
  have hbz : b ≤ d0.size := by have := HL.out; omega
  have ham : a ≤ m := by omega
  have hmb : m ≤ b := by omega
  have HN : Hid (A.length = nA ∧ B.length = nB) := Lib.hid ⟨hA1, hB1⟩
  obtain ⟨mid, hmid⟩ : ∃ q, (a + b) / 2 = q := ⟨_, rfl⟩
  have em : ((a : Int) + (b : Int)) / 2 = (mid : Int) := by omega
  obtain ⟨nn, hnn⟩ : ∃ q, mid + m = q := ⟨_, rfl⟩
  have en : IntKind.i64.wrap ((mid : Int) + (m : Int)) = (nn : Int) := by rw [IntKind.wrap_i64]; omega
  obtain ⟨p, hp⟩ : ∃ q, nn = q + 1 := ⟨nn - 1, by have := HL.out; omega⟩
  have ep : IntKind.i64.wrap ((nn : Int) - 1) = (p : Int) := by rw [IntKind.wrap_i64]; omega
  have HM : Hid ((a + b) / 2 = mid ∧ mid + m = nn ∧ nn = p + 1) := Lib.hid ⟨hmid, hnn, hp⟩
  have hcase : ∃ s0 r0 : Nat, ((mid < m ∧ IntKind.i64.wrap ((nn : Int) - (b : Int)) = (s0 : Int) ∧ mid = r0) ∨ (¬ mid < m ∧ a = s0 ∧ m = r0)) ∧ a ≤ s0 ∧ s0 ≤ r0 ∧ r0 ≤ m ∧ r0 ≤ mid ∧ nn ≤ b + s0 ∧ nn ≤ r0 + (nn - r0) ∧ m + r0 ≤ nn ∧ Hid (s0 = a ∨ nn = b + s0) ∧ Hid (r0 = m ∨ nn = m + r0) := by
    have := HL.out
    by_cases hc : mid < m
    · refine ⟨nn - b, mid, .inl ⟨hc, ?_, rfl⟩, by omega, by omega, by omega, by omega, by omega, by omega, by omega, Lib.hid (.inr (by omega)), Lib.hid (.inr (by omega))⟩
      rw [IntKind.wrap_i64]; omega
    · exact ⟨a, m, .inr ⟨hc, rfl, rfl⟩, by omega, by omega, by omega, by omega, by omega, by omega, by omega, Lib.hid (.inl rfl), Lib.hid (.inl rfl)⟩
  have hmz : nn < 4611686018427387904 := by omega
  have hmidb : mid ≤ b := by omega
  have HRot : Hid (∀ (i ed : Nat) (wr : World), a ≤ i → i < m → m < ed → ed ≤ b → Aside (SWK enc k w0 blk off (pre ++ A ++ B ++ post).toArray wr) →
      Calls P 177 #[.slice (some ⟨blk, off, none⟩) d0.size cap, .int .i64 i, .int .i64 m, .int .i64 ed, .func (.func g) #[] cb] wr fun e w' => e = .returned (.tuple #[]) ∧ SWK enc k w0 blk off (pre ++ (A.take (i - a) ++ B.take (ed - m)) ++ (A.drop (i - a) ++ (B.drop (ed - m) ++ post))).toArray w') := Lib.hid (by
    intro i ed wr h1 h2 h3 h4 hS
    have hLL := HL.out
    have e : pre ++ A ++ B ++ post = (pre ++ A.take (i - a)) ++ A.drop (i - a) ++ B.take (ed - m) ++ (B.drop (ed - m) ++ post) := by
      simp only [List.append_assoc, tdl]
    have hS' := hS.out
    rw [e] at hS'
    refine (rotateG L enc blk off cap i m ed (.func (.func g) #[] cb) d0 (pre ++ A.take (i - a)) (A.drop (i - a)) (B.take (ed - m)) (B.drop (ed - m) ++ post) w0 wr R (by simp; omega) hS' (by simp; omega) (by simp; omega) (by simp; omega) ?_ ?_ (by omega)).mono ?_
    · intro h; have := congrArg List.length h; simp only [List.length_take, List.length_drop, List.length_nil] at this; omega
    · intro h; have := congrArg List.length h; simp only [List.length_take, List.length_drop, List.length_nil] at this; omega
    · rintro e w' ⟨he, hw⟩
      exact ⟨he, by simpa using hw⟩)
  have HNo : Hid (∀ i ed : Nat, a ≤ i → i ≤ m → m ≤ ed → ed ≤ b → ¬ (i < m ∧ m < ed) → pre ++ A ++ B ++ post = pre ++ (A.take (i - a) ++ B.take (ed - m)) ++ (A.drop (i - a) ++ (B.drop (ed - m) ++ post))) := Lib.hid (by
    intro i ed h1 h2 h3 h4 h
    rcases Nat.lt_or_ge i m with c | c
    · have : ed - m = 0 := by omega
      rw [this]; simp [tdl]
    · rw [List.take_of_length_le (show A.length ≤ i - a by omega), List.drop_of_length_le (show A.length ≤ i - a by omega)]; simp [tdl])
  have HR1 : Hid (∀ (i ed mid : Nat) (wr : World), a < i → i < mid → i ≤ m → m ≤ ed → ed ≤ b → mid + m = i + ed → mid < b → Aside (SWK enc k w0 blk off (pre ++ (A.take (i - a) ++ B.take (ed - m)) ++ (A.drop (i - a) ++ (B.drop (ed - m) ++ post))).toArray wr) →
      Calls P 155 #[.slice (some ⟨blk, off, none⟩) d0.size cap, .int .i64 a, .int .i64 i, .int .i64 mid, .func (.func g) #[] cb] wr fun e w' => e = .returned (.tuple #[]) ∧ ∃ C : List α, C.Perm (A.take (i - a) ++ B.take (ed - m)) ∧ Srtd (ltOf cf) C ∧ SWK enc k w0 blk off (pre ++ C ++ (A.drop (i - a) ++ (B.drop (ed - m) ++ post))).toArray w') := Lib.hid (by
    intro i ed mid wr h1 h2 h3 h4 h5 h6 h7 hS
    have hLL := HL.out
    refine HIH.out a i mid pre (A.take (i - a)) (B.take (ed - m)) (A.drop (i - a) ++ (B.drop (ed - m) ++ post)) wr (by simp; omega) (by simp; omega) (by simpa using hS) (hA.sublist (List.take_sublist _ _)) (hB.sublist (List.take_sublist _ _)) ?_ ?_ ha (by simp; omega) (by simp; omega)
    · intro h; have := congrArg List.length h; simp only [List.length_take, List.length_drop, List.length_nil] at this; omega
    · intro h; have := congrArg List.length h; simp only [List.length_take, List.length_drop, List.length_nil] at this; omega)
  have HN1 : Hid (∀ i ed mid : Nat, a ≤ i → i ≤ m → m ≤ ed → ed ≤ b → mid + m = i + ed → ¬ (a < i ∧ i < mid) → Srtd (ltOf cf) (A.take (i - a) ++ B.take (ed - m))) := Lib.hid (by
    intro i ed mid h1 h2 h3 h4 h5 h
    rcases Nat.lt_or_ge a i with c | c
    · rw [show ed - m = 0 by omega]; simp; exact hA.sublist (List.take_sublist _ _)
    · rw [show i - a = 0 by omega]; simp; exact hB.sublist (List.take_sublist _ _))
  have HR2 : Hid (∀ (i ed mid : Nat) (C : List α) (wr : World), a ≤ i → i ≤ m → mid < ed → ed < b → m ≤ ed → mid + m = i + ed → a < mid → C.Perm (A.take (i - a) ++ B.take (ed - m)) → Aside (SWK enc k w0 blk off (pre ++ C ++ (A.drop (i - a) ++ (B.drop (ed - m) ++ post))).toArray wr) →
      Calls P 155 #[.slice (some ⟨blk, off, none⟩) d0.size cap, .int .i64 mid, .int .i64 ed, .int .i64 b, .func (.func g) #[] cb] wr fun e w' => e = .returned (.tuple #[]) ∧ ∃ C' : List α, C'.Perm (A.drop (i - a) ++ B.drop (ed - m)) ∧ Srtd (ltOf cf) C' ∧ SWK enc k w0 blk off (pre ++ (C ++ C') ++ post).toArray w') := Lib.hid (by
    intro i ed mid C wr h1 h2 h3 h4 h5 h6 h7 hp hS
    have hLL := HL.out
    have hlen := hp.length_eq
    simp only [List.length_append, List.length_take] at hlen
    refine (HIH.out mid ed b (pre ++ C) (A.drop (i - a)) (B.drop (ed - m)) post wr (by simp; omega) (by simp; omega) (by simpa using hS) (hA.sublist (List.drop_sublist _ _)) (hB.sublist (List.drop_sublist _ _)) ?_ ?_ (by simp; omega) (by simp; omega) (by simp; omega)).mono ?_
    · intro h; have := congrArg List.length h; simp only [List.length_take, List.length_drop, List.length_nil] at this; omega
    · intro h; have := congrArg List.length h; simp only [List.length_take, List.length_drop, List.length_nil] at this; omega
    · rintro e w' ⟨he, C', q1, q2, q3⟩
      exact ⟨he, C', q1, q2, by simpa using q3⟩)
  have HN2 : Hid (∀ i ed mid : Nat, a ≤ i → i ≤ m → m ≤ ed → ed ≤ b → mid + m = i + ed → ¬ (mid < ed ∧ ed < b) → Srtd (ltOf cf) (A.drop (i - a) ++ B.drop (ed - m))) := Lib.hid (by
    intro i ed mid h1 h2 h3 h4 h5 h
    rcases Nat.lt_or_ge mid ed with c | c
    · rw [List.drop_of_length_le (show B.length ≤ ed - m by omega)]; simp; exact hA.sublist (List.drop_sublist _ _)
    · rw [List.drop_of_length_le (show A.length ≤ i - a by omega)]; simp; exact hB.sublist (List.drop_sublist _ _))
  have HEnd : Hid (∀ (i ed : Nat) (C C' : List α), a ≤ i → i ≤ m → m ≤ ed → ed ≤ b → ((i - a = 0 ∨ ed - m = B.length ∨ ltOf cf (B.getD (ed - m) default) (A.getD (i - a - 1) default) = false) ∧ (i - a = A.length ∨ ed - m = 0 ∨ ltOf cf (B.getD (ed - m - 1) default) (A.getD (i - a) default) = true)) →
      C.Perm (A.take (i - a) ++ B.take (ed - m)) → Srtd (ltOf cf) C → C'.Perm (A.drop (i - a) ++ B.drop (ed - m)) → Srtd (ltOf cf) C' → (C ++ C').Perm (A ++ B) ∧ Srtd (ltOf cf) (C ++ C')) := Lib.hid (by
    intro i ed C C' h1 h2 h3 h4 h q1 q2 q3 q4
    obtain ⟨u1, u2⟩ := cut_of O hA hB (s := i - a) (e := ed - m) (by omega) (by omega) h.1 h.2
    refine ⟨?_, srtd_cut O (by rw [List.take_append_drop]; exact hA) (by rw [List.take_append_drop]; exact hB) q1 q3 q2 q4 u1 u2⟩
    have := perm_cut q1 q3
    rwa [List.take_append_drop, List.take_append_drop] at this)
  clear S hs ha hm hb hcmp hA1 hB1 hmid hnn hp IH hnA hnB
  obtain ⟨s0, r0', hcase, k1, k2, k3, k4, k5, -, k6, HS0, HR0⟩ := hcase
  go_enter L.fSym, Tryz.ntmps155
  rcases hcase with ⟨c1, c2, rfl⟩ | ⟨c1, rfl, rfl⟩
  all_goals
    go_wp2
    go_loopw [20, 21, 23] (fun vi vj vh wr => ∃ i j : Nat, vi = .int .i64 i ∧ vj = .int .i64 j ∧ a ≤ i ∧ i ≤ j ∧ j ≤ m ∧ m + j ≤ nn ∧ nn ≤ b + i ∧
        Hid ((i - a = 0 ∨ nn - i - m = B.length ∨ ltOf cf (B.getD (nn - i - m) default) (A.getD (i - a - 1) default) = false) ∧ (j - a = A.length ∨ nn - j - m = 0 ∨ ltOf cf (B.getD (nn - j - m - 1) default) (A.getD (j - a) default) = true)) ∧ Aside (SWK enc k w0 blk off (pre ++ A ++ B ++ post).toArray wr))
      (fun vi vj _ _ => (intOf vj).toNat - (intOf vi).toNat)
    case atStart => exact ⟨_, _, rfl, rfl, k1, k2, k3, by omega, by omega, Lib.hid ⟨by have := HS0.out; have := HA.out; omega, by have := HR0.out; have := HA.out; omega⟩, S0⟩
    case round =>
      clear k1 k2 k3 k4 k5 k6 HS0 HR0 S0
      obtain ⟨i, j, rfl, rfl, k1, k2, k3, k4, k5, HI, S1⟩ := hrel
      by_cases hlt : i < j
      · have hsd : (pre ++ A ++ B ++ post).toArray.size = d0.size := by have := HL.out; simp; omega
        obtain ⟨c, hc⟩ : ∃ q, (i + j) / 2 = q := ⟨_, rfl⟩
        have hcij : i ≤ c ∧ c < j := by omega
        obtain ⟨hc1, hc2⟩ := hcij
        have ec : ((i : Int) + (j : Int)) / 2 = (c : Int) := by omega
        obtain ⟨e, he⟩ : ∃ q, p - c = q := ⟨_, rfl⟩
        have hpe : Hid (p = e + c ∧ nn = p + 1) := Lib.hid (by have := HM.out; omega)
        have ee : IntKind.i64.wrap ((p : Int) - (c : Int)) = (e : Int) := by have := hpe.out; rw [IntKind.wrap_i64]; omega
        have hebm : m ≤ e ∧ e < b := by have := hpe.out; omega
        obtain ⟨he1, he2⟩ := hebm
        have he3 : e < d0.size := by omega
        have hc3 : c < d0.size := by omega
        have l1 := S1.out.ld R hsd P e (by omega)
        have l2 := S1.out.ld R hsd P c (by omega)
        obtain ⟨y, hy⟩ : ∃ y, (pre ++ A ++ B ++ post).toArray[e]! = y := ⟨_, rfl⟩
        obtain ⟨x, hx⟩ : ∃ x, (pre ++ A ++ B ++ post).toArray[c]! = x := ⟨_, rfl⟩
        have hyB : Hid (B.getD (e - m) default = y) := Lib.hid (by
          rw [← hy, ← gB.out (e - m) (by have := HA.out; omega), show m + (e - m) = e by omega])
        have hxA : Hid (A.getD (c - a) default = x) := Lib.hid (by
          rw [← hx, ← gA.out (c - a) (by have := HA.out; omega), show a + (c - a) = c by omega])
        have hcg := fun n os => S1.out.cmp HC.out hsd y x n os
        rw [hy] at l1
        rw [hx] at l2
        have HE : Hid (p - c = e ∧ (i + j) / 2 = c ∧ p = e + c ∧ nn = p + 1) := Lib.hid ⟨he, hc, hpe.out.1, hpe.out.2⟩
        have HEm : Hid (m ≤ e) := Lib.hid he1
        clear hy hx hsd he hc hpe he1
        by_cases hlv : cf y x < 0
        · have HI2 : Hid ((i - a = 0 ∨ nn - i - m = B.length ∨ ltOf cf (B.getD (nn - i - m) default) (A.getD (i - a - 1) default) = false) ∧ (c - a = A.length ∨ nn - c - m = 0 ∨ ltOf cf (B.getD (nn - c - m - 1) default) (A.getD (c - a) default) = true)) :=
            Lib.hid ⟨HI.out.1, .inr (.inr (by have := HE.out; rw [show nn - c - m - 1 = e - m by omega, hyB.out, hxA.out]; exact decide_eq_true hlv))⟩
          have hdv : decide (cf y x < 0) = true := decide_eq_true hlv
          go_wp2_with fail
          go_quiet_grown (first | (go_at_fn g; refine Calls.grown_of (hcg _ _)))
          go_wp2
          exact ⟨⟨i, c, rfl, rfl, k1, hc1, by omega, by omega, k5, HI2, S1.out.grown nq osq⟩, by simp [intOf]; omega⟩
        · have HI2 : Hid ((c + 1 - a = 0 ∨ nn - (c + 1) - m = B.length ∨ ltOf cf (B.getD (nn - (c + 1) - m) default) (A.getD (c + 1 - a - 1) default) = false) ∧ (j - a = A.length ∨ nn - j - m = 0 ∨ ltOf cf (B.getD (nn - j - m - 1) default) (A.getD (j - a) default) = true)) :=
            Lib.hid ⟨.inr (.inr (by have := HE.out; have := HEm.out; rw [show nn - (c + 1) - m = e - m by omega, show c + 1 - a - 1 = c - a by omega, hyB.out, hxA.out]; exact decide_eq_false hlv)), HI.out.2⟩
          have hdv : decide (cf y x < 0) = false := decide_eq_false hlv
          go_wp2_with fail
          go_quiet_grown (first | (go_at_fn g; refine Calls.grown_of (hcg _ _)))
          go_wp2
          exact ⟨⟨c + 1, j, by simp, rfl, by omega, by omega, k3, k4, by omega, HI2, S1.out.grown nq osq⟩, by simp [intOf]; omega⟩
      · obtain rfl : i = j := by omega
        obtain ⟨ed, hed⟩ : ∃ q, nn - i = q := ⟨_, rfl⟩
        have eed : IntKind.i64.wrap ((nn : Int) - (i : Int)) = (ed : Int) := by rw [IntKind.wrap_i64]; omega
        have hgeo : m ≤ ed ∧ ed ≤ b ∧ mid + m = i + ed ∧ nn - i - m = ed - m := by have := HM.out; omega
        obtain ⟨g1, g2, g3, g4⟩ := hgeo
        have HG : Hid (mid + m = i + ed) := Lib.hid g3
        have hmb2 : Hid (mid < b ∧ a < mid) := by have h1 := HM.out; have h2 := HA.out; have h3 := HL.out; exact Lib.hid (by omega)
        have HI2 : Hid ((i - a = 0 ∨ ed - m = B.length ∨ ltOf cf (B.getD (ed - m) default) (A.getD (i - a - 1) default) = false) ∧ (i - a = A.length ∨ ed - m = 0 ∨ ltOf cf (B.getD (ed - m - 1) default) (A.getD (i - a) default) = true)) := by
          have := HI.out; rw [g4] at this; exact Lib.hid this
        clear HI hed g3 g4 hlt k2 k4 k5
        go_upto_region 39 with (fail)
        go_cut [185] from 178 (fun v wx => ∃ t, v = .bool t ∧ Hid (t = (decide (i < m) && decide (m < ed))) ∧ wx = wr)
        case first =>
          by_cases x1 : i < m
          · by_cases x2 : m < ed
            · go_wp2_with fail
              go_meet
              case rel => exact ⟨_, rfl, Lib.hid (by simp [x1, x2]), rfl⟩
            · go_wp2_with fail
              go_meet
              case rel => exact ⟨_, rfl, Lib.hid (by simp [x1, x2]), rfl⟩
          · go_wp2_with fail
            go_meet
            case rel => exact ⟨_, rfl, Lib.hid (by simp [x1]), rfl⟩
        case rest =>
        obtain ⟨tb, rfl, HTB, rfl⟩ := hcut
        go_upto_if 185 with (fail)
        go_cut [185] from 178 (fun v wx => Aside (SWK enc k w0 blk off (pre ++ (A.take (i - a) ++ B.take (ed - m)) ++ (A.drop (i - a) ++ (B.drop (ed - m) ++ post))).toArray wx))
        case first =>
          cases tb with
          | true =>
            have hx := HTB.out.symm
            simp only [Bool.and_eq_true, decide_eq_true_eq] at hx
            have hc := Lib.hid (HRot.out i ed _ k1 hx.1 hx.2 g2 S1)
            clear hx
            go_wp2_with (go_at_fn 177; refine (hc.out).mono ?_; rintro e w1 ⟨rfl, S2⟩; have S3 := Lib.hid S2; clear S2)
            go_meet
            case rel => exact S3.out
          | false =>
            have hx : ¬ (i < m ∧ m < ed) := fun h => by have := HTB.out; simp [h] at this
            have hc := Lib.hid (HNo.out i ed k1 k3 g1 g2 hx)
            clear hx
            go_wp2_with fail
            go_meet
            case rel => rw [← hc.out]; exact S1
        case rest =>
        have S2 : Aside (SWK enc k w0 blk off (pre ++ (A.take (i - a) ++ B.take (ed - m)) ++ (A.drop (i - a) ++ (B.drop (ed - m) ++ post))).toArray wc) := hcut
        clear hcut S1 HTB
        obtain ⟨wd, rfl⟩ : ∃ wd, wd = wc := ⟨_, rfl⟩
        go_upto_region 41 with (fail)
        go_cut [199] from 178 (fun v wx => ∃ t, v = .bool t ∧ Hid (t = (decide (a < i) && decide (i < mid))) ∧ wx = wd)
        case first =>
          by_cases x1 : a < i
          · by_cases x2 : i < mid
            · go_wp2_with fail
              go_meet
              case rel => exact ⟨_, rfl, Lib.hid (by simp [x1, x2]), rfl⟩
            · go_wp2_with fail
              go_meet
              case rel => exact ⟨_, rfl, Lib.hid (by simp [x1, x2]), rfl⟩
          · go_wp2_with fail
            go_meet
            case rel => exact ⟨_, rfl, Lib.hid (by simp [x1]), rfl⟩
        case rest =>
        obtain ⟨tb, rfl, HTB, rfl⟩ := hcut
        go_upto_if 199 with (fail)
        go_cut [199] from 178 (fun v wx => ∃ C : List α, Hid (C.Perm (A.take (i - a) ++ B.take (ed - m)) ∧ Srtd (ltOf cf) C) ∧ Aside (SWK enc k w0 blk off (pre ++ C ++ (A.drop (i - a) ++ (B.drop (ed - m) ++ post))).toArray wx))
        case first =>
          cases tb with
          | true =>
            have hx := HTB.out.symm
            simp only [Bool.and_eq_true, decide_eq_true_eq] at hx
            have hc := Lib.hid (HR1.out i ed mid _ hx.1 hx.2 k3 g1 g2 HG.out hmb2.out.1 S2)
            clear hx
            go_wp2_with (go_at_fn 155; refine (hc.out).mono ?_; rintro e w1 ⟨rfl, hC⟩; have S3 := Lib.hid hC; clear hC)
            go_meet
            case rel =>
              obtain ⟨C, q1, q2, q3⟩ := S3.out
              exact ⟨C, Lib.hid ⟨q1, q2⟩, q3⟩
          | false =>
            have hx : ¬ (a < i ∧ i < mid) := fun h => by have := HTB.out; simp [h] at this
            have hc := Lib.hid (HN1.out i ed mid k1 k3 g1 g2 HG.out hx)
            clear hx
            go_wp2_with fail
            go_meet
            case rel => exact ⟨_, Lib.hid ⟨List.Perm.refl _, hc.out⟩, S2⟩
        case rest =>
        obtain ⟨C, HP1, S3⟩ := hcut
        clear S2 HTB
        obtain ⟨we, rfl⟩ : ∃ we, we = wc := ⟨_, rfl⟩
        go_upto_region 43 with (fail)
        go_cut [213] from 178 (fun v wx => ∃ t, v = .bool t ∧ Hid (t = (decide (mid < ed) && decide (ed < b))) ∧ wx = we)
        case first =>
          by_cases x1 : mid < ed
          · by_cases x2 : ed < b
            · go_wp2_with fail
              go_meet
              case rel => exact ⟨_, rfl, Lib.hid (by simp [x1, x2]), rfl⟩
            · go_wp2_with fail
              go_meet
              case rel => exact ⟨_, rfl, Lib.hid (by simp [x1, x2]), rfl⟩
          · go_wp2_with fail
            go_meet
            case rel => exact ⟨_, rfl, Lib.hid (by simp [x1]), rfl⟩
        case rest =>
        obtain ⟨tb, rfl, HTB, rfl⟩ := hcut
        cases tb with
        | true =>
          have hx := HTB.out.symm
          simp only [Bool.and_eq_true, decide_eq_true_eq] at hx
          have hc := Lib.hid (HR2.out i ed mid C _ k1 k3 hx.1 hx.2 g1 HG.out hmb2.out.2 HP1.out.1 S3)
          clear hx
          go_wp2_with (go_at_fn 155; refine (hc.out).mono ?_; rintro e w1 ⟨rfl, hC⟩; have S4 := Lib.hid hC; clear hC)
          go_end0
          obtain ⟨C', q1, q2, q3⟩ := S4.out
          have := HEnd.out i ed C C' k1 k3 g1 g2 HI2.out HP1.out.1 HP1.out.2 q1 q2
          exact ⟨rfl, C ++ C', this.1, this.2, q3⟩
        | false =>
          have hx : ¬ (mid < ed ∧ ed < b) := fun h => by have := HTB.out; simp [h] at this
          have hc := Lib.hid (HN2.out i ed mid k1 k3 g1 g2 HG.out hx)
          clear hx
          go_wp2_with fail
          go_end0
          have := HEnd.out i ed C _ k1 k3 g1 g2 HI2.out HP1.out.1 HP1.out.2 (List.Perm.refl _) hc.out
          exact ⟨rfl, _, this.1, this.2, by simpa using S3.out⟩
end
end Go.Proofs.YtooigfkjdemnlaaGreatDoor

namespace Go.Proofs.YtooigfkjdemnlaaGreatDoor
set_option maxRecDepth 100000
open Go.RowKit Go.Lib Go.Sort Go.Shelf Xw
section
variable {P : Program} {k : Nat} {α : Type} [Inhabited α]
theorem symAll (L : LayS P k) (enc : α → List Value) (cf : α → α → Int) (g : Nat) (cb : Array Value) (blk off cap : Nat) (d0 : Array α) (w0 : World) (R : RowK enc k w0 blk off d0)
    (eg : ∀ args w, (callFunc g args).run P w = .ok (.enter g args) w) (hcmp : CmpLays P g cb enc k cf blk off d0.size w0) (O : SWO (ltOf cf)) (hsz : d0.size < 2305843009213693952) :
    ∀ n, SymAsk P enc k cf g cb blk off cap d0 w0 n := by
  intro n
  induction n with
  | zero =>
    intro a m b pre A B post w h hs S hA hB nA nB
    exact absurd (List.length_pos_iff.2 nA) (by omega)
  | succ n ih =>
    intro a m b pre A B post w h hs S hA hB nA nB ha hm hb
    have lA := List.length_pos_iff.2 nA
    have lB := List.length_pos_iff.2 nB
    by_cases c1 : A.length = 1
    · obtain ⟨x, rfl⟩ := List.length_eq_one_iff.1 c1
      exact symMerge1 L enc cf g cb blk off cap a m b d0 pre x B post w0 w R eg hcmp O hs S hB ha hm hb (by omega)
    · by_cases c2 : B.length = 1
      · obtain ⟨y, rfl⟩ := List.length_eq_one_iff.1 c2
        exact symMerge2 L enc cf g cb blk off cap a m b d0 pre A y post w0 w R eg hcmp O hs S hA ha hm hb c1 (by omega)
      · refine symMergeN L enc cf g cb blk off cap a m b d0 pre A B post w0 w R eg hcmp O ?_ hs S hA hB ha hm hb (by omega) (by omega) hsz
        intro a' m' b' pre' A' B' post' w' h' 
        exact ih a' m' b' pre' A' B' post' w' (by omega)
theorem CmpLays.on {g : Nat} {cb : Array Value} {enc : α → List Value} {cf : α → α → Int} {blk off size : Nat} {w0 W : World} {dk : Array α} (h : CmpLays P g cb enc k cf blk off size w0) (S : SWK enc k w0 blk off dk W) (hblk : blk < w0.heap.size) (hs : dk.size = size) : CmpLays P g cb enc k cf blk off size W := by
  intro m os d' hd x y
  obtain ⟨n', os', e⟩ := S.on hblk m d' os (by omega)
  rw [e]
  exact h n' os' d' hd x y
omit [Inhabited α] in
theorem srtd_iff [Inhabited α] {lt : α → α → Bool} (pre C post : List α) : SortedIn lt pre.length (pre.length + C.length) (pre ++ C ++ post).toArray ↔ Srtd lt C := by
  unfold SortedIn Srtd
  rw [List.pairwise_iff_getElem]
  have hg : ∀ t, (h : t < C.length) → (pre ++ C ++ post).toArray[pre.length + t]! = C[t] := fun t h => by
    rw [get_at pre C post t h]; simp [List.getD_eq_getElem?_getD, List.getElem?_eq_getElem h]
  constructor
  · intro h i j hi hj hij
    have := h (pre.length + i) (pre.length + j) (by omega) (by omega) (by omega)
    rwa [hg i hi, hg j hj] at this
  · intro h i j h1 h2 h3
    obtain ⟨i, rfl⟩ : ∃ t, i = pre.length + t := ⟨i - pre.length, by omega⟩
    obtain ⟨j, rfl⟩ : ∃ t, j = pre.length + t := ⟨j - pre.length, by omega⟩
    rw [hg i (by omega), hg j (by omega)]
    exact h i j (by omega) (by omega) (by omega)
theorem permIn_list (pre A post : List α) (d' : Array α) (h : PermIn pre.length (pre.length + A.length) (pre ++ A ++ post).toArray d') : ∃ C : List α, C.Perm A ∧ d' = (pre ++ C ++ post).toArray := by
  obtain ⟨h1, h2, h3⟩ := h
  have e : ((pre ++ A ++ post).toArray.extract pre.length (pre.length + A.length)).toList = A := by simp
  rw [e] at h3
  have h1' : d'.size = pre.length + A.length + post.length := by simpa [Nat.add_assoc] using h1
  refine ⟨_, h3, ?_⟩
  have hl := h3.length_eq
  refine ext_bang (by simp at hl ⊢; omega) fun t ht => ?_
  rw [h1'] at ht
  rcases Nat.lt_or_ge t pre.length with c | c
  · rw [h2 t (.inl c), bang_list, bang_list]
    simp [List.getD_eq_getElem?_getD, List.getElem?_append, c]
  · rcases Nat.lt_or_ge t (pre.length + A.length) with c2 | c2
    · obtain ⟨t, rfl⟩ : ∃ u, t = pre.length + u := ⟨t - pre.length, by omega⟩
      rw [get_at pre _ post t (by rw [hl]; omega)]
      rw [getElem!_pos d' _ (by omega)]
      have hlt : t < (d'.extract pre.length (pre.length + A.length)).toList.length := by rw [hl]; omega
      rw [List.getD_eq_getElem?_getD, List.getElem?_eq_getElem hlt]
      simp
    · rw [h2 t (.inr c2), bang_list, bang_list]
      simp only [List.getD_eq_getElem?_getD]
      rw [List.getElem?_append_right (by simp; omega), List.getElem?_append_right (by rw [List.length_append, hl]; omega), List.length_append, List.length_append, hl]
theorem insertion_sorts {lt : α → α → Bool} (O : SWO lt) (pre A post : List α) : ∃ C : List α, C.Perm A ∧ Srtd lt C ∧ Sort.insertionSort lt (pre ++ A ++ post).toArray pre.length (pre.length + A.length) = (pre ++ C ++ post).toArray := by
  obtain ⟨h1, h2⟩ := insertionSort_holds (lt := lt) O (pre ++ A ++ post).toArray pre.length (pre.length + A.length) (by omega) (by simp)
  obtain ⟨C, p, e⟩ := permIn_list pre A post _ h1
  rw [e] at h2
  rw [← p.length_eq] at h2
  exact ⟨C, p, (srtd_iff pre C post).1 h2, e⟩
end
def renI : Ren := ⟨fun x => if x = 20 then 154 else x, fun x => if x = 22 then 123 else if x = 24 then 125 else if x = 25 then 162 else if x = 0 then 0 else if x = 3 then 3 else if x = 4 then 4 else x, fun x => x⟩
theorem layI : SlLaysF0.n20 Tryz.prog renI where
  mixed := by kernel_rfl
  f20 := ⟨Tryz.f154.name, by kernel_rfl, Tryz.func154.trans (by kernel_rfl)⟩
  t0 := by kernel_rfl
  a0 := fun _ => by kernel_rfl
  z0 := fun _ => by kernel_rfl
  v0 := fun _ => by kernel_rfl
  t3 := by kernel_rfl
  a3 := fun _ => by kernel_rfl
  z3 := fun _ => by kernel_rfl
  v3 := fun _ => by kernel_rfl
  t4 := by kernel_rfl
  a4 := fun _ => by kernel_rfl
  z4 := fun _ => by kernel_rfl
  v4 := fun _ => by kernel_rfl
  t22 := by kernel_rfl
  a22 := fun _ => by kernel_rfl
  z22 := fun _ => by kernel_rfl
  v22 := fun _ => by kernel_rfl
  t25 := by kernel_rfl
  a25 := fun _ => by kernel_rfl
  z25 := fun _ => by kernel_rfl
  v25 := fun _ => by kernel_rfl
end Go.Proofs.YtooigfkjdemnlaaGreatDoor

namespace Go.Proofs.YtooigfkjdemnlaaGreatDoor
set_option maxRecDepth 100000
open Go.RowKit Go.Lib Go.Sort Go.Shelf Xw
instance : Inhabited Inst := ⟨⟨0, 0, false⟩⟩
theorem instC_one : ∀ x : Inst, ∀ v ∈ instC x, v.oneCell' = true := by
  intro x v hv
  simp only [instC, List.mem_cons, List.not_mem_nil, or_false] at hv
  rcases hv with rfl | rfl | rfl <;> rfl
theorem insertion_ (cf : Inst → Inst → Int) (g : Nat) (cb : Array Value) (blk off cap a b : Nat) (d0 : Array Inst) (w0 : World) (R : RowK instC 3 w0 blk off d0)
    (eg : ∀ args w, (callFunc g args).run Tryz.prog w = .ok (.enter g args) w) (hcmp : CmpLays Tryz.prog g cb instC 3 cf blk off d0.size w0) (O : SWO (ltOf cf)) (hsz : d0.size < 2305843009213693952)
    (pre A post : List Inst) (wr : World) (hs : (pre ++ A ++ post).length = d0.size) (S : SWK instC 3 w0 blk off (pre ++ A ++ post).toArray wr) (ha : a = pre.length) (hb : b = a + A.length) :
    Calls Tryz.prog 154 #[.slice (some ⟨blk, off, none⟩) d0.size cap, .int .i64 a, .int .i64 b, .func (.func g) #[] cb] wr fun e w' => e = .returned (.tuple #[]) ∧ ∃ C : List Inst, C.Perm A ∧ Srtd (ltOf cf) C ∧ SWK instC 3 w0 blk off (pre ++ C ++ post).toArray w' := by
  subst ha; subst hb
  have hsd : (pre ++ A ++ post).toArray.size = d0.size := by simpa using hs
  have h := AnyQ.insertionSortCmpFunc layI 3 Tryz.isAgg125 Tryz.sizeOf125 instC R.hk R.h1 cf g cb blk off cap pre.length (pre.length + A.length) (pre ++ A ++ post).toArray wr eg
    (by rw [hsd]; exact CmpLays.on hcmp S R.hblk hsd) (S.holds R.hblk R.hH hsd) (S.lt R.hblk) (by omega) (by simp) (by omega)
  rw [hsd] at h
  refine Calls.mono h ?_
  rintro e w' ⟨he, n, os, hw⟩
  obtain ⟨C, p, q, e2⟩ := insertion_sorts O pre A post
  refine ⟨he, C, p, q, ?_⟩
  rw [e2] at hw
  rw [hw]
  exact S.on R.hblk n _ os (by have := p.length_eq; simp at hsd ⊢; omega)
end Go.Proofs.YtooigfkjdemnlaaGreatDoor

namespace Go.Proofs.YtooigfkjdemnlaaGreatDoor
set_option maxRecDepth 100000
open Go.RowKit Go.Lib Go.Sort Go.Shelf Xw

set_option maxHeartbeats 8000000 in
theorem stable_ (cf : Inst → Inst → Int) (g : Nat) (cb : Array Value) (blk off cap : Nat) (l0 : List Inst) (w0 : World) (R : RowK instC 3 w0 blk off l0.toArray)
    (eg : ∀ args w, (callFunc g args).run Tryz.prog w = .ok (.enter g args) w) (hcmp : CmpLays Tryz.prog g cb instC 3 cf blk off l0.length w0) (O : SWO (ltOf cf)) (hsz : l0.length < 1152921504606846976) :
    Calls Tryz.prog 113 #[.slice (some ⟨blk, off, none⟩) l0.length cap, .int .i64 l0.length, .func (.func g) #[] cb] w0 fun e w' => e = .returned (.tuple #[]) ∧ ∃ l : List Inst, l.Perm l0 ∧ Srtd (ltOf cf) l ∧ SWK instC 3 w0 blk off l.toArray w' := by
  obtain ⟨n, hn⟩ : ∃ n, l0.length = n := ⟨_, rfl⟩
  rw [hn]
  have hn' : l0.toArray.size = n := by simpa using hn
  have HI : Hid (∀ (a b : Nat) (pre A post : List Inst) (wr : World), (pre ++ (A ++ post)).length = n → Aside (SWK instC 3 w0 blk off (pre ++ (A ++ post)).toArray wr) → a = pre.length → b = a + A.length →
      Calls Tryz.prog 154 #[.slice (some ⟨blk, off, none⟩) n cap, .int .i64 a, .int .i64 b, .func (.func g) #[] cb] wr fun e w' => e = .returned (.tuple #[]) ∧ ∃ C : List Inst, C.Perm A ∧ Srtd (ltOf cf) C ∧ SWK instC 3 w0 blk off (pre ++ (C ++ post)).toArray w') := Lib.hid (by
    intro a b pre A post wr hs S ha hb
    have h := insertion_ cf g cb blk off cap a b l0.toArray w0 R eg (by rw [hn', ← hn]; exact hcmp) O (by omega) pre A post wr (by rw [hn', ← hs]; simp) (by have := S.out; simpa using this) ha hb
    rw [hn'] at h
    refine h.mono ?_
    rintro e w' ⟨he, C, p, q, s⟩
    exact ⟨he, C, p, q, by simpa using s⟩)
  have HS : Hid (∀ (a m b : Nat) (pre A B post : List Inst) (wr : World), (pre ++ (A ++ (B ++ post))).length = n → Aside (SWK instC 3 w0 blk off (pre ++ (A ++ (B ++ post))).toArray wr) → Srtd (ltOf cf) A → Srtd (ltOf cf) B → 0 < A.length → 0 < B.length → a = pre.length → m = a + A.length → b = m + B.length →
      Calls Tryz.prog 155 #[.slice (some ⟨blk, off, none⟩) n cap, .int .i64 a, .int .i64 m, .int .i64 b, .func (.func g) #[] cb] wr fun e w' => e = .returned (.tuple #[]) ∧ ∃ C : List Inst, C.Perm (A ++ B) ∧ Srtd (ltOf cf) C ∧ SWK instC 3 w0 blk off (pre ++ (C ++ post)).toArray w') := Lib.hid (by
    intro a m b pre A B post wr hs S hA hB lA lB ha hm hb
    have h := symAll layS instC cf g cb blk off cap l0.toArray w0 R eg (by rw [hn', ← hn]; exact hcmp) O (by omega) (A.length + B.length) a m b pre A B post wr (Nat.le_refl _) (by rw [hn', ← hs]; simp) (by have := S.out; show SWK instC 3 w0 blk off _ wr; simpa using this) hA hB (List.length_pos_iff.1 lA) (List.length_pos_iff.1 lB) ha hm hb
    rw [hn'] at h
    refine h.mono ?_
    rintro e w' ⟨he, C, p, q, s⟩
    exact ⟨he, C, p, q, by simpa using s⟩)
  have S0 : Aside (SWK instC 3 w0 blk off l0.toArray w0) := SWK.start R.hH
  have HNL : Hid (l0.length = n) := Lib.hid hn
  have hnz : n < 1152921504606846976 := by omega
  clear hn hn' hcmp R eg hsz
  go_enter Tryz.func113, Tryz.ntmps113
  go_wp2
  go_loopw [7, 8] (fun va vb wr => ∃ (a : Nat) (dn rs : List Inst), va = .int .i64 a ∧ vb = .int .i64 ((a + 20 : Nat) : Int) ∧ a ≤ n ∧ Hid (a = dn.length ∧ (dn ++ rs).Perm l0 ∧ Full (ltOf cf) 20 dn) ∧ Aside (SWK instC 3 w0 blk off (dn ++ rs).toArray wr)) (fun va _ _ => n - (intOf va).toNat)
  case atStart => exact ⟨0, [], l0, rfl, by simp, by omega, Lib.hid ⟨rfl, List.Perm.refl _, Full.nil⟩, S0⟩
  case round =>
    obtain ⟨a, dn, rs, rfl, rfl, ha, HD, S1⟩ := hrel
    have HLn : Hid (dn.length + rs.length = n) := Lib.hid (by have := HD.out.2.1.length_eq; have := HNL.out; simp at *; omega)
    by_cases hlt : a + 20 ≤ n
    · obtain ⟨b, hb⟩ : ∃ b, b = a + 20 := ⟨_, rfl⟩
      have hbn : b ≤ n := by omega
      have hc := Lib.hid (HI.out a b dn (rs.take 20) (rs.drop 20) wr (by rw [List.take_append_drop]; have := HLn.out; simp; omega) (by rw [List.take_append_drop]; exact S1) HD.out.1 (by have := HD.out; have := HLn.out; simp; omega))
      have hbb : ((a + 20 : Nat) : Int) = (b : Int) := by rw [hb]
      have HB := Lib.hid hb
      rw [hbb]
      clear hb hbb hlt S1
      go_wp2_with (go_at_call 154; refine (hc.out).mono ?_; rintro e w1 ⟨rfl, hC⟩; have S3 := Lib.hid hC; clear hC)
      obtain ⟨C, p, q, s⟩ := S3.out
      have hB := HB.out
      refine ⟨⟨b, dn ++ C, rs.drop 20, rfl, by simp, hbn, Lib.hid ⟨?_, ?_, ?_⟩, by show SWK instC 3 w0 blk off _ w1; simpa using s⟩, by simp [intOf]; omega⟩
      · have := p.length_eq; have := HD.out; have := HLn.out; simp at *; omega
      · refine List.Perm.trans ?_ HD.out.2.1
        rw [List.append_assoc]
        refine List.Perm.append_left _ ?_
        conv => rhs; rw [← List.take_append_drop 20 rs]
        exact p.append_right _
      · exact Full.snoc dn C HD.out.2.2 (by have := p.length_eq; have := HD.out; have := HLn.out; simp at *; omega) q
    · have hc := Lib.hid (HI.out a n dn rs [] wr (by have := HLn.out; simp; omega) (by simpa using S1) HD.out.1 (by have := HD.out; have := HLn.out; omega))
      have hlt' : ¬ ((a : Int) + 20 ≤ (n : Int)) := by omega
      clear S1
      go_wp2_with (go_at_call 154; refine (hc.out).mono ?_; rintro e w1 ⟨rfl, hC⟩; have S3 := Lib.hid hC; clear hC)
      obtain ⟨C, hC⟩ := S3.out
      have HR1 : Hid ((dn ++ C).Perm l0 ∧ Runs (ltOf cf) 20 (dn ++ C)) := Lib.hid ⟨(List.Perm.append_left _ hC.1).trans HD.out.2.1, HD.out.2.2.runs (Runs.last _ (by have := hC.1.length_eq; have := HD.out; have := HLn.out; omega) hC.2.1)⟩
      have S4 : Aside (SWK instC 3 w0 blk off (dn ++ C).toArray w1) := by have := hC.2.2; show SWK instC 3 w0 blk off _ w1; simpa using this
      obtain ⟨l1, hl1⟩ : ∃ l1, dn ++ C = l1 := ⟨_, rfl⟩
      rw [hl1] at HR1 S4
      clear S3 hC hl1 HD HLn hlt hlt' hc S0
      go_loopw [6, 7, 8, 9] (fun vs _ _ _ wr => ∃ (bs : Nat) (l : List Inst), vs = .int .i64 bs ∧ 20 ≤ bs ∧ bs ≤ 2 * n + 20 ∧ Hid (l.Perm l0 ∧ Runs (ltOf cf) bs l) ∧ Aside (SWK instC 3 w0 blk off l.toArray wr)) (fun vs _ _ _ _ => 2 * n + 40 - (intOf vs).toNat)
      case atStart => exact ⟨20, l1, rfl, by omega, by omega, HR1, S4⟩
      case round =>
        clear HR1 S4
        obtain ⟨bs, l, rfl, hb1, hb2, HL, S5⟩ := hrel
        by_cases hbn : bs < n
        · obtain ⟨e, he⟩ : ∃ e, 2 * bs = e := ⟨_, rfl⟩
          have m2 : 2 * (bs : Int) = (e : Int) := by omega
          have m3 : (bs : Int) * 2 = (e : Int) := by omega
          have hez : e ≤ 2 * n := by omega
          have hbe : bs < e := by omega
          have HE := Lib.hid he
          clear he
          go_wp2_with fail
          go_loopw [7, 8] (fun va vb wr => ∃ (a : Nat) (dn rs : List Inst), va = .int .i64 a ∧ vb = .int .i64 ((a + e : Nat) : Int) ∧ a ≤ n ∧ Hid (a = dn.length ∧ (dn ++ rs).Perm l0 ∧ Full (ltOf cf) e dn ∧ Runs (ltOf cf) bs rs) ∧ Aside (SWK instC 3 w0 blk off (dn ++ rs).toArray wr)) (fun va _ _ => n - (intOf va).toNat)
          case atStart => exact ⟨0, [], l, rfl, by simp, by omega, Lib.hid ⟨rfl, HL.out.1, Full.nil, HL.out.2⟩, S5⟩
          case round =>
            clear S5 HL
            obtain ⟨a, dn, rs, rfl, rfl, ha, HD, S1⟩ := hrel
            have HLn : Hid (dn.length + rs.length = n) := Lib.hid (by have := HD.out.2.1.length_eq; have := HNL.out; simp at *; omega)
            obtain ⟨b, hb⟩ : ∃ b, b = a + e := ⟨_, rfl⟩
            obtain ⟨m, hm⟩ : ∃ m, m = a + bs := ⟨_, rfl⟩
            have hbb : ((a + e : Nat) : Int) = (b : Int) := by rw [hb]
            have am : (a : Int) + (bs : Int) = (m : Int) := by omega
            by_cases hlt : b ≤ n
            · obtain ⟨X, Y, r, rfl, x1, x2, x3, x4, x5⟩ := HD.out.2.2.2.two (by omega) (by have := HD.out; have := HLn.out; have := HE.out; omega)
              have hc := Lib.hid (HS.out a m b dn X Y r wr (by have := HLn.out; simp at *; omega) S1 x3 x4 (by omega) (by omega) HD.out.1 (by omega) (by have := HE.out; omega))
              have HX := Lib.hid (And.intro x1 (And.intro x2 x5))
              have HB := Lib.hid hb
              rw [hbb]
              clear hb hm hbb S1 x1 x2 x3 x4 x5
              go_wp2_with (go_at_call 155; refine (hc.out).mono ?_; rintro e' w2 ⟨rfl, hC⟩; have S3 := Lib.hid hC; clear hC)
              obtain ⟨C', p, q, s⟩ := S3.out
              have hB := HB.out
              have hlC : C'.length = e := by have := p.length_eq; have := HX.out; have := HE.out; simp at *; omega
              refine ⟨⟨b, dn ++ C', r, rfl, by simp, hlt, Lib.hid ⟨?_, ?_, ?_, HX.out.2.2⟩, by show SWK instC 3 w0 blk off _ w2; simpa using s⟩, by have := HE.out; simp [intOf]; omega⟩
              · have := HD.out; simp; omega
              · refine List.Perm.trans ?_ HD.out.2.1
                rw [List.append_assoc, ← List.append_assoc X]
                exact List.Perm.append_left _ (p.append_right _)
              · exact Full.snoc dn C' HD.out.2.2.1 hlC q
            · by_cases hmn : m < n
              · obtain ⟨X, Y, rfl, x1, x2, x3⟩ := HD.out.2.2.2.take (by have := HD.out; have := HLn.out; omega)
                have hYl : 0 < Y.length ∧ Y.length < bs := by have := HD.out; have := HLn.out; have := HE.out; simp at *; omega
                have hc := Lib.hid (HS.out a m n dn X Y [] wr (by have := HLn.out; simp at *; omega) (by simpa using S1) x2 (x3.small (by omega)) (by omega) (by omega) HD.out.1 (by omega) (by have := HLn.out; have := HD.out; simp at *; omega))
                have HX := Lib.hid (And.intro x1 hYl)
                rw [hbb]
                have HB := Lib.hid hb
                clear hb hm hbb S1 x1 x2 x3 hYl
                go_wp2_with (go_at_call 155; refine (hc.out).mono ?_; rintro e' w2 ⟨rfl, hC⟩; have S3 := Lib.hid hC; clear hC)
                obtain ⟨C', p, q, s⟩ := S3.out
                refine ⟨⟨e, dn ++ C', rfl, by omega, by omega, Lib.hid ⟨?_, ?_⟩, by show SWK instC 3 w0 blk off _ w2; simpa using s⟩, by have := HE.out; simp [intOf]; omega⟩
                · exact (List.Perm.append_left _ p).trans HD.out.2.1
                · exact HD.out.2.2.1.runs (Runs.last _ (by have := p.length_eq; have := HX.out; have := HE.out; simp at *; omega) q)
              · have hc := Lib.hid (HD.out.2.2.2.small (by have := HD.out; have := HLn.out; omega))
                rw [hbb]
                have HB := Lib.hid hb
                have HM := Lib.hid hm
                clear hb hm hbb
                go_wp2_with fail
                refine ⟨⟨e, dn ++ rs, rfl, by omega, by omega, Lib.hid ⟨HD.out.2.1, ?_⟩, S1⟩, by have := HE.out; simp [intOf]; omega⟩
                exact HD.out.2.2.1.runs (Runs.last _ (by have := HD.out; have := HLn.out; have := HE.out; have := HM.out; omega) hc.out)
        · go_wp2_with fail
          go_end0
          exact ⟨rfl, l, HL.out.1, HL.out.2.small (by have := HL.out.1.length_eq; have := HNL.out; omega), S5⟩
end Go.Proofs.YtooigfkjdemnlaaGreatDoor
