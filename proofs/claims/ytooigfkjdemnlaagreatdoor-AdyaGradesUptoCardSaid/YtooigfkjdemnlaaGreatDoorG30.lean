/- Own texts of this claim, joined in build order: Th2, Th3, D6. -/
import Derived.Test.YtooigfkjdemnlaaGreatDoorG29
set_option linter.all false
namespace Go.Proofs.YtooigfkjdemnlaaGreatDoor

abbrev KSt := ByteArray → Option HVer
def put (s : KSt) (k : ByteArray) (v : Option HVer) : KSt := fun k' => if k' = k then v else s k'
def hver0 : HVer := ⟨⟨#[]⟩, 0, 0⟩
def stepO (x : HTx) (t : Nat) (i : Nat) (o : HOpr) (s : KSt) : KSt := if o.kind = 2 then put s o.ver.key (if o.dead then none else some ⟨o.ver.key, t, (wrUpto x (i + 1) o.ver.key).length⟩) else s
def applyN (x : HTx) (t : Nat) (s : KSt) : Nat → KSt
  | 0 => s
  | i + 1 => match x.ops[i]? with
    | some o => stepO x t i o (applyN x t s i)
    | none => applyN x t s i
def stAt (h : List HTx) (l : List Nat) : Nat → KSt
  | 0 => fun _ => none
  | n + 1 => match l[n]? with
    | some t => (match h[t]? with
      | some x => applyN x t (stAt h l n) x.ops.length
      | none => stAt h l n)
    | none => stAt h l n
def SameP (s : KSt) (o : HOpr) : Prop :=
  if o.kind = 1 then (s o.ver.key).getD hver0 = o.ver
  else ∃ ks : List ByteArray, ks.Pairwise (fun a b => klt a b = true) ∧ (∀ k, k ∈ ks ↔ s k ≠ none) ∧ o.seen = (ks.filter (covers o)).map fun k => (s k).getD hver0
def ReplayOK (h : List HTx) (l : List Nat) : Prop := ∀ n t x i o, l[n]? = some t → h[t]? = some x → x.ops[i]? = some o → o.kind ≠ 2 → SameP (applyN x t (stAt h l n) i) o

theorem wrFrom_ge : ∀ (l : List HOpr) (k : ByteArray) (i : Nat), ∀ u ∈ wrFrom l k i, i ≤ u.op ∧ u.op < i + l.length
  | [], k, i, u, hu => by simp [wrFrom] at hu
  | o :: r, k, i, u, hu => by
    simp only [wrFrom] at hu
    have hr : u ∈ wrFrom r k (i + 1) → i ≤ u.op ∧ u.op < i + (o :: r).length := fun h => by
      have := wrFrom_ge r k (i + 1) u h
      simp only [List.length_cons]
      omega
    split at hu
    · rcases List.mem_cons.1 hu with h1 | h1
      · subst h1; simp
      · exact hr h1
    · exact hr hu
theorem takeWhile_none {α : Type} {p : α → Bool} : ∀ {l : List α}, (∀ x ∈ l, p x = false) → l.takeWhile p = []
  | [], _ => rfl
  | a :: r, h => by rw [List.takeWhile_cons, h a (List.mem_cons_self ..)]; rfl
theorem aheadL_wrUpto {x : HTx} {k : ByteArray} {i : Nat} (hi : i ≤ x.ops.length) : aheadL x k i = wrUpto x i k := by
  unfold aheadL writes wrUpto
  have hs : wrFrom x.ops k 0 = wrFrom (x.ops.take i) k 0 ++ wrFrom (x.ops.drop i) k i := by
    have := wrFrom_append (x.ops.take i) (x.ops.drop i) k 0
    rw [List.take_append_drop, List.length_take, Nat.min_eq_left hi, Nat.zero_add] at this
    exact this
  rw [hs, List.takeWhile_append_of_pos, takeWhile_none, List.append_nil]
  · intro u hu
    have := wrFrom_ge _ _ _ u hu
    simp; omega
  · intro u hu
    have := wrFrom_ge _ _ _ u hu
    rw [List.length_take, Nat.min_eq_left hi] at this
    simp; omega
theorem wrUpto_pre {x : HTx} {k : ByteArray} {i : Nat} (hi : i ≤ x.ops.length) : ∃ r, writes x k = wrUpto x i k ++ r := by
  have := wrFrom_append (x.ops.take i) (x.ops.drop i) k 0
  rw [List.take_append_drop] at this
  exact ⟨_, this⟩
theorem applyN_spec (x : HTx) (t : Nat) (s : KSt) (k : ByteArray) : ∀ i, i ≤ x.ops.length → applyN x t s i k = match (wrUpto x i k).getLast? with
    | none => s k
    | some u => if u.dead then none else some ⟨k, t, (wrUpto x i k).length⟩
  | 0, _ => by simp [applyN, wrUpto_zero]
  | i + 1, hi => by
    have ih := applyN_spec x t s k i (by omega)
    obtain ⟨o, ho⟩ : ∃ o, x.ops[i]? = some o := ⟨_, List.getElem?_eq_getElem (by omega)⟩
    have hu := wrUpto_succ ho k
    simp only [applyN, ho]
    unfold stepO
    by_cases hk : o.kind = 2
    · rw [if_pos hk]
      unfold put
      by_cases hkk : k = o.ver.key
      · subst hkk
        rw [if_pos rfl]
        have hu2 : wrUpto x (i + 1) o.ver.key = wrUpto x i o.ver.key ++ [⟨i, o.dead, o.value⟩] := by rw [hu, if_pos (And.intro rfl hk)]
        rw [hu2, List.getLast?_concat]
      · rw [if_neg hkk, hu, if_neg (fun h => hkk h.1)]
        exact ih
    · rw [if_neg hk, hu, if_neg (fun h => hk h.2)]
      exact ih
theorem applyN_all (x : HTx) (t : Nat) (s : KSt) (k : ByteArray) : applyN x t s x.ops.length k = match (writes x k).getLast? with
    | none => s k
    | some u => if u.dead then none else some ⟨k, t, (writes x k).length⟩ := by
  rw [applyN_spec x t s k _ (Nat.le_refl _), wrUpto_all]
theorem insFrom_iff : ∀ (l : List HTx) (k : ByteArray) (i : Nat) (u : Inst), u ∈ insFrom l k i ↔ ∃ j x w, l[j]? = some x ∧ x.fate = 1 ∧ (writes x k).getLast? = some w ∧ u = ⟨i + j, x.fin, w.dead⟩
  | [], k, i, u => by simp [insFrom]
  | x :: r, k, i, u => by
    have ih := insFrom_iff r k (i + 1) u
    have hrest : (∃ j y w, r[j]? = some y ∧ y.fate = 1 ∧ (writes y k).getLast? = some w ∧ u = ⟨i + 1 + j, y.fin, w.dead⟩) ↔ ∃ j y w, (x :: r)[j + 1]? = some y ∧ y.fate = 1 ∧ (writes y k).getLast? = some w ∧ u = ⟨i + (j + 1), y.fin, w.dead⟩ := by
      constructor
      · rintro ⟨j, y, w, h1, h2, h3, h4⟩
        exact ⟨j, y, w, by simpa using h1, h2, h3, by rw [h4]; congr 1; omega⟩
      · rintro ⟨j, y, w, h1, h2, h3, h4⟩
        exact ⟨j, y, w, by simpa using h1, h2, h3, by rw [h4]; congr 1; omega⟩
    simp only [insFrom]
    cases hf : x.fate == 1 with
    | false =>
      have hf' : x.fate ≠ 1 := by simpa using hf
      simp only
      rw [ih, hrest]
      constructor
      · rintro ⟨j, h1⟩; exact ⟨j + 1, h1⟩
      · rintro ⟨j, y, w, h1, h2, h3⟩
        cases j with
        | zero => simp at h1; subst h1; exact absurd h2 hf'
        | succ j => exact ⟨j, y, w, h1, h2, h3⟩
    | true =>
      have hf' : x.fate = 1 := by simpa using hf
      cases hl : (writes x k).getLast? with
      | none =>
        simp only
        rw [ih, hrest]
        constructor
        · rintro ⟨j, h1⟩; exact ⟨j + 1, h1⟩
        · rintro ⟨j, y, w, h1, h2, h3, h4⟩
          cases j with
          | zero => simp at h1; subst h1; rw [hl] at h3; cases h3
          | succ j => exact ⟨j, y, w, h1, h2, h3, h4⟩
      | some w0 =>
        simp only [List.mem_cons]
        rw [ih, hrest]
        constructor
        · rintro (h1 | ⟨j, h1⟩)
          · exact ⟨0, x, w0, rfl, hf', hl, h1⟩
          · exact ⟨j + 1, h1⟩
        · rintro ⟨j, y, w, h1, h2, h3, h4⟩
          cases j with
          | zero => simp at h1; subst h1; rw [hl] at h3; cases h3; exact .inl h4
          | succ j => exact .inr ⟨j, y, w, h1, h2, h3, h4⟩
theorem mem_order {h : List HTx} {k : ByteArray} {u : Inst} : u ∈ order h k ↔ ∃ x w, h[u.txn]? = some x ∧ x.fate = 1 ∧ (writes x k).getLast? = some w ∧ u = ⟨u.txn, x.fin, w.dead⟩ := by
  unfold order
  rw [List.mem_mergeSort, insFrom_iff]
  constructor
  · rintro ⟨j, x, w, h1, h2, h3, h4⟩
    rw [Nat.zero_add] at h4
    have : u.txn = j := by rw [h4]
    subst this
    exact ⟨x, w, h1, h2, h3, h4⟩
  · rintro ⟨x, w, h1, h2, h3, h4⟩
    exact ⟨u.txn, x, w, h1, h2, h3, by rw [Nat.zero_add]; exact h4⟩
theorem order_nodup (h : List HTx) (k : ByteArray) : ((order h k).map (·.txn)).Nodup := by
  unfold order
  exact ((List.mergeSort_perm _ _).map _).nodup_iff.2 (insFrom_nodup h k)
theorem order_inj {h : List HTx} {k : ByteArray} {i j : Nat} {u v : Inst} (hi : (order h k)[i]? = some u) (hj : (order h k)[j]? = some v) (ht : u.txn = v.txn) : i = j := by
  have h1 : ((order h k).map (·.txn))[i]? = ((order h k).map (·.txn))[j]? := by rw [List.getElem?_map, List.getElem?_map, hi, hj]; simp [ht]
  exact (List.getElem?_inj (by rw [List.length_map]; exact (List.getElem?_eq_some_iff.1 hi).1) (order_nodup h k)).1 h1
theorem com_iff {h : List HTx} {t : Nat} : com h t = true ↔ ∃ x, h[t]? = some x ∧ x.fate = 1 := by
  unfold com
  cases h[t]? with
  | none => simp
  | some x => simp
theorem key_of_order {h : List HTx} {k : ByteArray} {i : Nat} {u : Inst} (hi : (order h k)[i]? = some u) : k ∈ keysOf h := by
  rw [mem_keysOf_ins]
  intro hn
  have hl := order_len h k
  rw [hn] at hl
  have h1 := (List.getElem?_eq_some_iff.1 hi).1
  rw [hl] at h1
  exact absurd h1 (by simp)
theorem writes_key {h : List HTx} {k : ByteArray} {t : Nat} {x : HTx} {w : Wrote} (hx : h[t]? = some x) (hc : com h t = true) (hw : (writes x k).getLast? = some w) : ∃ i : Nat, (order h k)[i]? = some ⟨t, x.fin, w.dead⟩ := by
  obtain ⟨y, hy, hf⟩ := com_iff.1 hc
  rw [hx] at hy; cases hy
  exact List.mem_iff_getElem?.1 (mem_order.2 ⟨x, w, hx, hf, hw, rfl⟩)

structure Line (h : List HTx) (l : List Nat) : Prop where
  nd : l.Nodup
  cm : ∀ t, t ∈ l ↔ com h t = true
  rise : ∀ e ∈ edgesOf h, ∃ i j a b : Nat, i < j ∧ l[i]? = some a ∧ l[j]? = some b ∧ e.frm = (a : Int) ∧ e.to = (b : Int)
variable {h : List HTx} {l : List Nat} {k : ByteArray}
theorem Line.inj (L : Line h l) {i j a : Nat} (hi : l[i]? = some a) (hj : l[j]? = some a) : i = j :=
  (List.getElem?_inj (List.getElem?_eq_some_iff.1 hi).1 L.nd).1 (hi.trans hj.symm)
theorem Line.at_ (L : Line h l) {i : Nat} {u : Inst} (hi : (order h k)[i]? = some u) : ∃ m : Nat, l[m]? = some u.txn := by
  obtain ⟨x, w, h1, h2, h3⟩ := mem_order.1 (List.mem_of_getElem? hi)
  exact List.mem_iff_getElem?.1 ((L.cm _).2 (com_iff.2 ⟨x, h1, h2⟩))
theorem Line.next (L : Line h l) {i : Nat} {u v : Inst} (hi : (order h k)[i]? = some u) (hj : (order h k)[i + 1]? = some v) {a b : Nat} (ha : l[a]? = some u.txn) (hb : l[b]? = some v.txn) : a < b := by
  have hne : (u.txn : Int) ≠ v.txn := fun e => by
    have := order_inj hi hj (by omega)
    omega
  obtain ⟨a', b', x, y, h1, h2, h3, h4, h5⟩ := L.rise ⟨u.txn, v.txn, 1, k⟩ (mem_edgesOf.2 (.inl ⟨k, key_of_order hi, i, u, v, hi, hj, hne, rfl⟩))
  have e1 : u.txn = x := by simp only at h4; omega
  have e2 : v.txn = y := by simp only at h5; omega
  subst e1 e2
  rw [L.inj ha h2, L.inj hb h3]
  exact h1
theorem Line.mono (L : Line h l) : ∀ (d i : Nat) {u v : Inst}, (order h k)[i]? = some u → (order h k)[i + (d + 1)]? = some v → ∀ {a b : Nat}, l[a]? = some u.txn → l[b]? = some v.txn → a < b
  | 0, i, u, v, hi, hj, a, b, ha, hb => L.next hi hj ha hb
  | d + 1, i, u, v, hi, hj, a, b, ha, hb => by
    have hlt := (List.getElem?_eq_some_iff.1 hj).1
    obtain ⟨m, hm⟩ : ∃ m, (order h k)[i + (d + 1)]? = some m := ⟨_, List.getElem?_eq_getElem (by omega)⟩
    obtain ⟨c, hc⟩ := L.at_ hm
    have h1 := L.mono d i hi hm ha hc
    have h2 := L.next hm (by rw [show i + (d + 1) + 1 = i + (d + 1 + 1) by omega]; exact hj) hc hb
    omega
theorem Line.lt (L : Line h l) {i j : Nat} {u v : Inst} (hi : (order h k)[i]? = some u) (hj : (order h k)[j]? = some v) (hij : i < j) {a b : Nat} (ha : l[a]? = some u.txn) (hb : l[b]? = some v.txn) : a < b := by
  obtain ⟨d, rfl⟩ : ∃ d, j = i + (d + 1) := ⟨j - i - 1, by omega⟩
  exact L.mono d i hi hj ha hb
theorem cut_exists (P : Nat → Prop) (hP : ∀ i j, i ≤ j → P j → P i) : ∀ N : Nat, ∃ c, c ≤ N ∧ ∀ i, i < N → (i < c ↔ P i)
  | 0 => ⟨0, by omega, fun i hi => absurd hi (by omega)⟩
  | N + 1 => by
    obtain ⟨c, h1, h2⟩ := cut_exists P hP N
    by_cases hN : P N
    · exact ⟨N + 1, by omega, fun i hi => ⟨fun _ => hP i N (by omega) hN, fun _ => hi⟩⟩
    · refine ⟨c, by omega, fun i hi => ?_⟩
      by_cases hiN : i = N
      · subst hiN
        exact ⟨fun h => by omega, fun h => absurd h hN⟩
      · exact h2 i (by omega)
def CutAt (h : List HTx) (l : List Nat) (k : ByteArray) (n c : Nat) : Prop :=
  c ≤ (order h k).length ∧ ∀ (i : Nat) (u : Inst) (m : Nat), (order h k)[i]? = some u → l[m]? = some u.txn → (i < c ↔ m < n)
theorem Line.cut (L : Line h l) (k : ByteArray) (n : Nat) : ∃ c, CutAt h l k n c := by
  obtain ⟨c, h1, h2⟩ := cut_exists (fun i => ∃ (u : Inst) (m : Nat), (order h k)[i]? = some u ∧ l[m]? = some u.txn ∧ m < n) (fun i j hij hj => by
    obtain ⟨v, m', hv, hm', hn⟩ := hj
    have hlt := (List.getElem?_eq_some_iff.1 hv).1
    obtain ⟨u, hu⟩ : ∃ u, (order h k)[i]? = some u := ⟨_, List.getElem?_eq_getElem (by omega)⟩
    obtain ⟨m, hm⟩ := L.at_ hu
    refine ⟨u, m, hu, hm, ?_⟩
    rcases Nat.lt_or_ge i j with h4 | h4
    · have := L.lt hu hv h4 hm hm'
      omega
    · obtain rfl : i = j := by omega
      rw [hu] at hv; cases hv
      have := L.inj hm hm'
      omega) (order h k).length
  refine ⟨c, h1, fun i u m hu hm => ?_⟩
  rw [h2 i (List.getElem?_eq_some_iff.1 hu).1]
  constructor
  · rintro ⟨u', m', h3, h4, h5⟩
    rw [hu] at h3; cases h3
    rw [L.inj hm h4]; exact h5
  · intro h3
    exact ⟨u, m, hu, hm, h3⟩
def valOf (h : List HTx) (k : ByteArray) (u : Inst) : Option HVer := if u.dead then none else some ⟨k, u.txn, match h[u.txn]? with | some x => (writes x k).length | none => 0⟩
def curAt (h : List HTx) (k : ByteArray) : Nat → Option HVer
  | 0 => none
  | c + 1 => match (order h k)[c]? with
    | some u => valOf h k u
    | none => none
theorem stAt_last (hl : ∀ t ∈ l, ∃ x, h[t]? = some x) (k : ByteArray) : ∀ n, n ≤ l.length →
    (stAt h l n k = none ∧ ∀ m t x, m < n → l[m]? = some t → h[t]? = some x → writes x k = []) ∨
    ∃ m t x w, m < n ∧ l[m]? = some t ∧ h[t]? = some x ∧ (writes x k).getLast? = some w ∧ (∀ m' t' x', m < m' → m' < n → l[m']? = some t' → h[t']? = some x' → writes x' k = []) ∧ stAt h l n k = if w.dead then none else some ⟨k, t, (writes x k).length⟩
  | 0, _ => .inl ⟨rfl, fun m _ _ hm => absurd hm (by omega)⟩
  | n + 1, hn => by
    obtain ⟨t, ht⟩ : ∃ t, l[n]? = some t := ⟨_, List.getElem?_eq_getElem (by omega)⟩
    obtain ⟨x, hx⟩ := hl t (List.mem_of_getElem? ht)
    have ih := stAt_last hl k n (by omega)
    have hs : stAt h l (n + 1) k = applyN x t (stAt h l n) x.ops.length k := by simp only [stAt, ht, hx]
    rw [hs, applyN_all]
    cases hw : (writes x k).getLast? with
    | some w =>
      refine .inr ⟨n, t, x, w, by omega, ht, hx, hw, fun m' _ _ h1 h2 => by omega, rfl⟩
    | none =>
      have hw0 : writes x k = [] := List.getLast?_eq_none_iff.1 hw
      have hq : ∀ m t' x', m = n → l[m]? = some t' → h[t']? = some x' → writes x' k = [] := fun m t' x' hm h1 h2 => by
        subst hm
        rw [ht] at h1; cases h1
        rw [hx] at h2; cases h2
        exact hw0
      rcases ih with ⟨h1, h2⟩ | ⟨m, t', x', w, h1, h2, h3, h4, h5, h6⟩
      · refine .inl ⟨h1, fun m t' x' hm h3 h4 => ?_⟩
        rcases Nat.lt_or_ge m n with h5 | h5
        · exact h2 m t' x' h5 h3 h4
        · exact hq m t' x' (by omega) h3 h4
      · refine .inr ⟨m, t', x', w, by omega, h2, h3, h4, fun m' t2 x2 h7 h8 h9 h10 => ?_, h6⟩
        rcases Nat.lt_or_ge m' n with h11 | h11
        · exact h5 m' t2 x2 h7 h11 h9 h10
        · exact hq m' t2 x2 (by omega) h9 h10
theorem last_ne {α : Type} {l : List α} {w : α} (h : l.getLast? = some w) : l ≠ [] := by rintro rfl; cases h
theorem Line.txs (L : Line h l) : ∀ t ∈ l, ∃ x, h[t]? = some x := fun t ht => by
  obtain ⟨x, hx, _⟩ := com_iff.1 ((L.cm t).1 ht)
  exact ⟨x, hx⟩
theorem Line.stAt (L : Line h l) {n c : Nat} (hn : n ≤ l.length) (hc : CutAt h l k n c) : Go.Proofs.YtooigfkjdemnlaaGreatDoor.stAt h l n k = curAt h k c := by
  obtain ⟨hcl, hcut⟩ := hc
  rcases stAt_last L.txs k n hn with ⟨h1, h2⟩ | ⟨m, t, x, w, h1, h2, h3, h4, h5, h6⟩
  · rw [h1]
    cases c with
    | zero => rfl
    | succ c =>
      exfalso
      obtain ⟨u, hu⟩ : ∃ u, (order h k)[c]? = some u := ⟨_, List.getElem?_eq_getElem (by omega)⟩
      obtain ⟨m, hm⟩ := L.at_ hu
      obtain ⟨x, w, h3, h4, h5, h6⟩ := mem_order.1 (List.mem_of_getElem? hu)
      exact last_ne h5 (h2 m _ x ((hcut c u m hu hm).1 (by omega)) hm h3)
  · obtain ⟨i, hi⟩ := writes_key h3 ((L.cm t).1 (List.mem_of_getElem? h2)) h4
    have hic := (hcut i _ m hi h2).2 h1
    have hci : c = i + 1 := by
      rcases Nat.lt_or_ge (i + 1) c with h7 | h7
      · exfalso
        obtain ⟨v, hv⟩ : ∃ v, (order h k)[i + 1]? = some v := ⟨_, List.getElem?_eq_getElem (by omega)⟩
        obtain ⟨b, hb⟩ := L.at_ hv
        have h8 := L.next hi hv h2 hb
        have h9 := (hcut (i + 1) v b hv hb).1 h7
        obtain ⟨y, w', g1, g2, g3, g4⟩ := mem_order.1 (List.mem_of_getElem? hv)
        exact last_ne g3 (h5 b _ y h8 h9 hb g1)
      · omega
    subst hci
    rw [h6]
    simp only [curAt, hi, valOf, h3]
end Go.Proofs.YtooigfkjdemnlaaGreatDoor

namespace Go.Proofs.YtooigfkjdemnlaaGreatDoor
variable {h : List HTx} {l : List Nat} {k : ByteArray}

theorem shaped_end {h : List HTx} (H : Fine h) {t u : Nat} {x y : HTx} (hx : h[t]? = some x) (hy : h[u]? = some y) (hfx : x.fate = 1) (hfy : y.fate = 1) (hut : u < t) : y.fin ≠ x.fin := by
  have hs := H.shaped t x hx
  unfold shaped at hs
  have hc : com h t = true := com_iff.2 ⟨x, hx, hfx⟩
  simp only [hc, Bool.not_true, Bool.false_or, Bool.and_eq_true, Bool.not_eq_true'] at hs
  obtain ⟨_, h1, _⟩ := hs
  have key : ∀ n, endUsed h x.fin n = false → ∀ u, u < n → ∀ y, h[u]? = some y → y.fate = 1 → y.fin ≠ x.fin := by
    intro n
    induction n with
    | zero => intro _ u hu; omega
    | succ n ih =>
      intro hn u hu y hy hf
      simp only [endUsed, Bool.or_eq_false_iff] at hn
      by_cases e : u = n
      · subst e
        have := hn.2
        rw [com_iff.2 ⟨y, hy, hf⟩, hy] at this
        simpa using this
      · exact ih hn.1 u (by omega) y hy hf
  exact key t h1 u hut y hy hfy
theorem ends_inj {h : List HTx} (H : Fine h) {t u : Nat} {x y : HTx} (hx : h[t]? = some x) (hy : h[u]? = some y) (hfx : x.fate = 1) (hfy : y.fate = 1) (he : y.fin = x.fin) : u = t := by
  rcases Nat.lt_trichotomy u t with h1 | h1 | h1
  · exact absurd he (shaped_end H hx hy hfx hfy h1)
  · exact h1
  · exact absurd he.symm (shaped_end H hy hx hfy hfx h1)
theorem instLe_trans (a b c : Inst) (h1 : instLe a b = true) (h2 : instLe b c = true) : instLe a c = true := by
  unfold instLe at *
  simp only [Bool.or_eq_true, decide_eq_true_eq, Bool.and_eq_true, beq_iff_eq] at *
  omega
theorem instLe_total (a b : Inst) : (instLe a b || instLe b a) = true := by
  unfold instLe
  simp only [Bool.or_eq_true, decide_eq_true_eq, Bool.and_eq_true, beq_iff_eq]
  omega
theorem order_sorted (h : List HTx) (k : ByteArray) {i j : Nat} {u v : Inst} (hi : (order h k)[i]? = some u) (hj : (order h k)[j]? = some v) (hij : i ≤ j) : u.fin ≤ v.fin := by
  rcases Nat.lt_or_ge i j with h1 | h1
  · have hp : (order h k).Pairwise (fun a b => instLe a b = true) := List.pairwise_mergeSort instLe_trans instLe_total _
    obtain ⟨li, ei⟩ := List.getElem?_eq_some_iff.1 hi
    obtain ⟨lj, ej⟩ := List.getElem?_eq_some_iff.1 hj
    have := List.pairwise_iff_getElem.1 hp i j li lj h1
    rw [ei, ej] at this
    unfold instLe at this
    simp only [Bool.or_eq_true, decide_eq_true_eq, Bool.and_eq_true, beq_iff_eq] at this
    omega
  · obtain rfl : i = j := by omega
    rw [hi] at hj; cases hj
    omega
theorem tellable_spec {t : Nat} {x : HTx} {i : Nat} {v : HVer} {u : Wrote} (h1 : tellable h t x i v = some u) :
    ∃ (f : Nat) (y : HTx) (n : Nat), v.frm = f ∧ v.nth = (n + 1 : Nat) ∧ h[f]? = some y ∧ (writes y v.key)[n]? = some u ∧ u.dead = false ∧ (com h t = true → (0 < (aheadL x v.key i).length → f = t ∧ n + 1 = (aheadL x v.key i).length) ∧ ((aheadL x v.key i).length = 0 → f ≠ t)) := by
  unfold tellable at h1
  by_cases h0 : 0 ≤ v.frm
  · rw [if_pos h0] at h1
    cases hy : h[v.frm.toNat]? with
    | none => rw [hy] at h1; cases h1
    | some y =>
      rw [hy] at h1
      simp only at h1
      by_cases hn : 1 ≤ v.nth
      · rw [if_pos hn] at h1
        cases hu : (writes y v.key)[v.nth.toNat - 1]? with
        | none => rw [hu] at h1; cases h1
        | some u' =>
          rw [hu] at h1
          simp only at h1
          by_cases hd : u'.dead = true
          · rw [if_pos hd] at h1; cases h1
          · rw [if_neg hd] at h1
            by_cases hc : com h t = true ∧ (0 < (aheadL x v.key i).length ∨ v.frm = t) ∧ (v.frm ≠ t ∨ v.nth ≠ (aheadL x v.key i).length)
            · rw [if_pos hc] at h1; cases h1
            · rw [if_neg hc] at h1
              cases h1
              refine ⟨v.frm.toNat, y, v.nth.toNat - 1, by omega, by omega, hy, hu, by simpa using hd, fun hcm => ⟨fun hp => ?_, fun hp hf => ?_⟩⟩
              · have h2 : ¬ (v.frm ≠ t ∨ v.nth ≠ (aheadL x v.key i).length) := fun h3 => hc ⟨hcm, .inl hp, h3⟩
                have h3 : v.frm = t := Classical.byContradiction fun e => h2 (.inl e)
                have h4 : v.nth = (aheadL x v.key i).length := Classical.byContradiction fun e => h2 (.inr e)
                omega
              · exact hc ⟨hcm, .inr (by omega), .inr (by omega)⟩
      · rw [if_neg hn] at h1; cases h1
  · rw [if_neg h0] at h1; cases h1
theorem findIdx_some {ord : List Inst} {s : Nat} {u : Inst} {f : Int} (hs : ord[s]? = some u) (hf : (u.txn : Int) = f) (hn : (ord.map (·.txn)).Nodup) : ord.findIdx? (fun u => decide ((u.txn : Int) = f)) = some s := by
  obtain ⟨hl, he⟩ := List.getElem?_eq_some_iff.1 hs
  rw [List.findIdx?_eq_some_iff_getElem]
  refine ⟨hl, by rw [he]; simp [hf], fun j hj => ?_⟩
  simp only [decide_eq_true_eq]
  intro h1
  have h2 : (ord.map (·.txn))[j]? = (ord.map (·.txn))[s]? := by
    rw [List.getElem?_map, List.getElem?_map, hs, List.getElem?_eq_getElem (by omega)]
    simp only [Option.map_some, Option.some.injEq]
    omega
  have := (List.getElem?_inj (by rw [List.length_map]; omega) hn).1 h2
  omega
theorem standing_at {f : Nat} {y : HTx} {v : HVer} {w : Wrote} (hv : v.frm = f) (hy : h[f]? = some y) (hc : com h f = true) (hn : v.nth = (writes y v.key).length) (hw : (writes y v.key).getLast? = some w) :
    ∃ s : Nat, standing h v = s ∧ (order h v.key)[s]? = some ⟨f, y.fin, w.dead⟩ := by
  obtain ⟨s, hs⟩ := writes_key hy hc hw
  refine ⟨s, ?_, hs⟩
  unfold standing
  rw [hv, Int.toNat_natCast, hy]
  simp only
  rw [if_pos ⟨hc, hn⟩, findIdx_some hs rfl (order_nodup h v.key)]
  rfl
theorem told_stands (H : Fine h) (L : Line h l) (hA : ¬ ToldB h (badA h)) (hB : ¬ ToldB h (badB h)) {n t : Nat} {x : HTx} {i : Nat} {o : HOpr} {v : HVer} {u : Wrote}
    (hn : l[n]? = some t) (hx : h[t]? = some x) (ho : x.ops[i]? = some o) (hv : v ∈ seenOf o) (hu : tellable h t x i v = some u) : applyN x t (stAt h l n) i v.key = some v := by
  have hil := (List.getElem?_eq_some_iff.1 ho).1
  have hnl := (List.getElem?_eq_some_iff.1 hn).1
  have hct := (L.cm t).1 (List.mem_of_getElem? hn)
  obtain ⟨f, y, m, h1, h2, h3, h4, h5, h6⟩ := tellable_spec hu
  obtain ⟨h7, h8⟩ := h6 hct
  rw [aheadL_wrUpto (by omega)] at h7 h8
  rw [applyN_spec _ _ _ _ _ (by omega)]
  have hve : v = ⟨v.key, f, (m + 1 : Nat)⟩ := by
    obtain ⟨a, b, c⟩ := v
    simp only at h1 h2
    rw [h1, h2]
  cases hw : (wrUpto x i v.key).getLast? with
  | some w =>
    have hne := last_ne hw
    have hpos : 0 < (wrUpto x i v.key).length := List.length_pos_iff.2 hne
    obtain ⟨e1, e2⟩ := h7 hpos
    subst e1
    rw [hx] at h3; cases h3
    obtain ⟨r, hr⟩ := wrUpto_pre (x := x) (k := v.key) (i := i) (by omega)
    have hwu : w = u := by
      rw [hr, List.getElem?_append_left (by omega)] at h4
      rw [List.getLast?_eq_getElem?, ← e2] at hw
      simp only [Nat.add_sub_cancel] at hw
      rw [h4] at hw; cases hw; rfl
    subst hwu
    simp only [h5, ← e2]
    exact congrArg some hve.symm
  | none =>
    have hw0 : wrUpto x i v.key = [] := List.getLast?_eq_none_iff.1 hw
    simp only
    have hft : f ≠ t := h8 (by rw [hw0]; rfl)
    have hfi : v.frm ≠ (t : Int) := by rw [h1]; omega
    have hcf : com h f = true := by
      cases hc : com h f
      · exact absurd ⟨t, x, o, v, hx, hct, List.mem_of_getElem? ho, hv, hfi, by unfold badA; rw [h1, Int.toNat_natCast, hc]; rfl⟩ hA
      · rfl
    have hnth : v.nth = (writes y v.key).length := Classical.byContradiction fun hne =>
      hB ⟨t, x, o, v, hx, hct, List.mem_of_getElem? ho, hv, hfi, by unfold badB; rw [h1, Int.toNat_natCast, h3]; simpa using hne⟩
    have hm1 : m + 1 = (writes y v.key).length := by omega
    have hlast : (writes y v.key).getLast? = some u := by rw [List.getLast?_eq_getElem?, ← hm1]; exact h4
    obtain ⟨s, hs1, hs2⟩ := standing_at h1 h3 hcf hnth hlast
    have hio : o.kind = 1 ∧ v = o.ver ∨ o.kind = 3 ∧ v ∈ o.seen := by
      unfold seenOf at hv
      rcases op_kind (H.op t x hx i o ho) with hk | hk | hk
      · rw [if_pos hk] at hv; simp at hv; exact .inl ⟨hk, hv⟩
      · rw [if_neg (by omega), if_pos hk] at hv; cases hv
      · rw [if_neg (by omega), if_neg (by omega)] at hv; exact .inr ⟨hk, hv⟩
    have hedge : ∀ e, QItem h t v e → e ∈ edgesOf h := fun e he => by
      refine mem_edgesOf.2 (.inr ⟨t, x, i, o, hx, hct, ho, ?_⟩)
      rcases hio with ⟨hk, rfl⟩ | ⟨hk, hm⟩
      · exact .inl ⟨hk, he⟩
      · exact .inr ⟨hk, .inl ⟨v, hm, he⟩⟩
    have hcf' : com h v.frm.toNat = true := by rw [h1, Int.toNat_natCast]; exact hcf
    -- ahead of t in the line
    obtain ⟨a, b, ta, tb, g1, g2, g3, g4, g5⟩ := L.rise _ (hedge ⟨v.frm, t, 2, v.key⟩ ⟨hfi, hcf', .inl rfl⟩)
    simp only at g4 g5
    rw [h1] at g4
    obtain rfl : f = ta := by omega
    obtain rfl : t = tb := by omega
    have hbn : b = n := L.inj g3 hn
    subst hbn
    have hcut : CutAt h l v.key b (s + 1) := by
      have hsl := (List.getElem?_eq_some_iff.1 hs2).1
      refine ⟨by omega, fun j w m' hj hm' => ?_⟩
      constructor
      · intro hj1
        rcases Nat.lt_or_ge j s with h9 | h9
        · have := L.lt hj hs2 h9 hm' g2; omega
        · obtain rfl : j = s := by omega
          rw [hs2] at hj; cases hj
          have := L.inj hm' g2; omega
      · intro hm1
        rcases Nat.lt_or_ge j (s + 1) with h9 | h9
        · exact h9
        · exfalso
          have hjl := (List.getElem?_eq_some_iff.1 hj).1
          obtain ⟨z, hz⟩ : ∃ z, (order h v.key)[s + 1]? = some z := ⟨_, List.getElem?_eq_getElem (by omega)⟩
          obtain ⟨c, hc⟩ := L.at_ hz
          have hcb : b ≤ c := by
            by_cases hzt : z.txn = t
            · rw [hzt] at hc
              have := L.inj hc hn; omega
            · obtain ⟨a', b', ta', tb', e1, e2, e3, e4, e5⟩ := L.rise _ (hedge ⟨t, z.txn, 4, v.key⟩ ⟨hfi, hcf', .inr ⟨z, by omega, by rw [hs1]; exact hz, by omega, rfl⟩⟩)
              simp only at e4 e5
              obtain rfl : t = ta' := by omega
              obtain rfl : z.txn = tb' := by omega
              have := L.inj e2 hn
              have := L.inj e3 hc
              omega
          rcases Nat.lt_or_ge (s + 1) j with h10 | h10
          · have := L.lt hz hj h10 hc hm'; omega
          · obtain rfl : j = s + 1 := by omega
            rw [hz] at hj; cases hj
            have := L.inj hm' hc; omega
    rw [L.stAt (by omega) hcut]
    simp only [curAt, hs2, valOf, h3, h5]
    rw [← hm1]
    exact congrArg some hve.symm
theorem downTurn_some {ord : List Inst} : ∀ {n i : Nat}, downTurn ord n = some i → i < n ∧ turnAt ord i = true ∧ ∀ j, i < j → j < n → turnAt ord j = false
  | 0, i, h1 => by cases h1
  | n + 1, i, h1 => by
    simp only [downTurn] at h1
    by_cases ht : turnAt ord n = true
    · rw [if_pos ht] at h1
      cases h1
      exact ⟨by omega, ht, fun j h2 h3 => by omega⟩
    · rw [if_neg ht] at h1
      obtain ⟨h2, h3, h4⟩ := downTurn_some h1
      refine ⟨by omega, h3, fun j h5 h6 => ?_⟩
      by_cases hj : j = n
      · subst hj; simpa using ht
      · exact h4 j h5 (by omega)
theorem downTurn_none {ord : List Inst} : ∀ {n : Nat}, downTurn ord n = none → ∀ j, j < n → turnAt ord j = false
  | 0, _, j, hj => by omega
  | n + 1, h1, j, hj => by
    simp only [downTurn] at h1
    by_cases ht : turnAt ord n = true
    · rw [if_pos ht] at h1; cases h1
    · rw [if_neg ht] at h1
      by_cases hjn : j = n
      · subst hjn; simpa using ht
      · exact downTurn_none h1 j (by omega)
theorem upTurn_some {ord : List Inst} : ∀ {m n i : Nat}, upTurn ord n m = some i → n ≤ i ∧ i < n + m ∧ turnAt ord i = true ∧ ∀ j, n ≤ j → j < i → turnAt ord j = false
  | 0, n, i, h1 => by cases h1
  | m + 1, n, i, h1 => by
    simp only [upTurn] at h1
    by_cases ht : turnAt ord n = true
    · rw [if_pos ht] at h1
      cases h1
      exact ⟨by omega, by omega, ht, fun j h2 h3 => by omega⟩
    · rw [if_neg ht] at h1
      obtain ⟨h2, h3, h4, h5⟩ := upTurn_some h1
      refine ⟨by omega, by omega, h4, fun j h6 h7 => ?_⟩
      by_cases hj : j = n
      · subst hj; simpa using ht
      · exact h5 j (by omega) h7
theorem upTurn_none {ord : List Inst} : ∀ {m n : Nat}, upTurn ord n m = none → ∀ j, n ≤ j → j < n + m → turnAt ord j = false
  | 0, n, _, j, h1, h2 => by omega
  | m + 1, n, h1, j, h2, h3 => by
    simp only [upTurn] at h1
    by_cases ht : turnAt ord n = true
    · rw [if_pos ht] at h1; cases h1
    · rw [if_neg ht] at h1
      by_cases hjn : j = n
      · subst hjn; simpa using ht
      · exact upTurn_none h1 j (by omega) (by omega)
def deadAt (ord : List Inst) : Nat → Bool
  | 0 => true
  | i + 1 => match ord[i]? with
    | some u => u.dead
    | none => true
theorem deadAt_step {ord : List Inst} {i : Nat} (hi : i < ord.length) (ht : turnAt ord i = false) : deadAt ord (i + 1) = deadAt ord i := by
  obtain ⟨u, hu⟩ : ∃ u, ord[i]? = some u := ⟨_, List.getElem?_eq_getElem hi⟩
  unfold turnAt at ht
  rw [hu] at ht
  simp only [deadAt, hu]
  cases i with
  | zero => simpa [deadAt] using ht
  | succ k =>
    simp only [deadAt]
    simp only at ht
    cases hk : ord[k]? with
    | none => rw [hk] at ht; simpa using ht
    | some z => rw [hk] at ht; simpa using ht
theorem deadAt_same {ord : List Inst} {i : Nat} : ∀ d : Nat, i + d ≤ ord.length → (∀ j, i ≤ j → j < i + d → turnAt ord j = false) → deadAt ord (i + d) = deadAt ord i
  | 0, _, _ => rfl
  | d + 1, hl, ht => by
    rw [← deadAt_same d (by omega) (fun j h1 h2 => ht j h1 (by omega)), ← Nat.add_assoc]
    exact deadAt_step (by omega) (ht (i + d) (by omega) (by omega))
theorem curAt_dead {c : Nat} (hc : c ≤ (order h k).length) (hd : deadAt (order h k) c = true) : curAt h k c = none := by
  cases c with
  | zero => rfl
  | succ c =>
    obtain ⟨u, hu⟩ : ∃ u, (order h k)[c]? = some u := ⟨_, List.getElem?_eq_getElem (by omega)⟩
    simp only [deadAt, hu] at hd
    simp only [curAt, hu, valOf, hd, if_true]
theorem chosenUpto_at {t : Nat} {at_ : Int} {ord : List Inst} : ∀ {n c : Nat}, chosenUpto t at_ ord n = c + 1 → ∃ u, ord[c]? = some u ∧ u.txn ≠ t ∧ u.fin ≤ at_
  | 0, c, h1 => by cases h1
  | n + 1, c, h1 => by
    simp only [chosenUpto] at h1
    cases hv : ord[n]? with
    | none => rw [hv] at h1; exact chosenUpto_at h1
    | some v =>
      rw [hv] at h1
      simp only at h1
      by_cases hq : v.txn ≠ t ∧ v.fin ≤ at_
      · rw [if_pos hq] at h1
        obtain rfl : n = c := by omega
        exact ⟨v, hv, hq⟩
      · rw [if_neg hq] at h1; exact chosenUpto_at h1
end Go.Proofs.YtooigfkjdemnlaaGreatDoor

namespace Go.Proofs.YtooigfkjdemnlaaGreatDoor
set_option maxRecDepth 100000
open Go.RowKit Go.Lib Go.Sort Go.Shelf Xw

set_option maxHeartbeats 4000000 in
theorem between_ {w : World} {B lp gb : Nat} {a1 a2 : Value} {h : List HTx} (hl : Led w B lp h) (H : Fine h) (hg : w.heap[gb]? = some (.cells #[.pointer (some ⟨lp, 0, none⟩), a1, a2] 95)) (hgB : gb < B) :
    Calls Tryz.prog 63 #[.pointer (some ⟨gb, 0, none⟩)] w fun e w' => Below w.heap.size w w' ∧ ((e = .returned (.slice none 0 0) ∧ ¬ ToldB h (badB h)) ∨ (∃ a n c, e = .returned (.slice (some a) n c) ∧ ToldB h (badB h))) := by
  have hle := hl.le
  have hgw : gb < w.heap.size := by omega
  obtain ⟨W1, hW1⟩ : ∃ W1, W1 = w.alloc (.cells #[.pointer (some ⟨gb, 0, none⟩)] 91) := ⟨_, rfl⟩
  have hB1 : Below w.heap.size w W1 := by rw [hW1]; exact bel1 _ _
  have hz1 : W1.heap.size = w.heap.size + 1 := by rw [hW1]; simp
  have hbx : W1.heap[w.heap.size]? = some (.cells #[.pointer (some ⟨gb, 0, none⟩)] 91) := by rw [hW1]; exact heap_alloc_new _ _
  have hg1 := (hB1.block gb hgw).trans hg
  have hl1 : Led W1 B lp h := hl.below hB1 hl.le
  have hc := Lib.hid (told_ hl1 H hg1 hgB 103 #[.pointer (some ⟨w.heap.size, 0, none⟩)] (badB h) (enters_of Tryz.func103 (by kernel_rfl) rfl)
    (fun t v W hv _ hB => between1_ (hl1.below hB hl1.le) ((hB.block gb (by omega)).trans hg1) ((hB.block w.heap.size (by omega)).trans hbx) t v hv))
  have hmf : ∀ (fn : Fn) (first cap : Array Value) (w : World), (Instr.makeFunc fn first cap).run Tryz.prog w = .ok (.func fn first cap) w := fun _ _ _ _ => rfl
  have b0 := (cells_of (cs := [.pointer (some ⟨gb, 0, none⟩)]) hbx).1 0
  have hwl : w.heap.size < W1.heap.size := by omega
  have HW1 := Lib.hid hW1
  clear hW1 hbx hg hg1
  go_enter Tryz.func63, Tryz.ntmps63
  go_upto_region 1 with (fail)
  rw [← HW1.out]
  go_wp2_with (go_at_call 61; with_reducible refine hc.out.mono ?_)
  rintro e w1 ⟨hB, he⟩
  rcases he with ⟨rfl, h1⟩ | ⟨a, n, c, rfl, h1⟩
  · have H1 := Lib.hid h1
    clear h1
    go_wp2
    go_ret
    exact ⟨hB1.trans (hB.mono (by omega)), .inl ⟨rfl, H1.out⟩⟩
  · have H1 := Lib.hid h1
    clear h1
    go_wp2
    go_ret
    exact ⟨hB1.trans (hB.mono (by omega)), .inr ⟨_, _, _, rfl, H1.out⟩⟩
def earlyB (h : List HTx) (e : Edge) : Bool := flowK e.kind && (match h[e.frm.toNat]?, h[e.to.toNat]? with
  | some x, some y => decide (x.fin > y.bgn)
  | _, _ => false)
def EdgeIn (h : List HTx) (e : Edge) : Prop := ∃ (u t : Nat) (x y : HTx), e.frm = u ∧ e.to = t ∧ h[u]? = some x ∧ h[t]? = some y
set_option maxHeartbeats 4000000 in
theorem early1_ {w : World} {B lp gb bx : Nat} {a1 a2 : Value} {ty : TypeId} {h : List HTx} (hl : Led w B lp h) (hg : w.heap[gb]? = some (.cells #[.pointer (some ⟨lp, 0, none⟩), a1, a2] 95))
    (hbx : w.heap[bx]? = some (.cells #[.pointer (some ⟨gb, 0, none⟩)] ty)) (e : Edge) (he : EdgeIn h e) :
    Calls Tryz.prog 105 #[edgeV e, .pointer (some ⟨bx, 0, none⟩)] w fun r w' => r = .returned (.bool (earlyB h e)) ∧ Below w.heap.size w w' := by
  obtain ⟨u, t, x, y, hu, ht, hx, hy⟩ := he
  obtain ⟨f, to', kd, ky⟩ := e
  dsimp only at hu ht
  subst hu ht
  show Calls Tryz.prog 105 #[.agg #[.int .i64 u, .int .i64 t, .int .i64 kd, .string ky], .pointer (some ⟨bx, 0, none⟩)] w _
  have hul0 : u < h.length := (List.getElem?_eq_some_iff.1 hx).1
  have htl0 : t < h.length := (List.getElem?_eq_some_iff.1 hy).1
  have hul : (u : Int) < h.length := by omega
  have htl : (t : Int) < h.length := by omega
  have hgl := lt_of_heap hg
  have hbl := lt_of_heap hbx
  have hle := hl.le
  obtain ⟨W1, hW1⟩ : ∃ W1, W1 = w.alloc (.cells #[.int .i64 u, .int .i64 t, .int .i64 kd, .string ky] 66) := ⟨_, rfl⟩
  have hB1 : Below w.heap.size w W1 := by rw [hW1]; exact bel1 _ _
  have hz1 : W1.heap.size = w.heap.size + 1 := by rw [hW1]; simp
  have hbn : W1.heap[w.heap.size]? = some (.cells #[.int .i64 u, .int .i64 t, .int .i64 kd, .string ky] 66) := by rw [hW1]; exact heap_alloc_new _ _
  have v0 := (cells_of (cs := [.int .i64 u, .int .i64 t, .int .i64 kd, .string ky]) hbn).1 0
  have v1 := (cells_of (cs := [.int .i64 u, .int .i64 t, .int .i64 kd, .string ky]) hbn).1 1
  have v2 := (cells_of (cs := [.int .i64 u, .int .i64 t, .int .i64 kd, .string ky]) hbn).1 2
  have v3 := (cells_of (cs := [.int .i64 u, .int .i64 t, .int .i64 kd, .string ky]) hbn).1 3
  have hnn : w.heap.size < W1.heap.size := by omega
  have hc := Lib.hid (isFlow_ ⟨u, t, kd, ky⟩ W1.drew)
  have HW1 := Lib.hid hW1
  have HL := Lib.hid hl
  clear hW1 hbn
  cases hf : flowK kd with
  | false =>
    have hfl : flowK (⟨u, t, kd, ky⟩ : Edge).kind = false := hf
    have HF := Lib.hid hfl
    have HR : Hid (earlyB h ⟨u, t, kd, ky⟩ = false) := Lib.hid (by unfold earlyB; rw [hfl]; rfl)
    clear hf hfl hx hy hg hbx hl
    go_enter Tryz.func105, Tryz.ntmps105
    go_upto_region 1 with (fail)
    rw [← HW1.out]
    go_wp2_with (first
      | (with_reducible refine wp_region_free (by kernel_rfl) (fun _ _ => ?_))
      | (go_at_call 64; refine hc.out.mono ?_; rw [HF.out]; rintro r w2 ⟨rfl, hB2⟩))
    go_ret
    exact ⟨ret_bool (by rw [HR.out]), hB1.trans (((Below.refl _ _).drew.trans hB2).mono (by show _ ≤ W1.heap.size; omega))⟩
  | true =>
    have hfl : flowK (⟨u, t, kd, ky⟩ : Edge).kind = true := hf
    have HF := Lib.hid hfl
    have HR : Hid (earlyB h ⟨u, t, kd, ky⟩ = decide (y.bgn < x.fin)) := Lib.hid (by
      unfold earlyB
      rw [hfl]
      show (true && (match h[u]?, h[t]? with | some x, some y => decide (x.fin > y.bgn) | _, _ => false)) = _
      rw [hx, hy]
      rfl)
    have HX := Lib.hid hx
    have HY := Lib.hid hy
    have HG := Lib.hid hg
    have HBX := Lib.hid hbx
    clear hf hfl hx hy hg hbx hl
    go_enter Tryz.func105, Tryz.ntmps105
    go_upto_region 1 with (fail)
    rw [← HW1.out]
    go_wp2_with (first
      | (with_reducible refine wp_region_free (by kernel_rfl) (fun _ _ => ?_))
      | (go_at_call 64; refine hc.out.mono ?_; rw [HF.out]; rintro r w2 ⟨rfl, hB2⟩
         have hB2' : Below w.heap.size w w2 := hB1.trans (((Below.refl _ _).drew.trans hB2).mono (by show _ ≤ W1.heap.size; omega))
         have hlow : ∀ j, j < B → w2.heap[j]? = w.heap[j]? := fun j hj => hB2'.block j (by omega)
         have hz2 := hB2'.size
         have hzw : W1.heap.size ≤ w2.heap.size := hB2.size
         obtain ⟨tv, wv, ob, kv, tyl, l1, l2, l3, l4, l5⟩ := HL.out.ex
         have hlp := HL.out.lt
         have q0 := (World.cell?_of_block (a := ⟨lp, 0, none⟩) (hlow lp hlp)).trans ((cells_of l1).1 0)
         obtain ⟨b3, p3, c3, ov3, he3, hb3, ⟨x0, x1, x2, x3, x4, x5, x6, x7, x8⟩, -⟩ := HistV.get l2 HX.out (wr := w2) hlow
         obtain ⟨b4, p4, c4, ov4, he4, hb4, ⟨y0, y1, y2, y3, y4, y5, y6, y7, y8⟩, -⟩ := HistV.get l2 HY.out (wr := w2) hlow
         cases he3
         cases he4
         have r0 := (World.cell?_of_block (a := ⟨w.heap.size, 0, none⟩) (hB2.block w.heap.size hnn)).trans v0
         have r1 := (World.cell?_of_block (a := ⟨w.heap.size, 1, none⟩) (hB2.block w.heap.size hnn)).trans v1
         have r0' : w2.cell? ⟨w.heap.size, 0, none⟩ = some (.int .i64 u) := r0
         have r1' : w2.cell? ⟨w.heap.size, 1, none⟩ = some (.int .i64 t) := r1
         have b0 := (World.cell?_of_block (a := ⟨bx, 0, none⟩) (hB2'.block bx hbl)).trans ((cells_of (cs := [.pointer (some ⟨gb, 0, none⟩)]) HBX.out).1 0)
         have g0 := (World.cell?_of_block (a := ⟨gb, 0, none⟩) (hB2'.block gb hgl)).trans ((cells_of HG.out).1 0)
         have i1 : lp < w2.heap.size := by omega
         have i2 : gb < w2.heap.size := by omega
         have i3 : bx < w2.heap.size := by omega
         have i4 : b3 < w2.heap.size := by omega
         have i5 : w.heap.size < w2.heap.size := by omega
         clear r0 r1 l1 l2 l3 l4 l5 hlow))
    go_ret
    exact ⟨ret_bool (by rw [HR.out]), hB2'⟩
theorem eql_nil (A : Option Addr) (n c : Nat) (W : World) : (binOp .eql 61 (.slice A n c) (.slice none 0 0)).run Tryz.prog W = .ok (.bool A.isNone) W := by
  cases A <;> kernel_rfl
set_option maxHeartbeats 4000000 in
theorem clone_ {w : World} {B : Nat} {v : Value} {l : List Edge} (h : Rows w B 4 (Flat edgeC) v l) (hB : B ≤ w.heap.size) (hlen : l.length < 68719476736) :
    Calls Tryz.prog 106 #[v] w fun e w' => ∃ v' F, e = .returned v' ∧ Sl w' 66 4 v' l.length (l.flatMap edgeC) F ∧ (∀ j, F j → w.heap.size ≤ j ∧ j < w'.heap.size) ∧ Below w.heap.size w w' := by
  obtain ⟨A, c, rfl, hrd⟩ := Rows.reads (enc := edgeC) (size := 4) (fun _ => rfl) h
  cases A with
  | none =>
    have hl0 : l = [] := by
      rcases h with ⟨e, _⟩ | ⟨b, o, c', hv, _⟩
      · exact e
      · cases hv
    subst hl0
    clear hrd h
    have heq := eql_nil none 0 c
    simp only [Option.isNone_none] at heq
    go_enter Tryz.func106, Tryz.ntmps106
    go_wp2
    go_ret
    exact ⟨_, fun _ => False, rfl, Sl.nil _ _ _ _, fun _ f => f.elim, Below.refl _ _⟩
  | some a =>
    obtain ⟨ab, ao, ax⟩ := a
    obtain ⟨i0, z0, j0, j1, j2, j3, j4⟩ := info_edge
    have hone : ∀ u ∈ l.flatMap edgeC, u.oneCell' = true := by
      intro u hu
      obtain ⟨x, _, hx⟩ := List.mem_flatMap.1 hu
      simp [edgeC] at hx
      rcases hx with rfl | rfl | rfl | rfl <;> rfl
    have heq := eql_nil (some ⟨ab, ao, ax⟩) l.length c
    simp only [Option.isNone_some] at heq
    obtain ⟨A', c', hv', hrd'⟩ := Rows.reads (enc := edgeC) (size := 4) (fun _ => rfl) (h.flat (w' := w.alloc (.cells #[] 66)) (fun j hj => heap_alloc_lt (by omega)))
    cases hv'
    have hown : Sl (w.alloc (.cells #[] 66)) 66 4 (.slice (some ⟨w.heap.size, 0, none⟩) 0 0) 0 [] (fun j => j = w.heap.size) := Sl.of_block (cur := #[]) (heap_alloc_new _ _) rfl rfl (by simp [maxLen])
    have HS := Lib.hid (And.intro hown (And.intro hrd' hone))
    have hmx : 0 + l.length ≤ maxLen := by simp only [maxLen]; omega
    have hby : (0 + l.length) * 40 ≤ 140737488355328 := by omega
    clear hown hrd' hone hrd h
    go_enter Tryz.func106, Tryz.ntmps106
    go_wp2_with (
      refine wpList_append_sl _ rfl (.tmp 5) (.tmp 6) 61 rfl 66 i0 z0 4 40 Tryz.underlying61 j0 j1 j2 j3 j4 (by omega) _ 0 _ _ rfl HS.out.1 _ _ l.length c (l.flatMap edgeC) rfl HS.out.2.1 HS.out.2.2 hmx hby ?_
      intro v4 w4 F4 hs4 hc4 hf4 hnz4
      have HN4 := Lib.hid hnz4
      clear hnz4)
    go_ret
    have hz : (w.alloc (.cells #[] 66)).heap.size = w.heap.size + 1 := by simp
    have hz4 := hc4.size
    refine ⟨_, F4, rfl, ?_, fun j hj => ?_, (bel1 w _).trans (hc4.below (fun j hj => by omega) (by omega))⟩
    · simpa using hs4
    · rcases hf4 j hj with h | ⟨h, h'⟩
      · omega
      · omega
end Go.Proofs.YtooigfkjdemnlaaGreatDoor
