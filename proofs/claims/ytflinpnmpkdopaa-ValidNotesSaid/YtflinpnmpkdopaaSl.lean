/- A slice known by its block: 'Sl'; an append onto it, from any source; what it reads. No program in sight. -/
import Derived.Test.YtflinpnmpkdopaaChg
import Derived.Test.YtflinpnmpkdopaaXw
import Derived.Deep.AppendSrc
namespace Go.Proofs.Ytflinpnmpkdopaa
set_option linter.unusedVariables false
set_option linter.unusedSimpArgs false
open Go.RowKit Xw

/-- v is a slice of n elements (size cells each, of type e) that reads as xs; its block, if there is one, lies in F, and nothing of it is frozen. -/
def Sl (w : World) (e : TypeId) (size : Nat) (v : Value) (n : Nat) (xs : List Value) (F : Nat → Prop) : Prop :=
  xs.length = n * size ∧ ((v = .slice none 0 0 ∧ n = 0) ∨
    ∃ g off cap cur, v = .slice (some ⟨g, off, none⟩) n cap ∧ F g ∧ w.heap[g]? = some (.cells cur e (0, 0)) ∧ n ≤ cap ∧ cap ≤ maxLen ∧ off + cap * size ≤ cur.size ∧ (cur.toList.drop off).take (n * size) = xs)

section
variable {w w' : World} {e : TypeId} {size n : Nat} {v : Value} {xs : List Value} {F G : Nat → Prop}

theorem Sl.nil (w : World) (e : TypeId) (size : Nat) (F : Nat → Prop) : Sl w e size (.slice none 0 0) 0 [] F := ⟨by simp, .inl ⟨rfl, rfl⟩⟩
theorem Sl.len (h : Sl w e size v n xs F) : xs.length = n * size := h.1
theorem Sl.mono (h : Sl w e size v n xs F) (hg : ∀ j, j < w.heap.size → F j → G j) : Sl w e size v n xs G :=
  ⟨h.1, h.2.imp id fun ⟨g, off, cap, cur, hv, hF, hb, r⟩ => ⟨g, off, cap, cur, hv, hg g (lt_of_heap hb) hF, hb, r⟩⟩
theorem Sl.keep (h : Sl w e size v n xs F) (hk : ∀ j, j < w.heap.size → F j → w'.heap[j]? = w.heap[j]?) : Sl w' e size v n xs F :=
  ⟨h.1, h.2.imp id fun ⟨g, off, cap, cur, hv, hF, hb, r⟩ => ⟨g, off, cap, cur, hv, hF, (hk g (lt_of_heap hb) hF).trans hb, r⟩⟩
theorem Sl.chg (h : Sl w e size v n xs F) (hc : Chg G w w') (hd : ∀ j, F j → ¬ G j) : Sl w' e size v n xs F := h.keep fun j hj hF => hc.block j hj (hd j hF)
theorem Sl.shape (h : Sl w e size v n xs F) : ∃ A c, v = .slice A n c ∧ c ≤ maxLen ∧ n ≤ c := by
  rcases h.2 with ⟨rfl, rfl⟩ | ⟨g, off, cap, cur, rfl, _, _, hn, hm, _⟩
  · exact ⟨_, _, rfl, by simp [maxLen], Nat.le_refl _⟩
  · exact ⟨_, _, rfl, hm, hn⟩
theorem Sl.cells {A : Option Addr} {c : Nat} (h : Sl w e size (.slice A n c) n xs F) : Reads w w.heap.size size A n xs := by
  refine ⟨h.1, fun hpos => ?_⟩
  rcases h.2 with ⟨_, h0⟩ | ⟨g, off, cap, cur, hv, _, hb, hn, _, hs, ht⟩
  · omega
  · cases hv
    refine ⟨_, rfl, lt_of_heap hb, fun j u hj => ?_⟩
    have e1 : (⟨g, off, none⟩ : Addr).add j = ⟨g, off + j, none⟩ := by unfold Addr.add; split <;> simp_all
    rw [e1, cell_of_row w g _ _ _ _ hb]
    rw [← ht, List.getElem?_take] at hj
    split at hj
    · rw [List.getElem?_drop] at hj
      simpa using hj
    · cases hj
theorem Sl.of_block {g : Nat} {cur : Array Value} (hb : w.heap[g]? = some (.cells cur e (0, 0))) (hF : F g) (hn : cur.size = n * size) (hm : n ≤ maxLen) : Sl w e size (.slice (some ⟨g, 0, none⟩) n n) n cur.toList F :=
  ⟨by simpa using hn, .inr ⟨g, 0, n, cur, rfl, hF, hb, Nat.le_refl _, hm, by omega, by rw [← hn, List.drop_zero, ← Array.length_toList, List.take_length]⟩⟩
/-- v[:k:k] -/
theorem Sl.cut {A : Option Addr} {c k c' : Nat} (h : Sl w e size (.slice A n c) n xs F) (hk : k ≤ n) (hc : c' ≤ c) (hkc : k ≤ c') (hA : A ≠ none) : Sl w e size (.slice A k c') k (xs.take (k * size)) F := by
  have hle : k * size ≤ n * size := Nat.mul_le_mul_right _ hk
  refine ⟨by rw [List.length_take, h.1]; omega, ?_⟩
  rcases h.2 with ⟨hv, h0⟩ | ⟨g, off, cap, cur, hv, hF, hb, hn, hm, hs, ht⟩
  · cases hv; exact absurd rfl hA
  · cases hv
    have : c' * size ≤ c * size := Nat.mul_le_mul_right _ hc
    refine .inr ⟨g, off, c', cur, rfl, hF, hb, hkc, Nat.le_trans hc hm, by omega, ?_⟩
    rw [← ht, List.take_take, Nat.min_eq_left hle]
end

theorem take_set_succ {α : Type} (l : List α) (o : Nat) (v : α) (h : o < l.length) : (l.set o v).take (o + 1) = l.take o ++ [v] := by
  rw [List.take_set, List.take_succ_eq_append_getElem h, List.set_append_right _ _ (by rw [List.length_take]; omega)]
  simp [Nat.min_eq_left (Nat.le_of_lt h)]

theorem setCells_heap (g : Nat) (e : TypeId) (fz : Nat × Nat) : ∀ (vs : List Value) (o : Nat) (w : World) (cur : Array Value), w.heap[g]? = some (.cells cur e fz) → o + vs.length ≤ cur.size →
    ∃ cur', (w.setCells g o vs).heap[g]? = some (.cells cur' e fz) ∧ cur'.toList = cur.toList.take o ++ vs ++ cur.toList.drop (o + vs.length) ∧ Chg (fun j => j = g) w (w.setCells g o vs)
  | [], o, w, cur, h, hs => ⟨cur, h, by simp, Chg.refl _ _⟩
  | v :: r, o, w, cur, h, hs => by
    simp only [List.length_cons] at hs
    have h1 := heap_setCell_same (i := o) (v := v) h
    obtain ⟨cur', h2, h3, h4⟩ := setCells_heap g e fz r (o + 1) (w.setCell ⟨g, o, none⟩ v) (cur.setIfInBounds o v) h1 (by simp; omega)
    refine ⟨cur', h2, ?_, ?_⟩
    · rw [h3, Array.toList_setIfInBounds, take_set_succ _ _ _ (by simp; omega), List.drop_set_of_lt (by omega)]
      simp only [List.length_cons, List.append_assoc, List.singleton_append]
      rw [show o + 1 + r.length = o + (r.length + 1) by omega]
    · exact (Chg.setCell (F := fun j => j = g) (Chg.refl _ _) ⟨g, o, none⟩ v (fun _ => rfl)).trans h4 (fun _ _ h => h)

section
variable {P : Program} (w : World)

theorem run_append_sl (t ty e : TypeId) (i : TypeInfo) (z : Value) (size bytes : Nat) (ht : P.underlying t = some (.slice e)) (hi : P.info? e = some i) (hz : i.zero = some z)
    (hsize : i.size = size) (hby : i.bytes = bytes) (hzs : z.cells.size = size) (hsz : 0 < size)
    (v : Value) (n : Nat) (xs : List Value) (F : Nat → Prop) (hown : Sl w e size v n xs F)
    (B : Nat) (A : Option Addr) (m c : Nat) (news : List Value) (hr : Reads w B size A m news) (h1 : ∀ u ∈ news, u.oneCell' = true)
    (h63 : n + m ≤ maxLen) (hbytes : (n + m) * bytes ≤ 140737488355328) :
    ∃ v' w' F', (Builtin.append_ #[t, t] ty #[v, .slice A m c]).run P w = .ok v' w' ∧ Sl w' e size v' (n + m) (xs ++ news) F' ∧ Chg F w w' ∧ From F w w' F' ∧ (0 < n + m → v' ≠ .slice none 0 0) := by
  subst hsize
  subst hby
  have hsmall : n + m ≤ 9223372036854775807 := by simp only [maxLen] at h63; omega
  have hlen : (xs ++ news).length = (n + m) * i.size := by rw [List.length_append, hown.1, hr.1, Nat.add_mul]
  have hsrc : Src P i.size t (.slice A m c) m news w := by
    rcases A with _ | ad
    · have hm : m = 0 := by
        rcases Nat.eq_zero_or_pos m with h0 | h0
        · exact h0
        · obtain ⟨ad, h, _⟩ := hr.2 h0; cases h
      subst hm
      have hn : news = [] := List.eq_nil_of_length_eq_zero (by simpa using hr.1)
      subst hn
      exact Src.ofNil w ht c
    · refine Src.ofSlice w ht ad m c news hr.1 ?_ h1
      intro j u hu
      rcases Nat.eq_zero_or_pos m with h0 | h0
      · subst h0
        have hn : news = [] := List.eq_nil_of_length_eq_zero (by simpa using hr.1)
        subst hn; simp at hu
      · obtain ⟨ad', h, _, hc⟩ := hr.2 h0
        injection h with h; subst h
        exact hc j u hu
  have grown : ∀ (old : Nat), old < n + m →
      Sl (w.drew.alloc (.cells ((xs ++ news).toArray ++ Builtin.zeroCells z.cells (grownCap w (n + m) old e - (n + m))) e)) e i.size
        (.slice (some ⟨w.heap.size, 0, none⟩) (n + m) (grownCap w (n + m) old e)) (n + m) (xs ++ news) (fun j => j = w.heap.size) := by
    intro old ho
    have hge := grownCap_ge w (n + m) old e
    have hcm : grownCap w (n + m) old e ≤ maxLen := grownCap_le_maxLen w (n + m) old e h63
    refine ⟨hlen, .inr ⟨w.heap.size, 0, _, _, rfl, rfl, heap_alloc_new w.drew _, hge, hcm, ?_, ?_⟩⟩
    · simp only [Array.size_append, List.size_toArray, size_zeroCells, hzs, hlen, ← Nat.add_mul, Nat.zero_add]
      refine Nat.le_of_eq ?_
      congr 1
      omega
    · simp only [Array.toList_append, List.drop_zero]
      rw [← hlen]
      exact List.take_left
  have chg : ∀ o : Obj, Chg F w (w.drew.alloc o) := fun o => ((Chg.refl F w).drew).alloc o
  have frm : ∀ o : Obj, From F w (w.drew.alloc o) (fun j => j = w.heap.size) := fun o j hj => .inr ⟨Nat.le_of_eq hj.symm, by rw [World.size_alloc, hj]; exact Nat.lt_succ_self _⟩
  rcases hown.2 with ⟨rfl, rfl⟩ | ⟨g, off, cap, cur, rfl, hF, hg, hnc, hcm, hcs, htake⟩
  · have hx : xs = [] := List.eq_nil_of_length_eq_zero (by simpa using hown.1)
    subst hx
    by_cases hm : m = 0
    · subst hm
      have hn : news = [] := List.eq_nil_of_length_eq_zero (by simpa using hr.1)
      subst hn
      refine ⟨.slice none 0 0, w, F, ?_, by simpa using hown, Chg.refl _ _, From.refl _ _ _, fun h => absurd h (by omega)⟩
      rcases A with _ | ad <;>
        simp [Builtin.append_, run_underlying ht, sizeOf, typeInfo, hi, Builtin.lenOf, Builtin.firstCells, loadCells, loadCellsFrom]
    · have hrun := run_append_grow_src (P := P) w t t ty e i z ht hi hz none 0 0 [] (run_firstCells_none w.drew i.size 0 0 0) (.slice A m c) m news hsrc (by omega) (by omega) (growslice_fits (by omega) hbytes)
      have hgr := grown 0 (by omega)
      refine ⟨_, _, _, hrun, ?_, chg _, frm _, fun _ h => by cases h⟩
      simpa using hgr
  · by_cases hroom : n + m ≤ cap
    · have hcap : (n + m) * i.size ≤ cap * i.size := Nat.mul_le_mul_right _ hroom
      rw [Nat.add_mul] at hcap
      have hfit : off + n * i.size + news.length ≤ cur.size := by rw [hr.1]; omega
      have hrun := run_append_room_src (P := P) w t t ty e i ht hi g off n cap (.slice A m c) m news hsrc hroom
        (fun j hj => by rw [cell_of_row w g _ _ _ _ hg]; simp; omega) (fun j hj => by simp [World.frozen?, hg])
      obtain ⟨cur', hh, hl, hc⟩ := setCells_heap g e (0, 0) news (off + n * i.size) w cur hg hfit
      refine ⟨_, _, F, hrun, ⟨hlen, .inr ⟨g, off, cap, cur', rfl, hF, hh, hroom, hcm, ?_, ?_⟩⟩, hc.mono (fun j _ hj => by subst hj; exact hF), From.refl _ _ _, fun _ h => by cases h⟩
      · have : cur'.size = cur.size := by
          have := congrArg List.length hl
          simp at this
          omega
        omega
      · rw [hl, List.append_assoc, List.drop_append_of_le_length (by simp; omega), List.drop_take, show off + n * i.size - off = n * i.size by omega, htake, ← List.append_assoc, ← hlen]
        exact List.take_left
    · have hold : (Builtin.firstCells i.size n (.slice (some ⟨g, off, none⟩) n cap)).run P w.drew = .ok xs.toArray w.drew := by
        refine run_firstCells_some w.drew i.size n _ n cap xs hown.1 ?_
        intro j u hj
        have e1 : (⟨g, off, none⟩ : Addr).add j = ⟨g, off + j, none⟩ := by unfold Addr.add; split <;> simp_all
        rw [e1]
        show w.cell? _ = _
        rw [cell_of_row w g _ _ _ _ hg]
        rw [← htake, List.getElem?_take] at hj
        split at hj
        · rw [List.getElem?_drop] at hj; simpa using hj
        · cases hj
      have hrun := run_append_grow_src (P := P) w t t ty e i z ht hi hz (some ⟨g, off, none⟩) n cap xs hold (.slice A m c) m news hsrc (by omega) (by omega) (growslice_fits (by omega) hbytes)
      have hgr := grown cap (by omega)
      refine ⟨_, _, _, hrun, ?_, chg _, frm _, fun _ h => by cases h⟩
      simpa using hgr

theorem wp_append_sl {o : Oper} {a : Act} {K : Act → World → Prop} {Q : Exit → Act → World → Prop} (s x : Operand) (t : TypeId)
    (ho : o.op = .call { callee := .builtin .append, args := #[s, x], argTypes := #[t, t] })
    (e : TypeId) (i : TypeInfo) (z : Value) (size bytes : Nat) (ht : P.underlying t = some (.slice e)) (hi : P.info? e = some i) (hz : i.zero = some z)
    (hsize : i.size = size) (hby : i.bytes = bytes) (hzs : z.cells.size = size) (hsz : 0 < size)
    (v : Value) (n : Nat) (xs : List Value) (F : Nat → Prop) (hs : a.eval s = v) (hown : Sl w e size v n xs F)
    (B : Nat) (A : Option Addr) (m c : Nat) (news : List Value) (hx : a.eval x = .slice A m c) (hr : Reads w B size A m news) (h1 : ∀ u ∈ news, u.oneCell' = true)
    (h63 : n + m ≤ maxLen) (hbytes : (n + m) * bytes ≤ 140737488355328)
    (h : ∀ v' w' F', Sl w' e size v' (n + m) (xs ++ news) F' → Chg F w w' → From F w w' F' → (0 < n + m → v' ≠ .slice none 0 0) → K (a.put o.dst v') w') : o.wp P a w K Q := by
  obtain ⟨v', w', F', hrun, h2, h3, h4, h5⟩ := run_append_sl (P := P) w t o.type e i z size bytes ht hi hz hsize hby hzs hsz v n xs F hown B A m c news hr h1 h63 hbytes
  unfold Oper.wp execOp
  simp only [ho, resolve, invoke, builtin, Sem.run_bind, Sem.run_pure, Result.andThen_ok, List.map_toArray, List.map_cons, List.map_nil, hs, hx, hrun]
  exact h v' w' F' h2 h3 h4 h5

theorem wpList_append_sl {ops : Array Oper} {rest : List Oper} {o : Oper} {a : Act} {Q : Exit → Act → World → Prop} (hgd : o.guard = none) (s x : Operand) (t : TypeId)
    (ho : o.op = .call { callee := .builtin .append, args := #[s, x], argTypes := #[t, t] })
    (e : TypeId) (i : TypeInfo) (z : Value) (size bytes : Nat) (ht : P.underlying t = some (.slice e)) (hi : P.info? e = some i) (hz : i.zero = some z)
    (hsize : i.size = size) (hby : i.bytes = bytes) (hzs : z.cells.size = size) (hsz : 0 < size)
    (v : Value) (n : Nat) (xs : List Value) (F : Nat → Prop) (hs : a.eval s = v) (hown : Sl w e size v n xs F)
    (B : Nat) (A : Option Addr) (m c : Nat) (news : List Value) (hx : a.eval x = .slice A m c) (hr : Reads w B size A m news) (h1 : ∀ u ∈ news, u.oneCell' = true)
    (h63 : n + m ≤ maxLen) (hbytes : (n + m) * bytes ≤ 140737488355328)
    (h : ∀ v' w' F', Sl w' e size v' (n + m) (xs ++ news) F' → Chg F w w' → From F w w' F' → (0 < n + m → v' ≠ .slice none 0 0) → wpList P ops Q rest (a.put o.dst v') w') : wpList P ops Q (o :: rest) a w :=
  wpList_plain hgd fun _ hK => wp_append_sl w s x t ho e i z size bytes ht hi hz hsize hby hzs hsz v n xs F hs hown B A m c news hx hr h1 h63 hbytes fun v' w' F' h2 h3 h4 h5 => hK _ _ (h v' w' F' h2 h3 h4 h5)
end
end Go.Proofs.Ytflinpnmpkdopaa
