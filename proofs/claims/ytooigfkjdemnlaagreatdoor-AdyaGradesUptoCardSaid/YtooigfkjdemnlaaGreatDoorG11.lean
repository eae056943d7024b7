/- Own texts of this claim, joined in build order: S9, S10, E1. -/
import Derived.Test.YtooigfkjdemnlaaGreatDoorG10
import Derived.Deep.RegionHeld3
import Derived.Deep.Cut
set_option linter.all false
namespace Go.Proofs.YtooigfkjdemnlaaGreatDoor
set_option maxRecDepth 100000
open Go.RowKit Go.Lib Go.Sort Go.Shelf Xw
def orI (x y : Int) : Int := if x = 0 then y else x
set_option maxHeartbeats 2000000 in
theorem or2_ (x y : Int) (g : Nat) (w : World) (h0 : w.cell? ⟨g, 0, none⟩ = some (.int .i64 x)) (h1 : w.cell? ⟨g, 1, none⟩ = some (.int .i64 y)) :
    Calls Tryz.prog 74 #[.slice (some ⟨g, 0, none⟩) 2 2] w fun e w' => e = .returned (.int .i64 (orI x y)) ∧ w' = w := by
  by_cases hx : x = 0
  · subst hx
    have e : Hid (orI 0 y = y) := Lib.hid rfl
    have e2 : Hid (y = 0 ∨ y ≠ 0) := Lib.hid (by omega)
    by_cases hy : y = 0
    · subst hy
      go_enter Tryz.func74, Tryz.ntmps74
      go_wp2
      refine wp_loop_rounds 3 ?_
      rw [rounds_succ]
      go_wp2
      rw [rounds_succ]
      go_wp2
      rw [rounds_succ]
      go_wp2
      all_goals go_ret
      all_goals exact ⟨rfl, rfl⟩
    · have hyb : (y != 0) = true := by simp [hy]
      go_enter Tryz.func74, Tryz.ntmps74
      go_wp2
      refine wp_loop_rounds 3 ?_
      rw [rounds_succ]
      go_wp2
      rw [rounds_succ]
      go_wp2
      all_goals go_ret
      all_goals exact ⟨by rw [e.out]; rfl, rfl⟩
  · have hxb : (x != 0) = true := by simp [hx]
    have e : Hid (orI x y = x) := Lib.hid (by unfold orI; rw [if_neg hx])
    go_enter Tryz.func74, Tryz.ntmps74
    go_wp2
    refine wp_loop_rounds 3 ?_
    rw [rounds_succ]
    go_wp2
    all_goals go_ret
    all_goals exact ⟨by rw [e.out]; rfl, rfl⟩

def instCmp (a b : Inst) : Int := orI (cmpI a.fin b.fin) (cmpI a.txn b.txn)
set_option maxHeartbeats 2000000 in
theorem openCmp_ (a b : Inst) (w : World) :
    Calls Tryz.prog 87 #[.agg #[.int .i64 a.txn, .int .u64 a.fin, .bool a.dead], .agg #[.int .i64 b.txn, .int .u64 b.fin, .bool b.dead]] w fun e w' => e = .returned (.int .i64 (instCmp a b)) ∧ ∃ q os, w' = grow (w.drewN q) os := by
  have H : Hid (instCmp a b = orI (cmpI a.fin b.fin) (cmpI a.txn b.txn)) := Lib.hid rfl
  obtain ⟨x, hx⟩ : ∃ x, cmpI a.fin b.fin = x := ⟨_, rfl⟩
  obtain ⟨y, hy⟩ : ∃ y, cmpI a.txn b.txn = y := ⟨_, rfl⟩
  have c1 : Hid (∀ w, Calls Tryz.prog 75 #[.int .u64 a.fin, .int .u64 b.fin] w fun e w' => e = .returned (.int .i64 x) ∧ w' = w) := Lib.hid (fun w => (compare_u64_ a.fin b.fin w).mono (by rintro e w' ⟨rfl, rfl⟩; rw [hx]; exact ⟨rfl, rfl⟩))
  have c2 : Hid (∀ w, Calls Tryz.prog 76 #[.int .i64 a.txn, .int .i64 b.txn] w fun e w' => e = .returned (.int .i64 y) ∧ w' = w) := Lib.hid (fun w => (compare_int_ a.txn b.txn w).mono (by rintro e w' ⟨rfl, rfl⟩; rw [hy]; exact ⟨rfl, rfl⟩))
  rw [hx, hy] at H
  clear hx hy
  go_enter Tryz.func87, Tryz.ntmps87
  obtain ⟨w2, hw2⟩ : ∃ w2, (w.alloc (.cells #[.int .i64 a.txn, .int .u64 a.fin, .bool a.dead] 125)).alloc (.cells #[.int .i64 b.txn, .int .u64 b.fin, .bool b.dead] 125) = w2 := ⟨_, rfl⟩
  have q0 : w2.cell? ⟨w.heap.size, 0, none⟩ = some (.int .i64 a.txn) := by rw [← hw2]; simp
  have q1 : w2.cell? ⟨w.heap.size, 1, none⟩ = some (.int .u64 a.fin) := by rw [← hw2]; simp
  have q2 : w2.cell? ⟨w.heap.size + 1, 0, none⟩ = some (.int .i64 b.txn) := by rw [← hw2]; simp
  have q3 : w2.cell? ⟨w.heap.size + 1, 1, none⟩ = some (.int .u64 b.fin) := by rw [← hw2]; simp
  have hsz : w2.heap.size = w.heap.size + 2 := by rw [← hw2]; simp
  go_upto_region 1 with (fail)
  have HW := Lib.hid hw2
  clear hw2
  go_region_held3 (fun w' => w'.cell? ⟨w.heap.size, 0, none⟩ = some (.int .i64 a.txn) ∧ w'.cell? ⟨w.heap.size, 1, none⟩ = some (.int .u64 a.fin) ∧ w'.cell? ⟨w.heap.size + 1, 0, none⟩ = some (.int .i64 b.txn) ∧ w'.cell? ⟨w.heap.size + 1, 1, none⟩ = some (.int .u64 b.fin)) (first | exact ⟨q0, q1, q2, q3⟩ | go_keep)
    (first
      | (go_at_call 75; refine (c1.out _).mono ?_; rintro e w' ⟨rfl, rfl⟩)
      | (go_at_call 76; refine (c2.out _).mono ?_; rintro e w' ⟨rfl, rfl⟩)
      | (go_at_call 74; refine (or2_ x y _ _ ((cells_of (top_al _ _ (by rw [hsz]))).1 0) ((cells_of (top_al _ _ (by rw [hsz]))).1 1)).mono ?_; rintro e w' ⟨rfl, rfl⟩))
  go_wp2
  go_ret
  exact ⟨ret_int (by rw [H.out]), _, _, by rw [← HW.out, alloc_eq_grow, alloc_eq_grow, alloc_eq_grow, grow_grow, grow_grow, drew_grow]; rfl⟩
end Go.Proofs.YtooigfkjdemnlaaGreatDoor

namespace Go.Proofs.YtooigfkjdemnlaaGreatDoor
set_option maxRecDepth 100000
open Go.RowKit Go.Lib Go.Sort Go.Shelf Xw
theorem ltOf_inst (x y : Inst) : ltOf instCmp x y = decide (x.fin < y.fin ∨ x.fin = y.fin ∧ x.txn < y.txn) := by
  unfold ltOf
  congr 1
  unfold instCmp orI cmpI
  apply propext
  repeat' split
  all_goals constructor
  all_goals intro h
  all_goals omega
theorem swo_inst : SWO (ltOf instCmp) where
  irrefl x := by rw [ltOf_inst]; simp
  trans x y z h1 h2 := by rw [ltOf_inst] at *; simp at *; omega
  ntrans x y z h1 h2 := by rw [ltOf_inst] at *; simp at *; omega
theorem instLe_iff (a b : Inst) : instLe a b = true ↔ ltOf instCmp b a = false := by
  rw [ltOf_inst]
  unfold instLe
  simp only [Bool.or_eq_true, Bool.and_eq_true, decide_eq_true_eq, beq_iff_eq, decide_eq_false_iff_not]
  omega
theorem inst_unique {l l' : List Inst} (p : l'.Perm l) (hs : Srtd (ltOf instCmp) l') (hn : (l.map (·.txn)).Nodup) : l' = l.mergeSort instLe := by
  refine List.Perm.eq_of_pairwise (le := fun x y => instLe x y = true) ?_ (hs.imp fun h => (instLe_iff _ _).2 h) ?_ (p.trans (List.mergeSort_perm _ _).symm)
  · intro a b ha hb h1 h2
    have ha' := p.mem_iff.1 ha
    have hb' := (List.mergeSort_perm _ _).mem_iff.1 hb
    have e : a.txn = b.txn := by
      rw [instLe_iff, ltOf_inst] at h1 h2
      simp only [decide_eq_false_iff_not] at h1 h2
      omega
    obtain ⟨i, hi, rfl⟩ := List.getElem_of_mem ha'
    obtain ⟨j, hj, rfl⟩ := List.getElem_of_mem hb'
    have := List.getElem_inj (xs := l.map (·.txn)) (i := i) (j := j) (h₀ := by simpa using hi) (h₁ := by simpa using hj) hn
    have h3 : i = j := this.1 (by simpa using e)
    subst h3; rfl
  · refine List.pairwise_mergeSort ?_ ?_ l
    · intro a b c h1 h2
      rw [instLe_iff] at *
      exact swo_inst.ntrans _ _ _ h2 h1
    · intro a b
      rw [Bool.or_eq_true, instLe_iff, instLe_iff, ltOf_inst, ltOf_inst]
      simp only [decide_eq_false_iff_not]
      omega
set_option maxHeartbeats 2000000 in
theorem sortStable_ (blk off cap : Nat) (l : List Inst) (w : World) (hH : HoldsK instC 3 w blk off l.toArray) (hblk : blk < w.heap.size) (hn : (l.map (·.txn)).Nodup) (hsz : l.length < 1152921504606846976) :
    Calls Tryz.prog 86 #[.slice (some ⟨blk, off, none⟩) l.length cap, .func (.func 87) #[] #[]] w fun e w' => e = .returned (.tuple #[]) ∧ SWK instC 3 w blk off (l.mergeSort instLe).toArray w' := by
  have eg : ∀ args w, (callFunc 87 args).run Tryz.prog w = .ok (.enter 87 args) w := enters_of Tryz.func87 (by kernel_rfl) rfl
  have hcmp : CmpLays Tryz.prog 87 #[] instC 3 instCmp blk off l.length w := fun m os dk _ x y => by
    have := openCmp_ x y (sortWorldK instC 3 w blk off m dk os)
    simpa [instC] using this
  have hc := Lib.hid (stable_ instCmp 87 #[] blk off cap l w ⟨fun _ => rfl, instC_one, hH, hblk⟩ eg hcmp swo_inst hsz)
  obtain ⟨n, hl⟩ : ∃ n, l.length = n := ⟨_, rfl⟩
  have HN := Lib.hid hn
  rw [hl] at hc ⊢
  clear hcmp eg hH hn hsz hl
  go_enter Tryz.func86, Tryz.ntmps86
  go_wp2_with (go_at_call 113; refine (hc.out).mono ?_; rintro e w1 ⟨rfl, h1⟩; have H1 := Lib.hid h1; clear h1)
  go_end0
  obtain ⟨l', p, s, S⟩ := H1.out
  rw [inst_unique p s HN.out] at S
  exact ⟨rfl, S⟩
end Go.Proofs.YtooigfkjdemnlaaGreatDoor

namespace Go.Proofs.YtooigfkjdemnlaaGreatDoor
set_option maxRecDepth 100000
open Go.RowKit Go.Lib Go.Sort Go.Shelf Xw
def orL : List Int → Int
  | [] => 0
  | x :: r => if x = 0 then orL r else x
theorem orL_drop {l : List Int} : ∀ {i : Nat}, i ≤ l.length → (∀ j, j < i → l[j]? = some 0) → orL l = orL (l.drop i) := by
  intro i
  induction i with
  | zero => intro _ _; simp
  | succ i ih =>
    intro h1 h2
    rw [ih (by omega) (fun j hj => h2 j (by omega))]
    have h3 := h2 i (by omega)
    have hi : i < l.length := by omega
    rw [List.drop_eq_getElem_cons hi, orL]
    rw [List.getElem?_eq_getElem hi] at h3
    rw [if_pos (by simpa using h3)]
set_option maxHeartbeats 2000000 in
theorem or_ (l : List Int) (g : Nat) (w : World) (hc : ∀ i, w.cell? ⟨g, i, none⟩ = (l.map (Value.int .i64))[i]?) (hz : l.length < 4611686018427387904) :
    Calls Tryz.prog 74 #[.slice (some ⟨g, 0, none⟩) l.length l.length] w fun e w' => e = .returned (.int .i64 (orL l)) ∧ w' = w := by
  have HC := Lib.hid hc
  clear hc
  obtain ⟨n, hn⟩ : ∃ n, l.length = n := ⟨_, rfl⟩
  have HN := Lib.hid hn
  rw [hn] at hz ⊢
  clear hn
  go_enter Tryz.func74, Tryz.ntmps74
  go_wp2
  go_loopw [5, 8] (fun _ vi wr => ∃ i : Nat, vi = .int .i64 i ∧ i ≤ n ∧ Hid (∀ j, j < i → l[j]? = some 0) ∧ wr = w) (fun _ vi _ => n - (intOf vi).toNat)
  case atStart => exact ⟨0, rfl, by omega, Lib.hid (fun j hj => by omega), rfl⟩
  case round =>
    obtain ⟨i, rfl, hi, HZ, rfl⟩ := hrel
    by_cases hlt : i < n
    · obtain ⟨x, hx⟩ : ∃ x, l[i]? = some x := ⟨_, List.getElem?_eq_getElem (by have := HN.out; omega)⟩
      have h0 : wr.cell? ⟨g, i, none⟩ = some (.int .i64 x) := by rw [HC.out]; simp [hx]
      have HX := Lib.hid hx
      clear hx
      by_cases hx0 : x = 0
      · have HZ2 : Hid (∀ j, j < i + 1 → l[j]? = some 0) := Lib.hid (fun j hj => by
          rcases Nat.lt_or_ge j i with c | c
          · exact HZ.out j c
          · obtain rfl : j = i := by omega
            rw [HX.out, hx0])
        have hxb : (x != 0) = false := by simp [hx0]
        clear hx0
        go_wp2
        exact ⟨⟨i + 1, by simp, by omega, HZ2, by trivial⟩, by simp [intOf]; omega⟩
      · have hxb : (x != 0) = true := by simp [hx0]
        have HO : Hid (orL l = x) := Lib.hid (by
          have hil : i < l.length := by have := HN.out; omega
          rw [orL_drop (i := i) (by omega) HZ.out, List.drop_eq_getElem_cons hil, orL]
          have := HX.out
          rw [List.getElem?_eq_getElem hil] at this
          simp only [Option.some.injEq] at this
          rw [this, if_neg hx0])
        clear hx0
        go_wp2
        go_ret
        exact ⟨ret_int (by rw [HO.out]), rfl⟩
    · have HO : Hid (orL l = 0) := Lib.hid (by
        rw [orL_drop (i := i) (by have := HN.out; omega) HZ.out, List.drop_of_length_le (by have := HN.out; omega)]; rfl)
      go_wp2
      go_ret
      exact ⟨ret_int (by rw [HO.out]), rfl⟩

theorem or4_ (x1 x2 x3 x4 : Int) (g : Nat) (w : World) (t : TypeId) (hb : w.heap[g]? = some (.cells #[.int .i64 x1, .int .i64 x2, .int .i64 x3, .int .i64 x4] t (0, 0))) :
    Calls Tryz.prog 74 #[.slice (some ⟨g, 0, none⟩) 4 4] w fun e w' => e = .returned (.int .i64 (orL [x1, x2, x3, x4])) ∧ w' = w :=
  or_ [x1, x2, x3, x4] g w (cells_of (cs := [.int .i64 x1, .int .i64 x2, .int .i64 x3, .int .i64 x4]) hb).1 (by simp)
def edgeCmp (a b : Edge) : Int := orL [cmpI a.frm b.frm, cmpI a.to b.to, cmpI a.kind b.kind, cmpS a.key b.key]
set_option maxHeartbeats 4000000 in
theorem edgeCmp_ (a b : Edge) (w : World) :
    Calls Tryz.prog 55 #[.agg #[.int .i64 a.frm, .int .i64 a.to, .int .i64 a.kind, .string a.key], .agg #[.int .i64 b.frm, .int .i64 b.to, .int .i64 b.kind, .string b.key]] w fun e w' => e = .returned (.int .i64 (edgeCmp a b)) ∧ ∃ q os, w' = grow (w.drewN q) os := by
  have H : Hid (edgeCmp a b = orL [cmpI a.frm b.frm, cmpI a.to b.to, cmpI a.kind b.kind, cmpS a.key b.key]) := Lib.hid rfl
  obtain ⟨x1, hx1⟩ : ∃ x, cmpI a.frm b.frm = x := ⟨_, rfl⟩
  obtain ⟨x2, hx2⟩ : ∃ x, cmpI a.to b.to = x := ⟨_, rfl⟩
  obtain ⟨x3, hx3⟩ : ∃ x, cmpI a.kind b.kind = x := ⟨_, rfl⟩
  obtain ⟨x4, hx4⟩ : ∃ x, cmpS a.key b.key = x := ⟨_, rfl⟩
  have c1 : Hid (∀ w, Calls Tryz.prog 76 #[.int .i64 a.frm, .int .i64 b.frm] w fun e w' => e = .returned (.int .i64 x1) ∧ w' = w) := Lib.hid (fun w => (compare_int_ _ _ w).mono (by rintro e w' ⟨rfl, rfl⟩; rw [hx1]; exact ⟨rfl, rfl⟩))
  have c2 : Hid (∀ w, Calls Tryz.prog 76 #[.int .i64 a.to, .int .i64 b.to] w fun e w' => e = .returned (.int .i64 x2) ∧ w' = w) := Lib.hid (fun w => (compare_int_ _ _ w).mono (by rintro e w' ⟨rfl, rfl⟩; rw [hx2]; exact ⟨rfl, rfl⟩))
  have c3 : Hid (∀ w, Calls Tryz.prog 100 #[.int .i64 a.kind, .int .i64 b.kind] w fun e w' => e = .returned (.int .i64 x3) ∧ w' = w) := Lib.hid (fun w => (compare_kind_ _ _ w).mono (by rintro e w' ⟨rfl, rfl⟩; rw [hx3]; exact ⟨rfl, rfl⟩))
  have c4 : Hid (∀ w, Calls Tryz.prog 101 #[.string a.key, .string b.key] w fun e w' => e = .returned (.int .i64 x4) ∧ w' = w) := Lib.hid (fun w => (compare_str_ _ _ w).mono (by rintro e w' ⟨rfl, rfl⟩; rw [hx4]; exact ⟨rfl, rfl⟩))
  rw [hx1, hx2, hx3, hx4] at H
  clear hx1 hx2 hx3 hx4
  go_enter Tryz.func55, Tryz.ntmps55
  obtain ⟨w2, hw2⟩ : ∃ w2, (w.alloc (.cells #[.int .i64 a.frm, .int .i64 a.to, .int .i64 a.kind, .string a.key] 66)).alloc (.cells #[.int .i64 b.frm, .int .i64 b.to, .int .i64 b.kind, .string b.key] 66) = w2 := ⟨_, rfl⟩
  have q0 : w2.cell? ⟨w.heap.size, 0, none⟩ = some (.int .i64 a.frm) := by rw [← hw2]; simp
  have q1 : w2.cell? ⟨w.heap.size, 1, none⟩ = some (.int .i64 a.to) := by rw [← hw2]; simp
  have q2 : w2.cell? ⟨w.heap.size, 2, none⟩ = some (.int .i64 a.kind) := by rw [← hw2]; simp
  have q3 : w2.cell? ⟨w.heap.size, 3, none⟩ = some (.string a.key) := by rw [← hw2]; simp
  have q4 : w2.cell? ⟨w.heap.size + 1, 0, none⟩ = some (.int .i64 b.frm) := by rw [← hw2]; simp
  have q5 : w2.cell? ⟨w.heap.size + 1, 1, none⟩ = some (.int .i64 b.to) := by rw [← hw2]; simp
  have q6 : w2.cell? ⟨w.heap.size + 1, 2, none⟩ = some (.int .i64 b.kind) := by rw [← hw2]; simp
  have q7 : w2.cell? ⟨w.heap.size + 1, 3, none⟩ = some (.string b.key) := by rw [← hw2]; simp
  have hsz : w2.heap.size = w.heap.size + 2 := by rw [← hw2]; simp
  have c5 : Hid (Calls Tryz.prog 74 #[.slice (some ⟨w.heap.size + 2, 0, none⟩) 4 4] (w2.alloc (.cells #[.int .i64 x1, .int .i64 x2, .int .i64 x3, .int .i64 x4] 3)).drew fun e w' => e = .returned (.int .i64 (orL [x1, x2, x3, x4])) ∧ w' = (w2.alloc (.cells #[.int .i64 x1, .int .i64 x2, .int .i64 x3, .int .i64 x4] 3)).drew) :=
    Lib.hid (or4_ x1 x2 x3 x4 (w.heap.size + 2) _ 3 (top_al w2 _ (by rw [hsz])))
  go_upto_region 1 with (fail)
  have HW := Lib.hid hw2
  clear hw2
  go_region_held3 (fun w' => w'.cell? ⟨w.heap.size, 0, none⟩ = some (.int .i64 a.frm) ∧ w'.cell? ⟨w.heap.size, 1, none⟩ = some (.int .i64 a.to) ∧ w'.cell? ⟨w.heap.size, 2, none⟩ = some (.int .i64 a.kind) ∧ w'.cell? ⟨w.heap.size, 3, none⟩ = some (.string a.key) ∧ w'.cell? ⟨w.heap.size + 1, 0, none⟩ = some (.int .i64 b.frm) ∧ w'.cell? ⟨w.heap.size + 1, 1, none⟩ = some (.int .i64 b.to) ∧ w'.cell? ⟨w.heap.size + 1, 2, none⟩ = some (.int .i64 b.kind) ∧ w'.cell? ⟨w.heap.size + 1, 3, none⟩ = some (.string b.key)) (first | exact ⟨q0, q1, q2, q3, q4, q5, q6, q7⟩ | go_keep)
    (first
      | (go_at_call 76; with_reducible refine (c1.out _).mono ?_; rintro e w' ⟨rfl, rfl⟩)
      | (go_at_call 76; with_reducible refine (c2.out _).mono ?_; rintro e w' ⟨rfl, rfl⟩)
      | (go_at_call 100; with_reducible refine (c3.out _).mono ?_; rintro e w' ⟨rfl, rfl⟩)
      | (go_at_call 101; with_reducible refine (c4.out _).mono ?_; rintro e w' ⟨rfl, rfl⟩)
      | (go_at_call 74; with_reducible refine (c5.out).mono ?_; rintro e w' ⟨rfl, rfl⟩))
  go_wp2
  go_ret
  exact ⟨ret_int (by rw [H.out]), _, _, by rw [← HW.out, alloc_eq_grow, alloc_eq_grow, alloc_eq_grow, grow_grow, grow_grow, drew_grow]; rfl⟩
end Go.Proofs.YtooigfkjdemnlaaGreatDoor
