/- Own texts of this claim, joined in build order: Sq3, Sq4. -/
import Derived.Test.YtooigfkjdemnlaaGreatDoorG40
import Derived.Shelf.SlIterI.Sorted
set_option linter.all false
namespace Go.Proofs.YtooigfkjdemnlaaGreatDoor
set_option maxRecDepth 100000
open Go.RowKit Go.Lib Go.Sort Go.Shelf Xw
attribute [local go_sem] Oper.semAt_some
def renSortI : Ren := ⟨fun x => if x = 0 then 0 else if x = 1 then 1 else if x = 2 then 2 else if x = 5 then 84 else if x = 7 then 112 else if x = 8 then 99 else if x = 10 then 145 else if x = 11 then 146 else if x = 12 then 147 else if x = 13 then 148 else if x = 14 then 149 else if x = 15 then 150 else if x = 16 then 151 else if x = 17 then 152 else if x = 18 then 153 else if x = 19 then 132 else if x = 20 then 133 else if x = 30 then 174 else if x = 31 then 167 else if x = 32 then 168 else if x = 33 then 175 else if x = 34 then 176 else if x = 35 then 109 else if x = 40 then 184 else if x = 42 then 187 else if x = 43 then 188 else if x = 44 then 189 else if x = 45 then 190 else if x = 46 then 191 else if x = 47 then 192 else if x = 48 then 193 else if x = 49 then 194 else if x = 50 then 195 else if x = 51 then 196 else if x = 52 then 197 else if x = 53 then 198 else if x = 54 then 199 else if x = 55 then 200 else if x = 56 then 201 else if x = 57 then 202 else  x, fun x => if x = 0 then 0 else if x = 1 then 1 else if x = 2 then 2 else if x = 3 then 3 else if x = 4 then 4 else if x = 5 then 5 else if x = 6 then 6 else if x = 7 then 7 else if x = 8 then 8 else if x = 9 then 9 else if x = 10 then 10 else if x = 11 then 11 else if x = 12 then 12 else if x = 13 then 13 else if x = 14 then 14 else if x = 15 then 15 else if x = 16 then 16 else if x = 17 then 17 else if x = 18 then 18 else if x = 19 then 19 else if x = 20 then 20 else if x = 21 then 21 else if x = 22 then 34 else if x = 23 then 34 else if x = 24 then 158 else if x = 25 then 3 else if x = 30 then 183 else if x = 31 then 173 else if x = 32 then 174 else if x = 34 then 214 else if x = 35 then 195 else if x = 36 then 196 else if x = 37 then 215 else if x = 38 then 216 else if x = 39 then 157 else if x = 40 then 217 else if x = 41 then 200 else if x = 42 then 218 else if x = 43 then 202 else if x = 44 then 203 else if x = 45 then 204 else if x = 46 then 50 else if x = 53 then 228 else if x = 54 then 229 else if x = 55 then 230 else if x = 56 then 236 else if x = 57 then 232 else if x = 58 then 237 else if x = 59 then 85 else if x = 63 then 240 else if x = 64 then 151 else if x = 65 then 243 else if x = 67 then 245 else if x = 68 then 246 else if x = 69 then 247 else if x = 70 then 248 else if x = 71 then 249 else if x = 72 then 250 else if x = 73 then 251 else if x = 74 then 252 else if x = 75 then 253 else if x = 76 then 254 else if x = 77 then 255 else if x = 78 then 256 else if x = 79 then 257 else if x = 80 then 258 else if x = 81 then 259 else if x = 82 then 260 else  x, fun x => x⟩
set_option maxHeartbeats 1000000 in
theorem laySortI : SlLaysM.n5 Tryz.prog renSortI where
  mixed := by kernel_rfl
  f5 := ⟨Tryz.f84.name, by kernel_rfl, Tryz.func84.trans (by kernel_rfl)⟩
  f7 := ⟨Tryz.f112.name, by kernel_rfl, Tryz.func112.trans (by kernel_rfl)⟩
  f8 := Tryz.func99.trans (by kernel_rfl)
  f10 := ⟨Tryz.f145.name, by kernel_rfl, Tryz.func145.trans (by kernel_rfl)⟩
  f11 := ⟨Tryz.f146.name, by kernel_rfl, Tryz.func146.trans (by kernel_rfl)⟩
  f12 := ⟨Tryz.f147.name, by kernel_rfl, Tryz.func147.trans (by kernel_rfl)⟩
  f13 := ⟨Tryz.f148.name, by kernel_rfl, Tryz.func148.trans (by kernel_rfl)⟩
  f14 := ⟨Tryz.f149.name, by kernel_rfl, Tryz.func149.trans (by kernel_rfl)⟩
  f15 := ⟨Tryz.f150.name, by kernel_rfl, Tryz.func150.trans (by kernel_rfl)⟩
  f16 := ⟨Tryz.f151.name, by kernel_rfl, Tryz.func151.trans (by kernel_rfl)⟩
  f17 := ⟨Tryz.f152.name, by kernel_rfl, Tryz.func152.trans (by kernel_rfl)⟩
  f18 := ⟨Tryz.f153.name, by kernel_rfl, Tryz.func153.trans (by kernel_rfl)⟩
  f19 := Tryz.func132.trans (by kernel_rfl)
  f20 := Tryz.func133.trans (by kernel_rfl)
  f30 := ⟨Tryz.f174.name, by kernel_rfl, Tryz.func174.trans (by kernel_rfl)⟩
  f31 := Tryz.func167.trans (by kernel_rfl)
  f32 := Tryz.func168.trans (by kernel_rfl)
  f33 := ⟨Tryz.f175.name, by kernel_rfl, Tryz.func175.trans (by kernel_rfl)⟩
  f34 := ⟨Tryz.f176.name, by kernel_rfl, Tryz.func176.trans (by kernel_rfl)⟩
  f35 := ⟨Tryz.f109.name, by kernel_rfl, Tryz.func109.trans (by kernel_rfl)⟩
  f40 := ⟨Tryz.f184.name, by kernel_rfl, Tryz.func184.trans (by kernel_rfl)⟩
  t0 := by kernel_rfl
  a0 := fun _ => by kernel_rfl
  z0 := fun _ => by kernel_rfl
  v0 := fun _ => by kernel_rfl
  t3 := by kernel_rfl
  a3 := fun _ => by kernel_rfl
  z3 := fun _ => by kernel_rfl
  v3 := fun _ => by kernel_rfl
  t4 := by kernel_rfl
  a4 := fun _ => by kernel_rfl
  z4 := fun _ => by kernel_rfl
  v4 := fun _ => by kernel_rfl
  t5 := by kernel_rfl
  a5 := fun _ => by kernel_rfl
  z5 := fun _ => by kernel_rfl
  v5 := fun _ => by kernel_rfl
  t9 := by kernel_rfl
  a9 := fun _ => by kernel_rfl
  z9 := fun _ => by kernel_rfl
  v9 := fun _ => by kernel_rfl
  t22 := by kernel_rfl
  a22 := fun _ => by kernel_rfl
  z22 := fun _ => by kernel_rfl
  v22 := fun _ => by kernel_rfl
  t23 := by kernel_rfl
  a23 := fun _ => by kernel_rfl
  z23 := fun _ => by kernel_rfl
  v23 := fun _ => by kernel_rfl
  t25 := by kernel_rfl
  a25 := fun _ => by kernel_rfl
  z25 := fun _ => by kernel_rfl
  v25 := fun _ => by kernel_rfl
  t32 := by kernel_rfl
  a32 := fun _ => by kernel_rfl
  z32 := fun _ => by kernel_rfl
  v32 := fun _ => by kernel_rfl
  t35 := by kernel_rfl
  a35 := fun _ => by kernel_rfl
  z35 := fun _ => by kernel_rfl
  v35 := fun _ => by kernel_rfl
  t36 := by kernel_rfl
  a36 := fun _ => by kernel_rfl
  z36 := fun _ => by kernel_rfl
  v36 := fun _ => by kernel_rfl
  t41 := by kernel_rfl
  a41 := fun _ => by kernel_rfl
  z41 := fun _ => by kernel_rfl
  v41 := fun _ => by kernel_rfl
  t44 := by kernel_rfl
  a44 := fun _ => by kernel_rfl
  z44 := fun _ => by kernel_rfl
  v44 := fun _ => by kernel_rfl
  t46 := by kernel_rfl
  a46 := fun _ => by kernel_rfl
  z46 := fun _ => by kernel_rfl
  v46 := fun _ => by kernel_rfl
  t53 := by kernel_rfl
  a53 := fun _ => by kernel_rfl
  z53 := fun _ => by kernel_rfl
  v53 := fun _ => by kernel_rfl
  t57 := by kernel_rfl
  a57 := fun _ => by kernel_rfl
  z57 := fun _ => by kernel_rfl
  v57 := fun _ => by kernel_rfl
  t63 := by kernel_rfl
  a63 := fun _ => by kernel_rfl
  z63 := fun _ => by kernel_rfl
  v63 := fun _ => by kernel_rfl
  t64 := by kernel_rfl
  a64 := fun _ => by kernel_rfl
  z64 := fun _ => by kernel_rfl
  v64 := fun _ => by kernel_rfl
def renSortedI : Ren := ⟨fun x => if x = 0 then 0 else if x = 1 then 1 else if x = 2 then 2 else if x = 6 then 39 else if x = 7 then 40 else if x = 8 then 83 else if x = 9 then 84 else if x = 10 then 85 else if x = 11 then 111 else if x = 12 then 112 else if x = 13 then 99 else if x = 14 then 145 else if x = 15 then 146 else if x = 16 then 147 else if x = 17 then 148 else if x = 18 then 149 else if x = 19 then 150 else if x = 20 then 151 else if x = 21 then 152 else if x = 22 then 153 else if x = 23 then 132 else if x = 24 then 133 else if x = 25 then 174 else if x = 26 then 167 else if x = 27 then 168 else if x = 28 then 175 else if x = 29 then 176 else if x = 30 then 109 else if x = 31 then 184 else if x = 32 then 187 else if x = 33 then 188 else if x = 34 then 189 else if x = 35 then 190 else if x = 36 then 191 else if x = 37 then 192 else if x = 38 then 193 else if x = 39 then 194 else if x = 40 then 195 else if x = 41 then 196 else if x = 42 then 197 else if x = 43 then 198 else if x = 44 then 199 else if x = 45 then 200 else if x = 46 then 201 else if x = 47 then 202 else  x, fun x => if x = 0 then 0 else if x = 1 then 1 else if x = 2 then 2 else if x = 3 then 3 else if x = 4 then 4 else if x = 5 then 5 else if x = 6 then 6 else if x = 7 then 7 else if x = 8 then 8 else if x = 9 then 9 else if x = 10 then 10 else if x = 11 then 11 else if x = 12 then 12 else if x = 13 then 13 else if x = 14 then 14 else if x = 15 then 15 else if x = 16 then 16 else if x = 17 then 17 else if x = 18 then 18 else if x = 19 then 19 else if x = 20 then 20 else if x = 21 then 21 else if x = 22 then 79 else if x = 23 then 79 else if x = 24 then 34 else if x = 25 then 107 else if x = 26 then 3 else if x = 27 then 108 else if x = 28 then 109 else if x = 29 then 110 else if x = 32 then 158 else if x = 33 then 85 else if x = 34 then 182 else if x = 35 then 183 else if x = 36 then 173 else if x = 37 then 174 else if x = 38 then 214 else if x = 39 then 195 else if x = 40 then 196 else if x = 41 then 215 else if x = 42 then 216 else if x = 43 then 157 else if x = 44 then 217 else if x = 45 then 200 else if x = 46 then 218 else if x = 47 then 202 else if x = 48 then 203 else if x = 49 then 204 else if x = 50 then 50 else if x = 51 then 228 else if x = 52 then 229 else if x = 53 then 230 else if x = 54 then 236 else if x = 55 then 232 else if x = 56 then 237 else if x = 57 then 240 else if x = 58 then 151 else if x = 59 then 243 else if x = 60 then 245 else if x = 61 then 246 else if x = 62 then 247 else if x = 63 then 248 else if x = 64 then 249 else if x = 65 then 250 else if x = 66 then 251 else if x = 67 then 252 else if x = 68 then 253 else if x = 69 then 254 else if x = 70 then 255 else if x = 71 then 256 else if x = 72 then 257 else if x = 73 then 258 else if x = 74 then 259 else if x = 75 then 260 else  x, fun x => x⟩
theorem laySortedI : SlLaysZI.n6 Tryz.prog renSortedI where
  mixed := by kernel_rfl
  f6 := ⟨Tryz.f39.name, by kernel_rfl, Tryz.func39.trans (by kernel_rfl)⟩
  f8 := ⟨Tryz.f83.name, by kernel_rfl, Tryz.func83.trans (by kernel_rfl)⟩
  f11 := ⟨Tryz.f111.name, by kernel_rfl, Tryz.func111.trans (by kernel_rfl)⟩
  t0 := by kernel_rfl
  a0 := fun _ => by kernel_rfl
  z0 := fun _ => by kernel_rfl
  v0 := fun _ => by kernel_rfl
  t24 := by kernel_rfl
  a24 := fun _ => by kernel_rfl
  z24 := fun _ => by kernel_rfl
  v24 := fun _ => by kernel_rfl
  t26 := by kernel_rfl
  a26 := fun _ => by kernel_rfl
  z26 := fun _ => by kernel_rfl
  v26 := fun _ => by kernel_rfl
  t28 := by kernel_rfl
  a28 := fun _ => by kernel_rfl
  z28 := fun _ => by kernel_rfl
  v28 := fun _ => by kernel_rfl
  i26 := by kernel_rfl

theorem sortsI (m : Nat) : AnyZI.SortsIn Tryz.prog renSortedI Fence.wide m :=
  ⟨fun blk off cap ss W hH hblk hsz => callsIn_wide.2 (AnyM.slices_Sort_int laySortI blk off cap ss W hH hblk hsz),
   fun p cap W => callsIn_wide.2 (AnyM.slices_Sort_int_none laySortI p cap W)⟩
theorem keysN_ (mb : Option Nat) (w : World) : Calls Tryz.prog 40 #[.map mb] w fun e w' => e = .returned (.func (.func 85) #[] #[.pointer (some ⟨w.heap.size, 0, none⟩)]) ∧ w' = w.alloc (.cells #[.map mb] 79) := by
  go_enter Tryz.func40, Tryz.ntmps40
  go_wp2
  go_ret
  exact ⟨rfl, rfl⟩
set_option maxHeartbeats 1000000 in
theorem keysN1_gives {w : World} {mb Bm n : Nat} {L : List (Int × Value)} (hk : KMap kInt.enc w mb L) {ty : TypeId} (hB : w.heap[Bm]? = some (.cells #[.map (some mb)] ty)) (hn : 1 ≤ n) :
    SeqGives Fence.wide n Tryz.prog 85 #[.pointer (some ⟨Bm, 0, none⟩)] encZ (fun ss => ss.Perm (L.map fun p => p.1)) L.length w := by
  intro l J W hW hJ hY h0
  have hkW := hk.below hW hk.lt
  have hm := (heap_cell ((hW.block _ (lt_of_heap hB)).trans hB)).1
  refine callsIn_of_wp Tryz.func85 rfl trivial ?_
  simp only [Tryz.ntmps85, List.size_toArray, List.length_cons, List.length_nil, Nat.reduceAdd, Nat.reduceSub, Array.replicate_succ, Array.replicate_zero, List.push_toArray, List.append_toArray, List.nil_append, List.cons_append]
  gi_wp2_with (gi_at_range; refine wpListIn_range_k _ _ _ _ rfl rfl Tryz.underlying79 _ rfl hkW ?_; intro o' hit0)
  go_frame
  gi_loopw [3] (fun _ wr => ∃ rem pre, MIter kInt.enc wr W.heap.size mb L rem ∧ (pre ++ rem.map (fun p => p.1)).Perm (L.map fun p => p.1) ∧ J pre wr)
    (fun _ wr => wr.rangeLeft mb W.heap.size)
  case atStart =>
    exact ⟨L, [], hit0, by simp, hJ [] W _ none h0 ⟨rfl, rfl, rfl, by simp, fun k hk _ => heap_alloc_old _ _ hk⟩ (fun r e => by cases e)⟩
  case round =>
    obtain ⟨rem, pre, hit, hperm, hJp⟩ := hrel
    gi_wp2_with (gi_at_next; refine wpListIn_next_k _ rfl rfl rfl hit ?_ ?_)
    · intro h0r
      subst h0r
      gi_wp2
      go_end0
      exact ⟨⟨_, rfl⟩, pre, by simpa using hperm, hJp⟩
    · intro pk pv hp w2 hit2 hc2 hz2 hen
      have hJ2 : J pre w2 := hJ pre wr w2 (some W.heap.size) hJp (grown_of_chg hc2) (fun r e => by cases e; exact ⟨Nat.le_refl _, hit.isWalk⟩)
      have hlen : pre.length < L.length := by
        have := hperm.length_eq
        simp only [List.length_append, List.length_map] at this
        have h1 := kdel_len hit.nodup hp
        omega
      obtain ⟨fn, tmps, assign, body, hy, hR⟩ := hY pre (pk) w2 hJ2 hlen
      change (Instr.yield l #[Value.int .i64 pk]).run Tryz.prog w2 = _ at hy
      change (Instr.entry (.pointer (some ⟨W.heap.size, 0, none⟩))).run Tryz.prog w2 = .ok (.tuple #[Value.int .i64 pk, pv]) w2 at hen
      try rw [show kInt.enc pk = Value.int .i64 pk from rfl]
      gi_wp2
      refine hR.mono ?_
      rintro e W3 ⟨rfl, hJ3, hk3⟩
      gi_wp2
      have hit3 := hit2.walks hk3
      go_roundw
      case rel =>
        refine ⟨kdel rem pk, pre ++ [pk], hit3, List.Perm.trans ?_ hperm, hJ3⟩
        rw [List.append_assoc]
        have hkd := ((kdel_perm hit.nodup hp).map (fun p => p.1)).symm
        exact List.Perm.append_left pre hkd
      case measure =>
        rw [hit3.left, hit.left]
        have h1 := kdel_len hit.nodup hp
        dsimp only at h1
        omega
set_option maxHeartbeats 1000000 in
theorem sortedN_ {w : World} {mb Bm : Nat} {L : List (Int × Value)} (hk : KMap kInt.enc w mb L) {ty : TypeId} (hB : w.heap[Bm]? = some (.cells #[.map (some mb)] ty)) (hmax : L.length ≤ 268435456) :
    Calls Tryz.prog 39 #[.func (.func 85) #[] #[.pointer (some ⟨Bm, 0, none⟩)]] w fun e w' => ∃ (v : Value) (ss : List Int), e = .returned v ∧ ss.Perm (L.map fun p => p.1) ∧
      w'.ownsRow w.heap.size 3 1 v ss.length ((ss.mergeSort (fun x y => decide (x ≤ y))).map encZ) ∧ (v = .slice none 0 0 ↔ ss = []) ∧ Below w.heap.size w w' := by
  refine (callsIn_wide (n := 5)).1 ?_
  exact AnyZI.sorted_in laySortedI Fence.wide 5 trivial trivial trivial trivial rfl (by omega) (sortsI _) (enters_of Tryz.func84 (by kernel_rfl) rfl) 85 #[.pointer (some ⟨Bm, 0, none⟩)] trivial (enters_of Tryz.func85 (by kernel_rfl) rfl) _ _ (by simp only [maxLen]; omega) (by omega) _ (keysN1_gives hk hB (by omega))
end Go.Proofs.YtooigfkjdemnlaaGreatDoor

namespace Go.Proofs.YtooigfkjdemnlaaGreatDoor
set_option maxRecDepth 100000
open Go.RowKit Go.Lib Go.Sort Go.Shelf Xw

def lftL (h : List HTx) (i : Nat) : List (Int × Value) := (comsOf h i).map fun (t : Nat) => ((t : Int), Value.int .i64 2)
theorem mem_comsOf_lt {h : List HTx} {n t : Nat} (ht : t ∈ comsOf h n) : t < n ∧ com h t = true := by
  unfold comsOf at ht
  rw [List.mem_filter, List.mem_range] at ht
  exact ht
theorem comsOf_nodup (h : List HTx) (n : Nat) : (comsOf h n).Nodup := List.Nodup.sublist List.filter_sublist List.nodup_range
theorem lftL_keys (h : List HTx) (i : Nat) : (lftL h i).map (·.1) = (comsOf h i).map fun (t : Nat) => (t : Int) := by
  unfold lftL
  rw [List.map_map]; rfl
theorem lftL_step {h : List HTx} {i : Nat} (hc : com h i = true) : kset (lftL h i) (i : Int) (.int .i64 2) = lftL h (i + 1) := by
  unfold kset
  rw [if_neg]
  · unfold lftL
    rw [comsOf_succ, if_pos hc, List.map_append]
    rfl
  · rw [lftL_keys]
    intro hm
    obtain ⟨t, ht, e⟩ := List.mem_map.1 hm
    have := (mem_comsOf_lt ht).1
    omega
theorem lftL_stay {h : List HTx} {i : Nat} (hc : com h i = false) : lftL h (i + 1) = lftL h i := by
  unfold lftL
  rw [comsOf_succ, if_neg (by rw [hc]; simp)]
theorem lftL_get (h : List HTx) (i : Nat) (x : Int) : kget (lftL h i) x = if 0 ≤ x ∧ x.toNat ∈ comsOf h i then some (.int .i64 2) else none := by
  induction i with
  | zero => simp [lftL, comsOf, kget]
  | succ i ih =>
    cases hc : com h i with
    | false =>
      have e : comsOf h (i + 1) = comsOf h i := by rw [comsOf_succ, if_neg (by rw [hc]; simp)]
      rw [lftL_stay hc, ih, e]
    | true =>
      rw [← lftL_step hc, kget_kset, ih, comsOf_succ, if_pos hc]
      by_cases hx : x = (i : Int)
      · subst hx
        simp
      · rw [if_neg hx]
        have : (0 ≤ x ∧ x.toNat ∈ comsOf h i ++ [i]) ↔ (0 ≤ x ∧ x.toNat ∈ comsOf h i) := by
          constructor
          · rintro ⟨h0, h1⟩
            rcases List.mem_append.1 h1 with h1 | h1
            · exact ⟨h0, h1⟩
            · simp at h1; omega
          · rintro ⟨h0, h1⟩
            exact ⟨h0, List.mem_append_left _ h1⟩
        by_cases h2 : 0 ≤ x ∧ x.toNat ∈ comsOf h i
        · rw [if_pos h2, if_pos (this.2 h2)]
        · rw [if_neg h2, if_neg (fun h => h2 (this.1 h))]
theorem mapN_start {w : World} {mb : Nat} {h : List HTx} (hk : KMap kInt.enc w mb (lftL h h.length)) : MapN kInt.enc w mb (leftI h []) := by
  refine ⟨_, hk, fun x => ?_⟩
  rw [lftL_get]
  unfold leftI leftP
  by_cases h0 : 0 ≤ x
  · rw [if_pos h0]
    by_cases hc : com h x.toNat = true
    · rw [if_pos ⟨h0, mem_comsOf.2 hc⟩, if_pos hc]; simp
    · rw [if_neg (fun h => hc (mem_comsOf.1 h.2)), if_neg hc]; rfl
  · rw [if_neg (fun h => h0 h.1), if_neg h0]; rfl
theorem coms_sorted {h : List HTx} {ss : List Int} (hp : ss.Perm ((lftL h h.length).map fun p => p.1)) : ∃ T : List Nat, T.Nodup ∧ (∀ t, t ∈ T ↔ com h t = true) ∧ T.length = ss.length ∧ T.length = (comsOf h h.length).length ∧ (ss.mergeSort (fun x y => decide (x ≤ y))).map encZ = T.map fun (t : Nat) => Value.int .i64 t := by
  have hp2 : (ss.mergeSort (fun x y => decide (x ≤ y))).Perm ((comsOf h h.length).map fun (t : Nat) => (t : Int)) := (List.mergeSort_perm _ _).trans (hp.trans (by rw [lftL_keys]))
  refine ⟨(ss.mergeSort (fun x y => decide (x ≤ y))).map Int.toNat, ?_, fun t => ?_, ?_, ?_, ?_⟩
  · have h1 := hp2.map Int.toNat
    rw [List.map_map] at h1
    have h2 : (comsOf h h.length).map (Int.toNat ∘ fun (t : Nat) => (t : Int)) = comsOf h h.length := by
      conv => rhs; rw [← List.map_id (comsOf h h.length)]
      apply List.map_congr_left
      intro a _; simp
    rw [h2] at h1
    exact h1.nodup_iff.2 (comsOf_nodup _ _)
  · rw [← mem_comsOf, List.mem_map]
    constructor
    · rintro ⟨x, hx, rfl⟩
      obtain ⟨a, ha, rfl⟩ := List.mem_map.1 (hp2.mem_iff.1 hx)
      simpa using ha
    · intro ht
      exact ⟨(t : Int), hp2.mem_iff.2 (List.mem_map.2 ⟨t, ht, rfl⟩), by simp⟩
  · simp
  · rw [List.length_map, hp2.length_eq, List.length_map]
  · rw [List.map_map]
    apply List.map_congr_left
    intro a ha
    obtain ⟨b, hb, rfl⟩ := List.mem_map.1 (hp2.mem_iff.1 ha)
    simp [encZ]
theorem sl_tight {w : World} {e : TypeId} {size n : Nat} {v : Value} {xs : List Value} {F : Nat → Prop} (h : Sl w e size v n xs F) : Sl w e size v n xs (fun j => F j ∧ j < w.heap.size) := by
  obtain ⟨h1, h2 | ⟨g, off, cap, cur, hv, hF, hb, h3⟩⟩ := h
  · exact ⟨h1, .inl h2⟩
  · exact ⟨h1, .inr ⟨g, off, cap, cur, hv, ⟨hF, lt_of_heap hb⟩, hb, h3⟩⟩
def SearchR (w : World) (ob : Nat) (e : Ending) (w' : World) : Prop :=
  e = .returned (.tuple #[]) ∧ Chg (fun j => j = ob) w w' ∧ ∃ A n c, w'.heap[ob]? = some (.cells #[.slice A n c] 44)
set_option maxHeartbeats 8000000 in
theorem search1_ {w : World} {lp ob : Nat} {h : List HTx} (hl : Led w w.heap.size lp h) (H : Fine h) (h4 : (comsOf h h.length).length ≤ 4) {L : List Pt} (M : Moments h L) (hLf : FitsN h L L.length) (hLr : RunOK h L) (hob : w.heap[ob]? = some (.cells #[.slice none 0 0] 44)) :
    Calls Tryz.prog 38 #[.pointer (some ⟨lp, 0, none⟩), .pointer (some ⟨ob, 0, none⟩)] w (SearchR w ob) := by
  have hmk : ∀ (t : TypeId) (w : World), (Instr.makeMap t none).run Tryz.prog w = .ok (.map (some w.heap.size)) (w.alloc (.map #[] 0)) := fun _ _ => rfl
  have hmf : ∀ (fn : Fn) (first cap : Array Value) (w : World), (Instr.makeFunc fn first cap).run Tryz.prog w = .ok (.func fn first cap) w := fun _ _ _ _ => rfl
  have hol := lt_of_heap hob
  have hn := H.n
  obtain ⟨tv, wv, ob0, kv, tyl, l1, l2, l3, l4, l5⟩ := hl.ex
  have hlp := hl.lt
  obtain ⟨TA, tc, rfl, ht1, ht2⟩ := Rows.shape l2
  simp only [maxLen] at ht2
  obtain ⟨W0, hW0⟩ : ∃ W0, W0 = ((w.alloc (.cells #[.pointer (some ⟨lp, 0, none⟩)] 78)).alloc (.map #[] 0)).alloc (.cells #[.map (some (w.heap.size + 1))] 79) := ⟨_, rfl⟩
  have hz0 : W0.heap.size = w.heap.size + 3 := by rw [hW0]; simp
  have hB0 : Below w.heap.size w W0 := by
    rw [hW0]
    exact (((Below.refl _ w).alloc (Nat.le_refl _) _).alloc (by simp) _).alloc (by simp; omega) _
  have c00 : W0.heap[w.heap.size]? = some (.cells #[.pointer (some ⟨lp, 0, none⟩)] 78) := by rw [hW0, heap_alloc_lt (by simp; omega), heap_alloc_lt (by simp)]; exact heap_alloc_new _ _
  have c30 : W0.heap[w.heap.size + 1 + 1]? = some (.cells #[.map (some (w.heap.size + 1))] 79) := by rw [hW0]; exact top_al _ _ (by simp)
  have hk0 : KMap kInt.enc W0 (w.heap.size + 1) (lftL h 0) := by
    have := KMap.made kInt.enc (w.alloc (.cells #[.pointer (some ⟨lp, 0, none⟩)] 78))
    rw [World.size_alloc] at this
    rw [hW0]
    exact this.keep (heap_alloc_lt (by simp))
  have HL := Lib.hid hl
  have HW0 := Lib.hid hW0
  have HM := Lib.hid (And.intro M (And.intro hLf hLr))
  have HOB := Lib.hid hob
  have HC0 := Lib.hid c00
  have HC3 := Lib.hid c30
  have HB0 := Lib.hid hB0
  have HK0 := Lib.hid hk0
  have HZ0 := Lib.hid hz0
  have q0 := (World.cell?_of_block (a := ⟨lp, 0, none⟩) (hB0.block lp hlp)).trans ((cells_of l1).1 0)
  have q00 := (cells_of (cs := [.pointer (some ⟨lp, 0, none⟩)]) c00).1 0
  have hlp0 : lp < W0.heap.size := by omega
  have hcl0 : w.heap.size < W0.heap.size := by omega
  have H4 := Lib.hid h4
  clear hl hW0 M hLf hLr hob c00 c30 hB0 hk0 hz0 l1 l2 l3 l4 l5 h4
  go_enter Tryz.func38, Tryz.ntmps38
  go_upto_region 2 with (fail)
  rw [← HW0.out]
  go_wp2
  go_loopw [15] (fun i' wr => ∃ i : Nat, i ≤ h.length ∧ i' = .int .i64 i ∧ KMap kInt.enc wr (w.heap.size + 1) (lftL h i) ∧ Chg (fun j => j = w.heap.size + 1) W0 wr) (fun i' _ => h.length - (intOf i').toNat)
  case atStart => exact ⟨0, by omega, rfl, HK0.out, Chg.refl _ _⟩
  case round =>
    obtain ⟨i, hi, rfl, hk, hc⟩ := hrel
    have hz := hc.size
    have hledr : Led wr w.heap.size lp h := HL.out.keep (fun j hj => (hc.block j (by omega) (by omega)).trans (HB0.out.block j hj)) (by omega)
    have r00 := (World.cell?_of_block (a := ⟨w.heap.size, 0, none⟩) (hc.block w.heap.size hcl0 (by omega))).trans q00
    have c3r := (hc.block (w.heap.size + 1 + 1) (by have := HZ0.out; omega) (by omega)).trans HC3.out
    have r3 := (cells_of (cs := [.map (some (w.heap.size + 1))]) c3r).1 0
    have s3 : w.heap.size + 1 + 1 < wr.heap.size := lt_of_heap c3r
    have s2 : w.heap.size + 1 < wr.heap.size := by omega
    have s1 : w.heap.size < wr.heap.size := by omega
    have HK := Lib.hid hk
    have HC := Lib.hid hc
    have HLR := Lib.hid hledr
    have HC3r := Lib.hid c3r
    by_cases hlt : i < h.length
    · obtain ⟨x, hx⟩ : ∃ x, h[i]? = some x := ⟨_, List.getElem?_eq_getElem hlt⟩
      have hcm := Lib.hid (committed_ hledr i x hx)
      have hti : (i : Int) < h.length := by omega
      clear hx hk hc hledr c3r hz
      cases hct : com h i with
      | false =>
        have HCT := Lib.hid hct
        clear hct
        go_wp2_with (go_at_call 20; refine hcm.out.mono ?_; rw [HCT.out]; rintro e w3 ⟨rfl, rfl⟩)
        exact ⟨⟨i + 1, by omega, by simp, by rw [lftL_stay HCT.out]; exact HK.out, HC.out⟩, by simp [intOf]; omega⟩
      | true =>
        have HCT := Lib.hid hct
        clear hct
        obtain ⟨w6, hrun6, hk6, hc6⟩ := run_store_kmap kInt Tryz.underlying79 HK.out i (.int .i64 2)
        change (Instr.mapUpdate 79 (.map (some (w.heap.size + 1))) (.int .i64 i) (.int .i64 2)).run Tryz.prog wr = .ok () w6 at hrun6
        have HK6 := Lib.hid (And.intro hk6 hc6)
        clear hk6 hc6
        go_wp2_with (go_at_call 20; refine hcm.out.mono ?_; rw [HCT.out]; rintro e w3 ⟨rfl, rfl⟩)
        exact ⟨⟨i + 1, by omega, by simp, by rw [← lftL_step HCT.out]; exact HK6.out.1, HC.out.trans HK6.out.2 (fun _ _ h => h)⟩, by simp [intOf]; omega⟩
    · obtain rfl : i = h.length := by omega
      have hll : (lftL h h.length).length = (comsOf h h.length).length := by unfold lftL; rw [List.length_map]
      have h4 := H4.out
      have hl4 : ((comsOf h h.length).length : Int) ≤ 4 := by omega
      clear hc hledr c3r hz
      go_upto_region 10 with (refine wpList_len_k _ _ _ _ _ rfl rfl rfl Tryz.underlying79 _ rfl HK.out ?_; rw [hll])
      have hsort := Lib.hid (sortedN_ (HK.out.keep (w' := wr.alloc (.cells #[.map (some (w.heap.size + 1))] 79)) (heap_alloc_lt s2)) (heap_alloc_new _ _) (by rw [hll]; omega))
      clear hk hll h4 hl4
      go_upto_region 14 with (first
        | (go_at_call 40; refine (keysN_ _ _).mono ?_; rintro e w2 ⟨rfl, rfl⟩)
        | (go_at_call 39; refine hsort.out.mono ?_
           rintro e w3 ⟨v3, ss, rfl, hperm, hown, hnil, hB3⟩
           obtain ⟨T, hT, hTc, hTs, hTl, hTm⟩ := coms_sorted hperm
           have hsl := sl_tight (sl_of_owns hown)
           rw [← hTs, hTm, World.size_alloc] at hsl
           obtain ⟨KA, kc, rfl, hkc1, hkc2⟩ := hsl.shape
           simp only [maxLen] at hkc1
           have HSS := Lib.hid (And.intro hT (And.intro hTc (And.intro hTl hsl)))
           have hB3' : Below (wr.heap.size + 1) (wr.alloc (.cells #[.map (some (w.heap.size + 1))] 79)) w3 := by rw [World.size_alloc] at hB3; exact hB3
           have HB3 := Lib.hid hB3'
           clear hperm hown hnil hsl hT hTc hTs hTl hTm hB3 hB3'))
      obtain ⟨W9, hW9⟩ : ∃ W9, W9 = (((w3.alloc (.cells #[.slice KA T.length kc] 34)).alloc (.cells #[.slice none 0 0] 44)).alloc (.cells #[.func (.func 41) #[] #[.pointer (some ⟨w.heap.size, 0, none⟩), .pointer (some ⟨w3.heap.size + 1, 0, none⟩), .pointer (some ⟨w3.heap.size, 0, none⟩), .pointer (some ⟨w.heap.size + 1 + 1, 0, none⟩), .pointer (some ⟨w3.heap.size + 1 + 1, 0, none⟩)]] 25)) := ⟨_, rfl⟩
      rw [← hW9]
      have hz9 : W9.heap.size = w3.heap.size + 3 := by rw [hW9]; simp
      have hz3 : wr.heap.size + 1 ≤ w3.heap.size := by have := HB3.out.size; rw [World.size_alloc] at this; exact this
      have hB9 : Below w3.heap.size w3 W9 := by
        rw [hW9]
        exact (((Below.refl _ w3).alloc (Nat.le_refl _) _).alloc (by simp) _).alloc (by simp; omega) _
      have kb : ∀ j, j < wr.heap.size → W9.heap[j]? = wr.heap[j]? := fun j hj => (hB9.block j (by omega)).trans ((HB3.out.block j (by omega)).trans (heap_alloc_lt hj))
      have e0 : W9.heap[w3.heap.size]? = some (.cells #[.slice KA T.length kc] 34) := by
        rw [hW9, heap_alloc_lt (by simp; omega), heap_alloc_lt (by simp)]; exact heap_alloc_new _ _
      have e1 : W9.heap[w3.heap.size + 1]? = some (.cells #[.slice none 0 0] 44) := by
        rw [hW9, heap_alloc_lt (by simp)]; exact top_al _ _ (by simp)
      have e2 : W9.heap[w3.heap.size + 1 + 1]? = some (.cells #[.func (.func 41) #[] #[.pointer (some ⟨w.heap.size, 0, none⟩), .pointer (some ⟨w3.heap.size + 1, 0, none⟩), .pointer (some ⟨w3.heap.size, 0, none⟩), .pointer (some ⟨w.heap.size + 1 + 1, 0, none⟩), .pointer (some ⟨w3.heap.size + 1 + 1, 0, none⟩)]] 25) := by
        rw [hW9]; exact top_al _ _ (by simp)
      obtain ⟨hT, hTc, hTl, hsl⟩ := HSS.out
      have hT4 : T.length ≤ 4 := by rw [hTl]; exact H4.out
      have hcl := HC.out
      have I9 : TryI W9 w.heap.size lp h ⟨w.heap.size, w3.heap.size + 1, w3.heap.size, w.heap.size + 1 + 1, w3.heap.size + 1 + 1, w.heap.size + 1⟩ T [] (fun _ => False) (fun j => wr.heap.size + 1 ≤ j ∧ j < w3.heap.size) := by
        refine ⟨HLR.out.keep (fun j hj => kb j (by omega)) (by omega), (kb _ s1).trans ((hcl.block _ hcl0 (by omega)).trans HC0.out), ⟨none, 0, [], e1, SamePts.refl [], Sl.nil _ _ _ _⟩, ⟨KA, kc, e0, hsl.chg (Chg.of_below hB9) (fun j hj h => by omega)⟩, (kb _ s3).trans HC3r.out, e2, mapN_start (HK.out.keep (kb _ s2)), ?_, fun j hj => ?_, fun _ f => f.elim⟩
        · unfold SqB.ok; dsimp only; omega
        · dsimp only; omega
      have htry := Lib.hid (try_ H hT hTc (moments_part H HM.out.1) (by rw [moments_len HM.out.1, hTl]) HM.out.2.1 HM.out.2.2 hT4 (2 * T.length) [] (fun _ => False) W9 I9 Part.nil (by simp))
      unfold SqB.caps at htry
      have y7 := (cells_of (cs := [.func (.func 41) #[] #[.pointer (some ⟨w.heap.size, 0, none⟩), .pointer (some ⟨w3.heap.size + 1, 0, none⟩), .pointer (some ⟨w3.heap.size, 0, none⟩), .pointer (some ⟨w.heap.size + 1 + 1, 0, none⟩), .pointer (some ⟨w3.heap.size + 1 + 1, 0, none⟩)]]) e2).1 0
      have s9 : w3.heap.size + 1 + 1 < W9.heap.size := by omega
      have hch9 : Chg (fun _ => False) w W9 := by
        have h1 : Chg (fun _ => False) w wr := ((Chg.of_below HB0.out).mono (G := fun _ => False) (fun j hj h => by omega)).trans hcl (fun j hj h => by omega)
        have h2 : Chg (fun _ => False) wr w3 := (((Chg.refl (fun _ => False) wr).alloc _)).trans (Chg.of_below HB3.out) (fun j hj h => by omega)
        exact (h1.trans h2 (fun j hj h => h.elim)).trans (Chg.of_below hB9) (fun j hj h => by have := h1.size; have := h2.size; omega)
      have HCH9 := Lib.hid hch9
      have HZ9 := Lib.hid (And.intro hz9 hz3)
      have ob9 := (hch9.block _ hol (fun h => h)).trans HOB.out
      have HOB9 := Lib.hid ob9
      clear hW9 hz9 hz3 hB9 kb e0 e1 e2 hT hTc hTl hsl hT4 hcl I9 hch9 ob9 r00 r3
      obtain ⟨nn, hnn⟩ : ∃ nn : Bool, nn = true := ⟨_, rfl⟩
      go_upto_region 16 with (first
        | (go_at_call 41; with_reducible refine htry.out.mono ?_
           rintro e w10 ⟨hc10, hA⟩
           obtain ⟨rfl, A10, n10, c10, h10⟩ : e = .returned (.bool true) ∧ ∃ A n c, w10.heap[w3.heap.size + 1]? = some (.cells #[.slice A n c] 44) := by
             rcases hA with hA | ⟨_, hA, _⟩
             · exact hA
             · exact absurd List.nil_prefix hA
           have HC10 := Lib.hid hc10
           clear hA hc10))
      have hz99 := HZ9.out
      have hnn2 : ¬ (ob = w3.heap.size + 1 ∨ ob = w.heap.size + 1 ∨ False) := by
        rintro (e | e | e)
        · omega
        · omega
        · exact e
      have ob10 : w10.heap[ob]? = some (.cells #[.slice none 0 0] 44) := (HC10.out.block ob (by omega) hnn2).trans HOB9.out
      have g0 := (cells_of (cs := [.slice none 0 0]) ob10).1 0
      have g1 := (cells_of (cs := [.slice none 0 0]) ob10).2 0
      have gl : ob < w10.heap.size := lt_of_heap ob10
      have g2 := (cells_of (cs := [.slice A10 n10 c10]) h10).1 0
      have g2l := lt_of_heap h10
      have HO10 := Lib.hid ob10
      clear ob10 h10
      go_wp2
      go_end0
      refine ⟨rfl, ?_, A10, n10, c10, by simpa using heap_setCell_same (i := 0) (v := .slice A10 n10 c10) HO10.out⟩
      refine (((HCH9.out.mono (G := fun j => j = ob) (fun j _ h => h.elim))).trans HC10.out (fun j hj h => ?_)).trans ((Chg.refl (fun j => j = ob) w10).setCell _ _ (fun _ => rfl)) (fun _ _ h => h)
      have := HZ9.out
      rcases h with e | e | e
      · omega
      · omega
      · exact e.elim
set_option maxHeartbeats 4000000 in
theorem search_ {w : World} {B : Nat} {h : List HTx} {tv : Value} (hh : HistV w B tv h) (hB : B ≤ w.heap.size) (hops : ∀ x ∈ h, x.ops.length ≤ 1048576) (hf0 : histFault h = none) (h4 : (comsOf h h.length).length ≤ 4) {L : List Pt} (M : Moments h L) (hLf : FitsN h L L.length) (hLr : RunOK h L) :
    Calls Tryz.prog 14 #[.agg #[tv]] w fun e w' => Below w.heap.size w w' ∧ ∃ A k c, e = .returned (.tuple #[.slice A k c, .int .i64 0]) := by
  obtain ⟨A, c, rfl, hn0, hm0⟩ := Rows.shape hh
  obtain ⟨W2, hW2⟩ : ∃ W2, W2 = (w.alloc (.cells #[.slice A h.length c] 28)).alloc (.cells #[.slice none 0 0] 44) := ⟨_, rfl⟩
  have hz2 : W2.heap.size = w.heap.size + 2 := by rw [hW2]; simp
  have hB2 : Below w.heap.size w W2 := by rw [hW2]; exact bel2 _ _ _
  have hob : W2.heap[w.heap.size + 1]? = some (.cells #[.slice none 0 0] 44) := by rw [hW2]; exact top_al _ _ (by simp)
  have hg := guarded_ (hh.keep (fun j hj => hB2.block j (by omega))) (show B ≤ W2.heap.size by omega) hops 38 #[.pointer (some ⟨w.heap.size + 1, 0, none⟩)] (enters_of Tryz.func38 (by kernel_rfl) rfl)
    (fun f w' => Below w.heap.size w w' ∧ f = none ∧ ∃ A k c, w'.heap[w.heap.size + 1]? = some (.cells #[.slice A k c] 44))
    (fun lp w1 hl hb hsz hf => by
      refine (search1_ hl (fine_of hf) h4 M hLf hLr ((hb.block (w.heap.size + 1) (by omega)).trans hob)).mono ?_
      rintro e w2 ⟨rfl, h2, h3⟩
      refine ⟨none, rfl, ⟨?_, rfl, h3⟩, h2.block _ hsz (by omega)⟩
      exact (hB2.trans (hb.mono (by omega))).trans (h2.below (fun j hj => by omega) (by have := hb.size; omega)))
    (fun f w2 w3 ⟨h1, h2, A', k', c', h3⟩ hc => ⟨h1.trans (hc.below (fun j hj => by omega) h1.size), h2, A', k', c', (hc.block _ (lt_of_heap h3) (by omega)).trans h3⟩)
    (fun f w3 hf hb => by rw [hf0] at hf; cases hf)
  have HG := Lib.hid hg
  have HW2 := Lib.hid hW2
  clear hg hW2 hh
  have hmf : ∀ (fn : Fn) (first cap : Array Value) (w : World), (Instr.makeFunc fn first cap).run Tryz.prog w = .ok (.func fn first cap) w := fun _ _ _ _ => rfl
  go_enter Tryz.func14, Tryz.ntmps14
  go_wp2_with (first
    | (with_reducible refine wp_region_free (by kernel_rfl) (fun _ _ => ?_))
    | (go_at_call 18; rw [← HW2.out]; refine HG.out.mono ?_
       rintro e w1 ⟨f, rfl, hb1, rfl, A', k', c', hv⟩
       rw [faultRes_eq]
       have q0 := (heap_cell hv).1
       have hol := lt_of_heap hv
       have HV := Lib.hid hb1
       clear hv hb1
       obtain ⟨E, hE⟩ : ∃ E, E = errOf none := ⟨_, rfl⟩
       obtain ⟨T, hT⟩ : ∃ T, T = txnOf none := ⟨_, rfl⟩
       obtain ⟨O, hO⟩ : ∃ O, O = opOf none := ⟨_, rfl⟩
       rw [← hT, ← hO, ← hE]
       have HE := Lib.hid hE
       clear hT hO hE))
  refine bodyPost_ret (results_tmp2 rfl _ _ _) rfl ?_
  refine ⟨(HV.out.alloc HV.out.size _).drew, A', k', c', ?_⟩
  simp
  exact HE.out
end Go.Proofs.YtooigfkjdemnlaaGreatDoor
