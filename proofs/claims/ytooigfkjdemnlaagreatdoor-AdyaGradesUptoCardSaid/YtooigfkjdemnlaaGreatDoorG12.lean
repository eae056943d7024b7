/- Own texts of this claim, joined in build order: F0, E2, E3, Br, E4, E5, C1, C0. -/
import Derived.Test.YtooigfkjdemnlaaGreatDoorG11
import Derived.Shelf.SlSortCmp.WholeK
import Derived.Laws.Strings
import Derived.Test.YtooigfkjdemnlaaGreatDoorG02
import Derived.Laws.StructEq
import Derived.Laws.IdiomCopy
set_option linter.all false
namespace Go.Proofs.YtooigfkjdemnlaaGreatDoor
set_option maxRecDepth 100000
open Go.RowKit Go.Lib Go.Sort Go.Shelf Xw
def renP : Ren := ⟨fun x => if x = 6 then 72 else if x = 14 then 107 else if x = 15 then 99 else if x = 20 then 137 else if x = 21 then 138 else if x = 22 then 139 else if x = 23 then 140 else if x = 24 then 141 else if x = 25 then 142 else if x = 26 then 143 else if x = 27 then 144 else if x = 28 then 132 else if x = 29 then 133 else if x = 46 then 171 else if x = 47 then 167 else if x = 48 then 168 else if x = 49 then 172 else if x = 50 then 173 else if x = 57 then 183 else  x, fun x => if x = 0 then 0 else if x = 3 then 3 else if x = 4 then 4 else if x = 5 then 5 else if x = 9 then 9 else if x = 22 then 44 else if x = 24 then 112 else if x = 25 then 150 else if x = 39 then 174 else if x = 45 then 195 else if x = 46 then 196 else if x = 50 then 200 else if x = 53 then 203 else if x = 55 then 50 else if x = 66 then 228 else if x = 70 then 232 else if x = 76 then 240 else if x = 77 then 151 else  x, fun x => x⟩
theorem layP : SlLaysF0.n6 Tryz.prog renP where
  mixed := by kernel_rfl
  f6 := ⟨Tryz.f72.name, by kernel_rfl, Tryz.func72.trans (by kernel_rfl)⟩
  f14 := ⟨Tryz.f107.name, by kernel_rfl, Tryz.func107.trans (by kernel_rfl)⟩
  f15 := Tryz.func99.trans (by kernel_rfl)
  f20 := ⟨Tryz.f137.name, by kernel_rfl, Tryz.func137.trans (by kernel_rfl)⟩
  f21 := ⟨Tryz.f138.name, by kernel_rfl, Tryz.func138.trans (by kernel_rfl)⟩
  f22 := ⟨Tryz.f139.name, by kernel_rfl, Tryz.func139.trans (by kernel_rfl)⟩
  f23 := ⟨Tryz.f140.name, by kernel_rfl, Tryz.func140.trans (by kernel_rfl)⟩
  f24 := ⟨Tryz.f141.name, by kernel_rfl, Tryz.func141.trans (by kernel_rfl)⟩
  f25 := ⟨Tryz.f142.name, by kernel_rfl, Tryz.func142.trans (by kernel_rfl)⟩
  f26 := ⟨Tryz.f143.name, by kernel_rfl, Tryz.func143.trans (by kernel_rfl)⟩
  f27 := ⟨Tryz.f144.name, by kernel_rfl, Tryz.func144.trans (by kernel_rfl)⟩
  f28 := Tryz.func132.trans (by kernel_rfl)
  f29 := Tryz.func133.trans (by kernel_rfl)
  f46 := ⟨Tryz.f171.name, by kernel_rfl, Tryz.func171.trans (by kernel_rfl)⟩
  f47 := Tryz.func167.trans (by kernel_rfl)
  f48 := Tryz.func168.trans (by kernel_rfl)
  f49 := ⟨Tryz.f172.name, by kernel_rfl, Tryz.func172.trans (by kernel_rfl)⟩
  f50 := ⟨Tryz.f173.name, by kernel_rfl, Tryz.func173.trans (by kernel_rfl)⟩
  f57 := ⟨Tryz.f183.name, by kernel_rfl, Tryz.func183.trans (by kernel_rfl)⟩
  t0 := by kernel_rfl
  a0 := fun _ => by kernel_rfl
  z0 := fun _ => by kernel_rfl
  v0 := fun _ => by kernel_rfl
  t3 := by kernel_rfl
  a3 := fun _ => by kernel_rfl
  z3 := fun _ => by kernel_rfl
  v3 := fun _ => by kernel_rfl
  t4 := by kernel_rfl
  a4 := fun _ => by kernel_rfl
  z4 := fun _ => by kernel_rfl
  v4 := fun _ => by kernel_rfl
  t5 := by kernel_rfl
  a5 := fun _ => by kernel_rfl
  z5 := fun _ => by kernel_rfl
  v5 := fun _ => by kernel_rfl
  t9 := by kernel_rfl
  a9 := fun _ => by kernel_rfl
  z9 := fun _ => by kernel_rfl
  v9 := fun _ => by kernel_rfl
  t22 := by kernel_rfl
  a22 := fun _ => by kernel_rfl
  z22 := fun _ => by kernel_rfl
  v22 := fun _ => by kernel_rfl
  t25 := by kernel_rfl
  a25 := fun _ => by kernel_rfl
  z25 := fun _ => by kernel_rfl
  v25 := fun _ => by kernel_rfl
  t39 := by kernel_rfl
  a39 := fun _ => by kernel_rfl
  z39 := fun _ => by kernel_rfl
  v39 := fun _ => by kernel_rfl
  t45 := by kernel_rfl
  a45 := fun _ => by kernel_rfl
  z45 := fun _ => by kernel_rfl
  v45 := fun _ => by kernel_rfl
  t46 := by kernel_rfl
  a46 := fun _ => by kernel_rfl
  z46 := fun _ => by kernel_rfl
  v46 := fun _ => by kernel_rfl
  t50 := by kernel_rfl
  a50 := fun _ => by kernel_rfl
  z50 := fun _ => by kernel_rfl
  v50 := fun _ => by kernel_rfl
  t53 := by kernel_rfl
  a53 := fun _ => by kernel_rfl
  z53 := fun _ => by kernel_rfl
  v53 := fun _ => by kernel_rfl
  t55 := by kernel_rfl
  a55 := fun _ => by kernel_rfl
  z55 := fun _ => by kernel_rfl
  v55 := fun _ => by kernel_rfl
  t66 := by kernel_rfl
  a66 := fun _ => by kernel_rfl
  z66 := fun _ => by kernel_rfl
  v66 := fun _ => by kernel_rfl
  t70 := by kernel_rfl
  a70 := fun _ => by kernel_rfl
  z70 := fun _ => by kernel_rfl
  v70 := fun _ => by kernel_rfl
  t76 := by kernel_rfl
  a76 := fun _ => by kernel_rfl
  z76 := fun _ => by kernel_rfl
  v76 := fun _ => by kernel_rfl
  t77 := by kernel_rfl
  a77 := fun _ => by kernel_rfl
  z77 := fun _ => by kernel_rfl
  v77 := fun _ => by kernel_rfl

end Go.Proofs.YtooigfkjdemnlaaGreatDoor

namespace Go.Proofs.YtooigfkjdemnlaaGreatDoor
set_option maxRecDepth 100000
open Go.RowKit Go.Lib Go.Sort Go.Shelf Xw
def renE : Ren := ⟨fun x => if x = 6 then 54 else if x = 14 then 98 else if x = 15 then 99 else if x = 20 then 124 else if x = 21 then 125 else if x = 22 then 126 else if x = 23 then 127 else if x = 24 then 128 else if x = 25 then 129 else if x = 26 then 130 else if x = 27 then 131 else if x = 28 then 132 else if x = 29 then 133 else if x = 46 then 166 else if x = 47 then 167 else if x = 48 then 168 else if x = 49 then 169 else if x = 50 then 170 else if x = 57 then 182 else  x, fun x => if x = 0 then 0 else if x = 3 then 3 else if x = 4 then 4 else if x = 5 then 5 else if x = 9 then 9 else if x = 22 then 61 else if x = 24 then 66 else if x = 25 then 134 else if x = 39 then 174 else if x = 45 then 195 else if x = 46 then 196 else if x = 50 then 200 else if x = 53 then 203 else if x = 55 then 50 else if x = 66 then 228 else if x = 70 then 232 else if x = 76 then 240 else if x = 77 then 151 else  x, fun x => x⟩
theorem layE : SlLaysF0.n6 Tryz.prog renE where
  mixed := by kernel_rfl
  f6 := ⟨Tryz.f54.name, by kernel_rfl, Tryz.func54.trans (by kernel_rfl)⟩
  f14 := ⟨Tryz.f98.name, by kernel_rfl, Tryz.func98.trans (by kernel_rfl)⟩
  f15 := Tryz.func99.trans (by kernel_rfl)
  f20 := ⟨Tryz.f124.name, by kernel_rfl, Tryz.func124.trans (by kernel_rfl)⟩
  f21 := ⟨Tryz.f125.name, by kernel_rfl, Tryz.func125.trans (by kernel_rfl)⟩
  f22 := ⟨Tryz.f126.name, by kernel_rfl, Tryz.func126.trans (by kernel_rfl)⟩
  f23 := ⟨Tryz.f127.name, by kernel_rfl, Tryz.func127.trans (by kernel_rfl)⟩
  f24 := ⟨Tryz.f128.name, by kernel_rfl, Tryz.func128.trans (by kernel_rfl)⟩
  f25 := ⟨Tryz.f129.name, by kernel_rfl, Tryz.func129.trans (by kernel_rfl)⟩
  f26 := ⟨Tryz.f130.name, by kernel_rfl, Tryz.func130.trans (by kernel_rfl)⟩
  f27 := ⟨Tryz.f131.name, by kernel_rfl, Tryz.func131.trans (by kernel_rfl)⟩
  f28 := Tryz.func132.trans (by kernel_rfl)
  f29 := Tryz.func133.trans (by kernel_rfl)
  f46 := ⟨Tryz.f166.name, by kernel_rfl, Tryz.func166.trans (by kernel_rfl)⟩
  f47 := Tryz.func167.trans (by kernel_rfl)
  f48 := Tryz.func168.trans (by kernel_rfl)
  f49 := ⟨Tryz.f169.name, by kernel_rfl, Tryz.func169.trans (by kernel_rfl)⟩
  f50 := ⟨Tryz.f170.name, by kernel_rfl, Tryz.func170.trans (by kernel_rfl)⟩
  f57 := ⟨Tryz.f182.name, by kernel_rfl, Tryz.func182.trans (by kernel_rfl)⟩
  t0 := by kernel_rfl
  a0 := fun _ => by kernel_rfl
  z0 := fun _ => by kernel_rfl
  v0 := fun _ => by kernel_rfl
  t3 := by kernel_rfl
  a3 := fun _ => by kernel_rfl
  z3 := fun _ => by kernel_rfl
  v3 := fun _ => by kernel_rfl
  t4 := by kernel_rfl
  a4 := fun _ => by kernel_rfl
  z4 := fun _ => by kernel_rfl
  v4 := fun _ => by kernel_rfl
  t5 := by kernel_rfl
  a5 := fun _ => by kernel_rfl
  z5 := fun _ => by kernel_rfl
  v5 := fun _ => by kernel_rfl
  t9 := by kernel_rfl
  a9 := fun _ => by kernel_rfl
  z9 := fun _ => by kernel_rfl
  v9 := fun _ => by kernel_rfl
  t22 := by kernel_rfl
  a22 := fun _ => by kernel_rfl
  z22 := fun _ => by kernel_rfl
  v22 := fun _ => by kernel_rfl
  t25 := by kernel_rfl
  a25 := fun _ => by kernel_rfl
  z25 := fun _ => by kernel_rfl
  v25 := fun _ => by kernel_rfl
  t39 := by kernel_rfl
  a39 := fun _ => by kernel_rfl
  z39 := fun _ => by kernel_rfl
  v39 := fun _ => by kernel_rfl
  t45 := by kernel_rfl
  a45 := fun _ => by kernel_rfl
  z45 := fun _ => by kernel_rfl
  v45 := fun _ => by kernel_rfl
  t46 := by kernel_rfl
  a46 := fun _ => by kernel_rfl
  z46 := fun _ => by kernel_rfl
  v46 := fun _ => by kernel_rfl
  t50 := by kernel_rfl
  a50 := fun _ => by kernel_rfl
  z50 := fun _ => by kernel_rfl
  v50 := fun _ => by kernel_rfl
  t53 := by kernel_rfl
  a53 := fun _ => by kernel_rfl
  z53 := fun _ => by kernel_rfl
  v53 := fun _ => by kernel_rfl
  t55 := by kernel_rfl
  a55 := fun _ => by kernel_rfl
  z55 := fun _ => by kernel_rfl
  v55 := fun _ => by kernel_rfl
  t66 := by kernel_rfl
  a66 := fun _ => by kernel_rfl
  z66 := fun _ => by kernel_rfl
  v66 := fun _ => by kernel_rfl
  t70 := by kernel_rfl
  a70 := fun _ => by kernel_rfl
  z70 := fun _ => by kernel_rfl
  v70 := fun _ => by kernel_rfl
  t76 := by kernel_rfl
  a76 := fun _ => by kernel_rfl
  z76 := fun _ => by kernel_rfl
  v76 := fun _ => by kernel_rfl
  t77 := by kernel_rfl
  a77 := fun _ => by kernel_rfl
  z77 := fun _ => by kernel_rfl
  v77 := fun _ => by kernel_rfl

end Go.Proofs.YtooigfkjdemnlaaGreatDoor

namespace Go.Proofs.YtooigfkjdemnlaaGreatDoor
set_option maxRecDepth 100000
open Go.RowKit Go.Lib Go.Sort Go.Shelf Xw
theorem bytes_ext {a b : ByteArray} (h : a.toList = b.toList) : a = b := by
  rw [ByteArray.toList_eq, ByteArray.toList_eq] at h
  cases a; cases b
  simpa using h
theorem klt_eq (a b : ByteArray) : klt a b = ltStr a.toList b.toList := by unfold klt ltStr; exact bytesLess_eq _ _
theorem klt_irrefl (a : ByteArray) : klt a a = false := by rw [klt_eq]; exact swo_ltStr.irrefl _
theorem klt_trans {a b c : ByteArray} (h1 : klt a b = true) (h2 : klt b c = true) : klt a c = true := by rw [klt_eq] at *; exact swo_ltStr.trans _ _ _ h1 h2
theorem klt_ntrans {a b c : ByteArray} (h1 : klt a b = false) (h2 : klt b c = false) : klt a c = false := by rw [klt_eq] at *; exact swo_ltStr.ntrans _ _ _ h1 h2
theorem klt_anti {a b : ByteArray} (h1 : klt a b = false) (h2 : klt b a = false) : a = b := by
  rw [klt_eq] at *
  have : a.toList = b.toList := by
    simp only [ltStr, decide_eq_false_iff_not, List.not_lt] at h1 h2
    exact List.le_antisymm h2 h1
  exact bytes_ext this
def edgeLt (a b : Edge) : Bool := decide (a.frm < b.frm ∨ a.frm = b.frm ∧ (a.to < b.to ∨ a.to = b.to ∧ (a.kind < b.kind ∨ a.kind = b.kind ∧ klt a.key b.key = true)))
theorem ltOf_edge (x y : Edge) : ltOf edgeCmp x y = edgeLt x y := by
  unfold ltOf edgeLt
  congr 1
  unfold edgeCmp orL orL orL orL orL cmpI cmpS
  apply propext
  cases h : klt x.key y.key
  · simp only [Bool.false_eq_true, if_false, and_false, or_false]
    repeat' split
    all_goals constructor
    all_goals intro h
    all_goals omega
  · simp only [if_true, and_true]
    repeat' split
    all_goals constructor
    all_goals intro h
    all_goals omega
theorem swo_edge : SWO edgeLt where
  irrefl x := by unfold edgeLt; simp [klt_irrefl]
  trans x y z h1 h2 := by
    unfold edgeLt at *
    simp only [decide_eq_true_eq] at *
    rcases h1 with h1 | ⟨h1, h1' | ⟨h1', h1'' | ⟨h1'', k1⟩⟩⟩ <;> rcases h2 with h2 | ⟨h2, h2' | ⟨h2', h2'' | ⟨h2'', k2⟩⟩⟩
    all_goals first
      | (left; omega)
      | (refine .inr ⟨by omega, .inl (by omega)⟩)
      | (refine .inr ⟨by omega, .inr ⟨by omega, .inl (by omega)⟩⟩)
      | (refine .inr ⟨by omega, .inr ⟨by omega, .inr ⟨by omega, klt_trans k1 k2⟩⟩⟩)
  ntrans x y z h1 h2 := by
    unfold edgeLt at *
    simp only [decide_eq_false_iff_not] at *
    intro h
    cases k1 : klt x.key y.key <;> cases k2 : klt y.key z.key <;> simp only [k1, k2] at h1 h2
    · rw [klt_ntrans k1 k2] at h; simp at h1 h2 h; omega
    all_goals (cases k3 : klt x.key z.key <;> simp only [k3] at h <;> simp at h1 h2 h <;> omega)
theorem edge_anti {x y : Edge} (h1 : edgeLt x y = false) (h2 : edgeLt y x = false) : x = y := by
  unfold edgeLt at *
  simp only [decide_eq_false_iff_not] at *
  have e1 : x.frm = y.frm := by omega
  have e2 : x.to = y.to := by omega
  have e3 : x.kind = y.kind := by omega
  have k1 : klt x.key y.key = false := by cases h : klt x.key y.key with | false => rfl | true => exact absurd (.inr ⟨e1, .inr ⟨e2, .inr ⟨e3, h⟩⟩⟩) h1
  have k2 : klt y.key x.key = false := by cases h : klt y.key x.key with | false => rfl | true => exact absurd (.inr ⟨e1.symm, .inr ⟨e2.symm, .inr ⟨e3.symm, h⟩⟩⟩) h2
  have e4 := klt_anti k1 k2
  cases x; cases y; simp_all

def edgeLe (a b : Edge) : Bool := !edgeLt b a
theorem edgeC_one : ∀ x : Edge, ∀ v ∈ edgeC x, v.oneCell' = true := by
  intro x v hv
  simp only [edgeC, List.mem_cons, List.not_mem_nil, or_false] at hv
  rcases hv with rfl | rfl | rfl | rfl <;> rfl
instance : Inhabited Edge := ⟨⟨0, 0, 0, ⟨#[]⟩⟩⟩
theorem ltOf_edgeCmp : ltOf edgeCmp = edgeLt := funext fun x => funext fun y => ltOf_edge x y
theorem edge_unique {d : Array Edge} {d' : Array Edge} (hp : PermIn 0 d.size d d') (hs : SortedIn edgeLt 0 d.size d') : d' = (d.toList.mergeSort edgeLe).toArray := by
  have := sorted_unique_holds (lt := edgeLt) swo_edge (fun x y h1 h2 => edge_anti h1 h2) d d' hp hs
  have e : d' = d'.toList.toArray := by simp
  rw [e, this]
  rfl
theorem sortEdges_ (blk off cap : Nat) (l : List Edge) (w : World) (hH : HoldsK edgeC 4 w blk off l.toArray) (hblk : blk < w.heap.size) (hsz : l.length < 4611686018427387904) :
    Calls Tryz.prog 54 #[.slice (some ⟨blk, off, none⟩) l.length cap, .func (.func 55) #[] #[]] w fun e w' => e = .returned (.tuple #[]) ∧ SWK edgeC 4 w blk off (l.mergeSort edgeLe).toArray w' := by
  have eg : ∀ args w, (callFunc 55 args).run Tryz.prog w = .ok (.enter 55 args) w := enters_of Tryz.func55 (by kernel_rfl) rfl
  have hcmp : CmpLays Tryz.prog 55 #[] edgeC 4 edgeCmp blk off l.toArray.size w := fun m os dk _ x y => by
    have := edgeCmp_ x y (sortWorldK edgeC 4 w blk off m dk os)
    simpa [edgeC] using this
  have h := AnyQ.slices_SortFunc layE 4 Tryz.isAgg66 Tryz.sizeOf66 edgeC (fun _ => rfl) edgeC_one edgeCmp (by rw [ltOf_edgeCmp]; exact swo_edge) 55 #[] blk off cap l.toArray w eg hcmp hH hblk (by simpa using hsz)
  rw [ltOf_edgeCmp] at h
  have hl : l.toArray.size = l.length := by simp
  refine (show Calls Tryz.prog 54 _ w _ by rw [← hl]; exact h).mono ?_
  rintro e w' ⟨he, d', n, os, hp, hs, hw⟩
  refine ⟨he, n, os, ?_⟩
  rw [hw, edge_unique hp hs]
end Go.Proofs.YtooigfkjdemnlaaGreatDoor

namespace Go.Proofs.YtooigfkjdemnlaaGreatDoor
open Go.RowKit Go.Lib Go.Sort Go.Shelf Xw
variable {α : Type} [Inhabited α] {enc : α → List Value} {size : Nat}
theorem flat_get (henc : ∀ x, (enc x).length = size) : ∀ (l : List α) (i m : Nat) (hi : i < l.length), m < size → (l.flatMap enc)[i * size + m]? = (enc l[i])[m]?
  | [], i, m, hi, _ => absurd hi (by simp)
  | a :: r, 0, m, hi, hm => by
    rw [List.flatMap_cons, List.getElem?_append_left (by rw [henc]; omega)]; simp
  | a :: r, i + 1, m, hi, hm => by
    rw [List.flatMap_cons, List.getElem?_append_right (by rw [henc, Nat.succ_mul]; omega), henc, show (i + 1) * size + m - size = i * size + m by rw [Nat.succ_mul]; omega]
    rw [flat_get henc r i m (by simpa using hi) hm]
    simp
theorem holdsK_of_sl (henc : ∀ x, (enc x).length = size) {w : World} {e : TypeId} {g off cap : Nat} {l : List α} {F : Nat → Prop}
    (h : Sl w e size (.slice (some ⟨g, off, none⟩) l.length cap) l.length (l.flatMap enc) F) : HoldsK enc size w g off l.toArray := by
  obtain ⟨hl, h | ⟨g', off', cap', cur, hv, hF, hb, h1, h2, h3, h4⟩⟩ := h
  · cases h.1
  · cases hv
    intro j hj
    rw [size_flatK] at hj
    have hj' : j < l.length * size := by simpa using hj
    have hs : 0 < size := by
      rcases Nat.eq_zero_or_pos size with h0 | h0
      · subst h0; simp at hj'
      · exact h0
    have hi : j / size < l.length := Nat.div_lt_of_lt_mul (by rw [Nat.mul_comm]; exact hj')
    have hm : j % size < size := Nat.mod_lt _ hs
    have hdm : j / size * size + j % size = j := by rw [Nat.mul_comm]; exact Nat.div_add_mod j size
    have hx := flat_get henc l (j / size) (j % size) hi hm
    rw [hdm] at hx
    rw [← h4, List.getElem?_take, if_pos hj', List.getElem?_drop] at hx
    have he : j % size < (enc l[j / size]).length := by rw [henc]; exact hm
    refine ⟨?_, by simp [World.frozen?, hb]⟩
    rw [cell_of_row w g (off + j) cur e (0, 0) hb, get_flatK _ _ _ _ hj]
    rw [← Array.getElem?_toList, hx, List.getElem?_eq_getElem he]
    congr 1
    have e1 : l.toArray[j / size]! = l[j / size] := by rw [bang_list]; simp [List.getD_eq_getElem?_getD, List.getElem?_eq_getElem hi]
    rw [e1]
    show _ = (enc l[j / size])[j % size]!
    rw [getElem!_pos (enc l[j / size]) (j % size) he]
theorem swk_heap {w w' : World} {g off : Nat} {dk : Array α} (S : SWK enc size w g off dk w') : w.heap.size ≤ w'.heap.size ∧ (∀ j, j < w.heap.size → j ≠ g → w'.heap[j]? = w.heap[j]?) ∧
    ∀ (cur : Array Value) (e : TypeId) (t : Nat × Nat), w.heap[g]? = some (.cells cur e t) → ∃ cur' : Array Value, cur'.size = cur.size ∧ w'.heap[g]? = some (.cells cur' e t) := by
  have hle := S.le
  obtain ⟨n, os, rfl⟩ := S
  refine ⟨hle, fun j hj hne => ?_, fun cur e t h => ?_⟩
  · unfold sortWorldK grow putRowK putRow mapBlock
    show (w.heap.modify g _ ++ os)[j]? = _
    rw [Array.getElem?_append_left (by simpa using hj), Array.getElem?_modify, if_neg (Ne.symm hne)]
  · have hg : g < w.heap.size := (Array.getElem?_eq_some_iff.1 h).1
    refine ⟨putCells id off (flatK enc size dk) cur, by simp [putCells], ?_⟩
    unfold sortWorldK grow putRowK putRow mapBlock
    show (w.heap.modify g _ ++ os)[g]? = _
    rw [Array.getElem?_append_left (by simpa using hg), Array.getElem?_modify, if_pos rfl, h]
    rfl
theorem sl_of_swk (henc : ∀ x, (enc x).length = size) {w w' : World} {e : TypeId} {g off cap : Nat} {l l' : List α} {F : Nat → Prop}
    (h : Sl w e size (.slice (some ⟨g, off, none⟩) l.length cap) l.length (l.flatMap enc) F) (S : SWK enc size w g off l'.toArray w') (hl : l'.length = l.length) : Sl w' e size (.slice (some ⟨g, off, none⟩) l'.length cap) l'.length (l'.flatMap enc) F := by
  have hH := holdsK_of_sl henc h
  have hlen : (l'.flatMap enc).length = l'.length * size := by
    clear h S hH hl
    induction l' with
    | nil => simp
    | cons a r ih => rw [List.flatMap_cons, List.length_append, ih, henc, List.length_cons, Nat.succ_mul]; omega
  obtain ⟨_, h | ⟨g', off', cap', cur, hv, hF, hb, h1, h2, h3, h4⟩⟩ := h
  · cases h.1
  · cases hv
    have hg : g < w.heap.size := (Array.getElem?_eq_some_iff.1 hb).1
    obtain ⟨_, _, hc⟩ := swk_heap S
    obtain ⟨cur', hcs, hb'⟩ := hc cur e (0, 0) hb
    have hH' := S.holds hg hH (by simpa using hl)
    refine ⟨hlen, .inr ⟨g, off, cap, cur', rfl, hF, hb', by omega, h2, by omega, ?_⟩⟩
    refine List.ext_getElem? fun j => ?_
    rcases Nat.lt_or_ge j (l'.length * size) with hj | hj
    · rw [List.getElem?_take, if_pos hj, List.getElem?_drop]
      have := (hH' j (by rw [size_flatK]; simpa using hj)).1
      rw [cell_of_row w' g (off + j) cur' e (0, 0) hb', get_flatK _ _ _ _ (by simpa using hj)] at this
      have hs : 0 < size := by
        rcases Nat.eq_zero_or_pos size with h0 | h0
        · subst h0; simp at hj
        · exact h0
      have hi : j / size < l'.length := Nat.div_lt_of_lt_mul (by rw [Nat.mul_comm]; exact hj)
      have hm : j % size < size := Nat.mod_lt _ hs
      have hdm : j / size * size + j % size = j := by rw [Nat.mul_comm]; exact Nat.div_add_mod j size
      have hx := flat_get henc l' (j / size) (j % size) hi hm
      rw [hdm] at hx
      have he : j % size < (enc l'[j / size]).length := by rw [henc]; exact hm
      rw [Array.getElem?_toList, this, hx, List.getElem?_eq_getElem he]
      have e1 : l'.toArray[j / size]! = l'[j / size] := by rw [bang_list]; simp [List.getD_eq_getElem?_getD, List.getElem?_eq_getElem hi]
      rw [e1]
      show some ((enc l'[j / size])[j % size]!) = _
      rw [getElem!_pos (enc l'[j / size]) (j % size) he]
    · rw [List.getElem?_eq_none (by rw [List.length_take]; omega), List.getElem?_eq_none (by rw [hlen]; exact hj)]
theorem swk_chg {w w' : World} {g off : Nat} {dk : Array α} (S : SWK enc size w g off dk w') : Chg (fun j => j = g) w w' := by
  obtain ⟨h1, h2, _⟩ := swk_heap S
  obtain ⟨n, os, rfl⟩ := S
  exact ⟨rfl, rfl, rfl, h1, fun j hj hn => h2 j hj hn⟩
theorem sortVers_ (g off cap : Nat) (l : List Inst) (F : Nat → Prop) (w : World) (h : Sl w 125 3 (.slice (some ⟨g, off, none⟩) l.length cap) l.length (l.flatMap instC) F) (hg : g < w.heap.size) (hn : (l.map (·.txn)).Nodup) (hsz : l.length < 1152921504606846976) :
    Calls Tryz.prog 86 #[.slice (some ⟨g, off, none⟩) l.length cap, .func (.func 87) #[] #[]] w fun e w' => e = .returned (.tuple #[]) ∧ Sl w' 125 3 (.slice (some ⟨g, off, none⟩) l.length cap) l.length ((l.mergeSort instLe).flatMap instC) F ∧ Chg (fun j => j = g) w w' := by
  refine (sortStable_ g off cap l w (holdsK_of_sl (enc := instC) (size := 3) (fun _ => rfl) h) hg hn hsz).mono ?_
  rintro e w' ⟨he, S⟩
  have hl : (l.mergeSort instLe).length = l.length := List.length_mergeSort l
  have := sl_of_swk (enc := instC) (size := 3) (fun _ => rfl) h S hl
  rw [hl] at this
  exact ⟨he, this, swk_chg S⟩
theorem sortEdgeList_ (g off cap : Nat) (l : List Edge) (F : Nat → Prop) (w : World) (h : Sl w 66 4 (.slice (some ⟨g, off, none⟩) l.length cap) l.length (l.flatMap edgeC) F) (hg : g < w.heap.size) (hsz : l.length < 4611686018427387904) :
    Calls Tryz.prog 54 #[.slice (some ⟨g, off, none⟩) l.length cap, .func (.func 55) #[] #[]] w fun e w' => e = .returned (.tuple #[]) ∧ Sl w' 66 4 (.slice (some ⟨g, off, none⟩) l.length cap) l.length ((l.mergeSort edgeLe).flatMap edgeC) F ∧ Chg (fun j => j = g) w w' := by
  refine (sortEdges_ g off cap l w (holdsK_of_sl (enc := edgeC) (size := 4) (fun _ => rfl) h) hg hsz).mono ?_
  rintro e w' ⟨he, S⟩
  have hl : (l.mergeSort edgeLe).length = l.length := List.length_mergeSort l
  have := sl_of_swk (enc := edgeC) (size := 4) (fun _ => rfl) h S hl
  rw [hl] at this
  exact ⟨he, this, swk_chg S⟩
end Go.Proofs.YtooigfkjdemnlaaGreatDoor

namespace Go.Proofs.YtooigfkjdemnlaaGreatDoor
set_option maxRecDepth 100000
open Go.RowKit Go.Lib Go.Sort Go.Shelf Xw
def flowK (k : Int) : Bool := decide (k = 1 ∨ k = 2 ∨ k = 3)
def antiK (k : Int) : Bool := decide (k = 4 ∨ k = 5)
def writeK (k : Int) : Bool := decide (k = 1)
def itemK (k : Int) : Bool := decide (k = 4)
theorem isAny_ (e : Edge) (w : World) : Calls Tryz.prog 70 #[.agg #[.int .i64 e.frm, .int .i64 e.to, .int .i64 e.kind, .string e.key]] w fun x w' => x = .returned (.bool true) ∧ Below w.heap.size w w' := by
  go_enter Tryz.func70, Tryz.ntmps70
  go_wp2
  go_ret
  exact ⟨ret_bool rfl, by first | exact Below.refl _ _ | exact bel1 w _⟩
set_option maxHeartbeats 1000000 in
theorem isFlow_ (e : Edge) (w : World) : Calls Tryz.prog 64 #[.agg #[.int .i64 e.frm, .int .i64 e.to, .int .i64 e.kind, .string e.key]] w fun x w' => x = .returned (.bool (flowK e.kind)) ∧ Below w.heap.size w w' := by
  have hc := (cells_of (heap_alloc_new w (.cells #[.int .i64 e.frm, .int .i64 e.to, .int .i64 e.kind, .string e.key] 66))).1 2
  obtain ⟨k, hk⟩ : ∃ k, e.kind = k := ⟨_, rfl⟩
  rw [hk] at hc ⊢
  clear hk
  by_cases h1 : k = 1
  · have hb1 : (k == 1) = true := by simp [h1]
    have HD : Hid ((flowK k) = true) := Lib.hid (by unfold flowK; simp [h1])
    clear h1
    go_enter Tryz.func64, Tryz.ntmps64
    go_wp2
    go_ret
    exact ⟨ret_bool (by rw [HD.out]), bel1 w _⟩
  have hb1 : (k == 1) = false := by simp [h1]
  by_cases h2 : k = 2
  · have hb2 : (k == 2) = true := by simp [h2]
    have HD : Hid ((flowK k) = true) := Lib.hid (by unfold flowK; simp [h2])
    clear h2
    go_enter Tryz.func64, Tryz.ntmps64
    go_wp2
    go_ret
    exact ⟨ret_bool (by rw [HD.out]), bel1 w _⟩
  have hb2 : (k == 2) = false := by simp [h2]
  by_cases h3 : k = 3
  · have hb3 : (k == 3) = true := by simp [h3]
    have HD : Hid ((flowK k) = true) := Lib.hid (by unfold flowK; simp [h3])
    clear h3
    go_enter Tryz.func64, Tryz.ntmps64
    go_wp2
    go_ret
    exact ⟨ret_bool (by rw [HD.out]), bel1 w _⟩
  have hb3 : (k == 3) = false := by simp [h3]
  have HD : Hid ((flowK k) = false) := Lib.hid (by unfold flowK; simp [h1, h2, h3])
  clear h1 h2 h3
  go_enter Tryz.func64, Tryz.ntmps64
  go_wp2
  go_ret
  exact ⟨ret_bool (by rw [HD.out]), bel1 w _⟩
set_option maxHeartbeats 1000000 in
theorem isAnti_ (e : Edge) (w : World) : Calls Tryz.prog 67 #[.agg #[.int .i64 e.frm, .int .i64 e.to, .int .i64 e.kind, .string e.key]] w fun x w' => x = .returned (.bool (antiK e.kind)) ∧ Below w.heap.size w w' := by
  have hc := (cells_of (heap_alloc_new w (.cells #[.int .i64 e.frm, .int .i64 e.to, .int .i64 e.kind, .string e.key] 66))).1 2
  obtain ⟨k, hk⟩ : ∃ k, e.kind = k := ⟨_, rfl⟩
  rw [hk] at hc ⊢
  clear hk
  by_cases h4 : k = 4
  · have hb4 : (k == 4) = true := by simp [h4]
    have HD : Hid ((antiK k) = true) := Lib.hid (by unfold antiK; simp [h4])
    clear h4
    go_enter Tryz.func67, Tryz.ntmps67
    go_wp2
    go_ret
    exact ⟨ret_bool (by rw [HD.out]), bel1 w _⟩
  have hb4 : (k == 4) = false := by simp [h4]
  by_cases h5 : k = 5
  · have hb5 : (k == 5) = true := by simp [h5]
    have HD : Hid ((antiK k) = true) := Lib.hid (by unfold antiK; simp [h5])
    clear h5
    go_enter Tryz.func67, Tryz.ntmps67
    go_wp2
    go_ret
    exact ⟨ret_bool (by rw [HD.out]), bel1 w _⟩
  have hb5 : (k == 5) = false := by simp [h5]
  have HD : Hid ((antiK k) = false) := Lib.hid (by unfold antiK; simp [h4, h5])
  clear h4 h5
  go_enter Tryz.func67, Tryz.ntmps67
  go_wp2
  go_ret
  exact ⟨ret_bool (by rw [HD.out]), bel1 w _⟩
set_option maxHeartbeats 1000000 in
theorem isWrite_ (e : Edge) (w : World) : Calls Tryz.prog 60 #[.agg #[.int .i64 e.frm, .int .i64 e.to, .int .i64 e.kind, .string e.key]] w fun x w' => x = .returned (.bool (writeK e.kind)) ∧ Below w.heap.size w w' := by
  have hc := (cells_of (heap_alloc_new w (.cells #[.int .i64 e.frm, .int .i64 e.to, .int .i64 e.kind, .string e.key] 66))).1 2
  obtain ⟨k, hk⟩ : ∃ k, e.kind = k := ⟨_, rfl⟩
  rw [hk] at hc ⊢
  clear hk
  by_cases h1 : k = 1
  · have hb1 : (k == 1) = true := by simp [h1]
    have HD : Hid ((writeK k) = true) := Lib.hid (by unfold writeK; simp [h1])
    clear h1
    go_enter Tryz.func60, Tryz.ntmps60
    go_wp2
    go_ret
    exact ⟨ret_bool (by rw [HD.out]), bel1 w _⟩
  have hb1 : (k == 1) = false := by simp [h1]
  have HD : Hid ((writeK k) = false) := Lib.hid (by unfold writeK; simp [h1])
  clear h1
  go_enter Tryz.func60, Tryz.ntmps60
  go_wp2
  go_ret
  exact ⟨ret_bool (by rw [HD.out]), bel1 w _⟩
set_option maxHeartbeats 1000000 in
theorem isItem_ (e : Edge) (w : World) : Calls Tryz.prog 69 #[.agg #[.int .i64 e.frm, .int .i64 e.to, .int .i64 e.kind, .string e.key]] w fun x w' => x = .returned (.bool (itemK e.kind)) ∧ Below w.heap.size w w' := by
  have hc := (cells_of (heap_alloc_new w (.cells #[.int .i64 e.frm, .int .i64 e.to, .int .i64 e.kind, .string e.key] 66))).1 2
  obtain ⟨k, hk⟩ : ∃ k, e.kind = k := ⟨_, rfl⟩
  rw [hk] at hc ⊢
  clear hk
  by_cases h4 : k = 4
  · have hb4 : (k == 4) = true := by simp [h4]
    have HD : Hid ((itemK k) = true) := Lib.hid (by unfold itemK; simp [h4])
    clear h4
    go_enter Tryz.func69, Tryz.ntmps69
    go_wp2
    go_ret
    exact ⟨ret_bool (by rw [HD.out]), bel1 w _⟩
  have hb4 : (k == 4) = false := by simp [h4]
  have HD : Hid ((itemK k) = false) := Lib.hid (by unfold itemK; simp [h4])
  clear h4
  go_enter Tryz.func69, Tryz.ntmps69
  go_wp2
  go_ret
  exact ⟨ret_bool (by rw [HD.out]), bel1 w _⟩
end Go.Proofs.YtooigfkjdemnlaaGreatDoor

namespace Go.Proofs.YtooigfkjdemnlaaGreatDoor
set_option maxRecDepth 100000
open Go.RowKit Go.Lib Go.Sort Go.Shelf Xw
theorem edge_info : (Tryz.prog.info? 66).map (fun i => (i.zero.map (·.cells.size), i.size, i.bytes)) = some (some 4, 4, 40) := by kernel_rfl
theorem info_edge : ∃ i z, Tryz.prog.info? 66 = some i ∧ i.zero = some z ∧ i.size = 4 ∧ i.bytes = 40 ∧ z.cells.size = 4 := by
  have h := edge_info
  cases hi : Tryz.prog.info? 66 with
  | none => rw [hi] at h; cases h
  | some i =>
    rw [hi] at h
    simp only [Option.map_some, Option.some.injEq, Prod.mk.injEq] at h
    obtain ⟨h1, h2, h3⟩ := h
    cases hz : i.zero with
    | none => rw [hz] at h1; cases h1
    | some z => rw [hz] at h1; exact ⟨i, z, rfl, hz, h2, h3, by simpa using h1⟩
theorem reads_new4 (w : World) (a b c d : Value) (e : TypeId) : Reads (w.alloc (.cells #[a, b, c, d] e)) (w.heap.size + 1) 4 (some ⟨w.heap.size, 0, none⟩) 1 [a, b, c, d] := by
  refine ⟨rfl, fun _ => ⟨_, rfl, Nat.lt_succ_self _, fun j x hj => ?_⟩⟩
  have e1 : (⟨w.heap.size, 0, none⟩ : Addr).add j = ⟨w.heap.size, j, none⟩ := by unfold Addr.add; split <;> simp_all
  rw [e1, cell_of_row _ _ _ _ _ _ (heap_alloc_new w _)]
  simpa using hj
set_option maxHeartbeats 4000000 in
theorem add_ {w : World} {gb : Nat} {a0 a2 ev : Value} {ty : TypeId} {l : List Edge} {F : Nat → Prop} (f t k : Int) (s : ByteArray) (hg : w.heap[gb]? = some (.cells #[a0, ev, a2] ty))
    (hs : Sl w 66 4 ev l.length (l.flatMap edgeC) F) (hd : ∀ j, F j → j ≠ gb) (hb : l.length < 68719476736) :
    Calls Tryz.prog 50 #[.pointer (some ⟨gb, 0, none⟩), .int .i64 f, .int .i64 t, .int .i64 k, .string s] w fun x w' => x = .returned (.tuple #[]) ∧ ∃ ev' F', w'.heap[gb]? = some (.cells #[a0, ev', a2] ty) ∧
      Sl w' 66 4 ev' (addE l f t k s).length ((addE l f t k s).flatMap edgeC) F' ∧ Chg (fun j => F j ∨ j = gb) w w' ∧ From F w w' F' := by
  obtain ⟨i0, z0, j0, j1, j2, j3, j4⟩ := info_edge
  obtain ⟨A, c, rfl, hc1, hc2⟩ := hs.shape
  by_cases hft : f = t
  · have hb0 : (f != t) = false := by simp [hft]
    have HA : Hid (addE l f t k s = l) := Lib.hid (by unfold addE; rw [if_pos hft])
    clear hft
    have HG := Lib.hid hg
    clear hg j1 j2 j3 j4 j0
    go_enter Tryz.func50, Tryz.ntmps50
    go_wp2
    go_end0
    rw [HA.out]
    exact ⟨rfl, _, F, HG.out, hs, Chg.refl _ _, From.refl _ _ _⟩
  · have hb0 : (f != t) = true := by simp [hft]
    have HA : Hid (addE l f t k s = l ++ [⟨f, t, k, s⟩]) := Lib.hid (by unfold addE; rw [if_neg hft])
    clear hft
    obtain ⟨q0, qf⟩ := cells_of (cs := [a0, .slice A l.length c, a2]) hg
    have q1 := q0 1
    have qf1 := qf 1
    have hgl : gb < w.heap.size := (Array.getElem?_eq_some_iff.1 hg).1
    go_enter Tryz.func50, Tryz.ntmps50
    go_wp2_with (at_builtin; go_loud (first
      | (refine wpList_append_sl _ rfl (.tmp 17) (.tmp 23) 61 rfl 66 i0 z0 4 40 Tryz.underlying61 j0 j1 j2 j3 j4 (by omega) _ _ _ _ rfl (hs.chg ((Chg.refl (fun _ => False) _).alloc _) (fun _ _ f => f)) _ _ 1 1 [.int .i64 f, .int .i64 t, .int .i64 k, .string s] rfl (reads_new4 _ _ _ _ _ _) (by intro u hu; simp at hu; rcases hu with rfl | rfl | rfl | rfl <;> rfl) (by simp only [maxLen]; omega) (by omega) ?_; intro v2 w4 F4 hs4 hc4 hf4 hnz4; have hg4 : w4.heap[gb]? = some (.cells #[a0, .slice A l.length c, a2] ty) := (hc4.block gb (by simp; omega) (fun h => hd _ h rfl)).trans ((heap_alloc_lt hgl).trans hg); obtain ⟨A4, c4, rfl, hc4m, hc4n⟩ := hs4.shape; obtain ⟨p0, pf⟩ := cells_of (cs := [a0, .slice A l.length c, a2]) hg4; have p1 := p0 1; have pf1 := pf 1)))
    go_end0
    have hal : Chg (fun _ => False) w (w.alloc (.cells #[.int .i64 f, .int .i64 t, .int .i64 k, .string s] 66)) := (Chg.refl (fun _ => False) _).alloc _
    have hz : (w.alloc (.cells #[.int .i64 f, .int .i64 t, .int .i64 k, .string s] 66)).heap.size = w.heap.size + 1 := by simp
    have hF4 : ∀ j, F4 j → F j ∨ (w.heap.size ≤ j ∧ j < w4.heap.size) := fun j hj => by
      rcases hf4 j hj with h | ⟨h, h'⟩
      · exact .inl h
      · exact .inr ⟨by omega, h'⟩
    have hset : Chg (fun j => j = gb) w4 (w4.setCell ⟨gb, 1, none⟩ (.slice A4 (l.length + 1) c4)) := (Chg.refl _ _).setCell _ _ (fun _ => rfl)
    refine ⟨rfl, _, F4, heap_setCell_same hg4, ?_, ?_, ?_⟩
    · rw [HA.out, List.flatMap_append, List.length_append]
      have := hs4.chg hset (fun j hj e => by
        rcases hF4 j hj with h | h
        · exact hd j h e
        · omega)
      simpa [edgeC] using this
    · exact ((hal.mono (G := fun j => F j ∨ j = gb) (fun _ _ h => h.elim)).trans hc4 (fun _ _ h => .inl h)).trans hset (fun _ _ h => .inr h)
    · intro j hj
      rcases hF4 j hj with h | ⟨h, h'⟩
      · exact .inl h
      · exact .inr ⟨h, by simpa using h'⟩
end Go.Proofs.YtooigfkjdemnlaaGreatDoor

namespace Go.Proofs.YtooigfkjdemnlaaGreatDoor
set_option maxRecDepth 100000
open Go.RowKit Go.Lib Go.Sort Go.Shelf Xw
instance : DecidableEq Edge := fun a b => by
  cases a; cases b
  simp only [Edge.mk.injEq]
  infer_instance
theorem edge_eq_dec (a b : Edge) : decide (a = b) = ((a.frm == b.frm) && ((a.to == b.to) && ((a.kind == b.kind) && (a.key.toList == b.key.toList)))) := by
  have hk : (a.key.toList == b.key.toList) = decide (a.key = b.key) := by rw [← beq_toListBytes, bytes_beq]
  rw [hk]
  cases a; cases b
  simp only [Edge.mk.injEq, Bool.decide_and]
  rfl
theorem run_equalE (a b : Edge) (w : World) : (Op.equalIn 10000 66 (.agg #[.int .i64 a.frm, .int .i64 a.to, .int .i64 a.kind, .string a.key]) (.agg #[.int .i64 b.frm, .int .i64 b.to, .int .i64 b.kind, .string b.key])).run Tryz.prog w = .ok (decide (a = b)) w := by
  rw [edge_eq_dec]
  go_simp
  by_cases h1 : a.frm = b.frm <;> by_cases h2 : a.to = b.to <;> by_cases h3 : a.kind = b.kind <;> by_cases h4 : a.key.toList = b.key.toList <;> simp [h1, h2, h3, h4]
theorem run_eqlE (a b : Edge) (w : World) : (binOp .eql 66 (.agg #[.int .i64 a.frm, .int .i64 a.to, .int .i64 a.kind, .string a.key]) (.agg #[.int .i64 b.frm, .int .i64 b.to, .int .i64 b.kind, .string b.key])).run Tryz.prog w = .ok (.bool (decide (a = b))) w := by
  rw [run_eql_struct, run_equalE]; rfl
theorem run_neqE (a b : Edge) (w : World) : (binOp .neq 66 (.agg #[.int .i64 a.frm, .int .i64 a.to, .int .i64 a.kind, .string a.key]) (.agg #[.int .i64 b.frm, .int .i64 b.to, .int .i64 b.kind, .string b.key])).run Tryz.prog w = .ok (.bool (!decide (a = b))) w := by
  rw [run_neq_struct, run_equalE]; rfl
def dedup : List Edge → List Edge
  | [] => []
  | [a] => [a]
  | a :: b :: r => if a = b then dedup (b :: r) else a :: dedup (b :: r)
theorem dedup_snoc (x y : Edge) : ∀ l : List Edge, dedup (l ++ [x, y]) = if x = y then dedup (l ++ [x]) else dedup (l ++ [x]) ++ [y]
  | [] => by
    simp only [List.nil_append, dedup]
    split
    · rename_i h; subst h; rfl
    · rfl
  | [a] => by
    simp only [List.cons_append, List.nil_append, dedup]
    by_cases h1 : a = x <;> by_cases h2 : x = y <;> simp [h1, h2]
  | a :: b :: r => by
    have := dedup_snoc x y (b :: r)
    simp only [List.cons_append] at this ⊢
    simp only [dedup, this]
    by_cases h1 : a = b <;> by_cases h2 : x = y <;> simp [h1, h2]
theorem dedup_step {l : List Edge} {p : Nat} {x y : Edge} (hx : l[p]? = some x) (hy : l[p + 1]? = some y) : dedup (l.take (p + 2)) = if x = y then dedup (l.take (p + 1)) else dedup (l.take (p + 1)) ++ [y] := by
  have h1 : l.take (p + 1) = l.take p ++ [x] := by rw [List.take_add_one, hx]; rfl
  have h2 : l.take (p + 2) = l.take p ++ [x, y] := by rw [show p + 2 = (p + 1) + 1 by omega, List.take_add_one, hy, h1]; simp
  rw [h1, h2]
  exact dedup_snoc x y _
theorem dedup_len : ∀ l : List Edge, (dedup l).length ≤ l.length
  | [] => by simp [dedup]
  | [a] => by simp [dedup]
  | a :: b :: r => by
    have := dedup_len (b :: r)
    simp only [dedup]
    split
    · simp only [List.length_cons] at this ⊢; omega
    · simp only [List.length_cons] at this ⊢; omega
section
variable {α : Type} {enc : α → List Value} {size : Nat}
theorem flat_len (henc : ∀ x, (enc x).length = size) : ∀ l : List α, (l.flatMap enc).length = l.length * size
  | [] => by simp
  | a :: r => by rw [List.flatMap_cons, List.length_append, henc, flat_len henc r, List.length_cons, Nat.succ_mul]; omega
theorem flat_set (henc : ∀ x, (enc x).length = size) (x : α) : ∀ (l : List α) (i : Nat), i < l.length → (l.set i x).flatMap enc = (l.flatMap enc).take (i * size) ++ enc x ++ (l.flatMap enc).drop (i * size + size)
  | [], i, h => absurd h (by simp)
  | a :: r, 0, h => by
    have : (a :: r).flatMap enc = enc a ++ r.flatMap enc := by simp
    rw [this]
    simp only [List.set_cons_zero, List.flatMap_cons, Nat.zero_mul, List.take_zero, List.nil_append, Nat.zero_add]
    rw [List.drop_append_of_le_length (by rw [henc]; omega), ← henc a, List.drop_length, List.nil_append]
  | a :: r, i + 1, h => by
    have hr := flat_set henc x r i (by simpa using h)
    simp only [List.set_cons_succ, List.flatMap_cons, hr]
    have t1 : ∀ R : List Value, (enc a ++ R).take ((i + 1) * size) = enc a ++ R.take (i * size) := fun R => by
      rw [List.take_append, List.take_of_length_le (l := enc a) (by rw [henc, Nat.succ_mul]; omega), henc, Nat.succ_mul]
      congr 2
      omega
    have t2 : ∀ R : List Value, (enc a ++ R).drop ((i + 1) * size + size) = R.drop (i * size + size) := fun R => by
      rw [List.drop_append, List.drop_of_length_le (l := enc a) (by rw [henc, Nat.succ_mul]; omega), henc, Nat.succ_mul, List.nil_append]
      congr 1
      omega
    rw [t1, t2]
    simp
theorem Sl.put (henc : ∀ x, (enc x).length = size) {w : World} {e : TypeId} {g off cap : Nat} {l : List α} {F : Nat → Prop} (h : Sl w e size (.slice (some ⟨g, off, none⟩) l.length cap) l.length (l.flatMap enc) F) (i : Nat) (hi : i < l.length) (x : α) :
    Sl (w.setCells g (off + i * size) (enc x)) e size (.slice (some ⟨g, off, none⟩) l.length cap) l.length ((l.set i x).flatMap enc) F ∧ Chg (fun j => j = g) w (w.setCells g (off + i * size) (enc x)) := by
  obtain ⟨hl, h | ⟨g', off', cap', cur, hv, hF, hb, h1, h2, h3, h4⟩⟩ := h
  · cases h.1
  · cases hv
    have hle : (i + 1) * size ≤ l.length * size := Nat.mul_le_mul_right _ hi
    have hle2 : l.length * size ≤ cap * size := Nat.mul_le_mul_right _ h1
    rw [Nat.succ_mul] at hle
    obtain ⟨cur', g1, g2, g3⟩ := setCells_heap g e (0, 0) (enc x) (off + i * size) w cur hb (by rw [henc]; omega)
    refine ⟨⟨by rw [flat_len henc, List.length_set], .inr ⟨g, off, cap, cur', rfl, hF, g1, h1, h2, ?_, ?_⟩⟩, g3⟩
    · have := congrArg List.length g2
      simp only [List.length_append, List.length_take, List.length_drop, Array.length_toList, henc] at this
      omega
    · rw [g2, henc, flat_set henc x l i hi, ← h4]
      rw [List.append_assoc, List.drop_append_of_le_length (by simp; omega), List.drop_take, show off + i * size - off = i * size by omega]
      rw [List.take_append, List.take_append]
      simp only [List.length_take, List.length_drop, Array.length_toList, henc, List.take_take]
      rw [Nat.min_eq_left (by omega : i * size ≤ cur.size - off)]
      rw [show min (l.length * size) (i * size) = i * size by omega, show min (i * size) (l.length * size) = i * size by omega]
      rw [List.take_of_length_le (by rw [henc]; omega : (enc x).length ≤ l.length * size - i * size)]
      rw [List.drop_take, List.drop_drop, List.append_assoc]
      congr 2
      rw [show off + (i * size + size) = off + i * size + size by omega]
      congr 1
      omega
end
theorem flat_take {α : Type} {enc : α → List Value} {size : Nat} (henc : ∀ x, (enc x).length = size) : ∀ (l : List α) (m : Nat), (l.take m).flatMap enc = (l.flatMap enc).take (m * size)
  | [], m => by simp
  | a :: r, 0 => by simp
  | a :: r, m + 1 => by
    rw [List.take_succ_cons, List.flatMap_cons, List.flatMap_cons, flat_take henc r m, Nat.succ_mul, List.take_append, List.take_of_length_le (l := enc a) (by rw [henc]; omega), henc]
    congr 2
    omega
theorem Sl.tail {α : Type} {enc : α → List Value} {size : Nat} (henc : ∀ x, (enc x).length = size) {w : World} {e : TypeId} {g off cap : Nat} {l : List α} {F : Nat → Prop} (h : Sl w e size (.slice (some ⟨g, off, none⟩) l.length cap) l.length (l.flatMap enc) F) (m : Nat) (hm : m ≤ l.length) (zs : List Value) (hz : zs.length = (l.length - m) * size) :
    Sl (w.setCells g (off + m * size) zs) e size (.slice (some ⟨g, off, none⟩) m cap) m ((l.take m).flatMap enc) F ∧ Chg (fun j => j = g) w (w.setCells g (off + m * size) zs) := by
  obtain ⟨hl, h | ⟨g', off', cap', cur, hv, hF, hb, h1, h2, h3, h4⟩⟩ := h
  · cases h.1
  · cases hv
    have hle : m * size ≤ l.length * size := Nat.mul_le_mul_right _ hm
    have hle2 : l.length * size ≤ cap * size := Nat.mul_le_mul_right _ h1
    have hsub : (l.length - m) * size = l.length * size - m * size := Nat.sub_mul _ _ _
    obtain ⟨cur', g1, g2, g3⟩ := setCells_heap g e (0, 0) zs (off + m * size) w cur hb (by rw [hz, hsub]; omega)
    refine ⟨⟨by rw [flat_len henc, List.length_take, Nat.min_eq_left hm], .inr ⟨g, off, cap, cur', rfl, hF, g1, by omega, h2, ?_, ?_⟩⟩, g3⟩
    · have := congrArg List.length g2
      simp only [List.length_append, List.length_take, List.length_drop, Array.length_toList] at this
      omega
    · rw [g2, flat_take henc, ← h4, List.append_assoc, List.drop_append_of_le_length (by simp; omega), List.drop_take, show off + m * size - off = m * size by omega]
      rw [List.take_append_of_le_length (by simp; omega), List.take_take, List.take_take, Nat.min_self, Nat.min_eq_left hle]
theorem run_clearE {w : World} {g o n c : Nat} {cur : Array Value} {e : TypeId} (hb : w.heap[g]? = some (.cells cur e (0, 0))) (hn : 0 < n) (hfit : o + n * 4 ≤ cur.size) (hz : ∀ w, (zeroValue 66).run Tryz.prog w = .ok (.agg #[.int .i64 0, .int .i64 0, .int .i64 0, .string ⟨#[]⟩]) w) :
    ∃ zs : List Value, zs.length = n * 4 ∧ ∀ ty, (Builtin.clear_ #[61] ty #[.slice (some ⟨g, o, none⟩) n c]).run Tryz.prog w = .ok (.tuple #[]) (w.setCells g o zs) := by
  refine ⟨(Builtin.zeroCells #[.int .i64 0, .int .i64 0, .int .i64 0, .string ⟨#[]⟩] n).toList, by simp [Builtin.zeroCells], fun ty => ?_⟩
  have hlen : (Builtin.zeroCells #[Value.int .i64 0, .int .i64 0, .int .i64 0, .string ⟨#[]⟩] n).toList.length = n * 4 := by simp [Builtin.zeroCells]
  have hst := run_storeCells_cells (P := Tryz.prog) g o (Builtin.zeroCells #[.int .i64 0, .int .i64 0, .int .i64 0, .string ⟨#[]⟩] n).toList 0 w
    (by intro j hj; rw [hlen] at hj; rw [cell_of_row w g (o + 0 + j) cur e (0, 0) hb, Array.getElem?_eq_getElem (by omega)]; rfl) (by intro j hj; simp [World.frozen?, hb]) (by
      intro v hv
      simp only [Builtin.zeroCells, Array.toList_map, List.mem_map] at hv
      obtain ⟨i, _, rfl⟩ := hv
      have : i % 4 = 0 ∨ i % 4 = 1 ∨ i % 4 = 2 ∨ i % 4 = 3 := by omega
      rcases this with h | h | h | h <;> simp [h] <;> rfl)
  simp only [Nat.add_zero] at hst
  obtain ⟨m, rfl⟩ : ∃ m, n = m + 1 := ⟨n - 1, by omega⟩
  simp [Builtin.clear_, run_underlying Tryz.underlying61, hz, hst, Value.cells]
end Go.Proofs.YtooigfkjdemnlaaGreatDoor

namespace Go.Proofs.YtooigfkjdemnlaaGreatDoor
set_option maxRecDepth 100000
open Go.RowKit Go.Lib Go.Sort Go.Shelf Xw
set_option maxHeartbeats 2000000 in
theorem insNil_ (fv : Value) (w : World) : Calls Tryz.prog 124 #[.slice none 0 0, .int .i64 0, .int .i64 0, fv] w fun e w' => e = .returned (.tuple #[]) ∧ w' = w := by
  go_enter Tryz.func124, Tryz.ntmps124
  go_wp2
  refine wp_loop_rounds 1 ?_
  rw [rounds_succ]
  go_wp2
  go_end0
  exact ⟨rfl, rfl⟩
set_option maxHeartbeats 2000000 in
theorem pdqNil_ (lim : Int) (fv : Value) (w : World) : Calls Tryz.prog 98 #[.slice none 0 0, .int .i64 0, .int .i64 0, .int .i64 lim, fv] w fun e w' => e = .returned (.tuple #[]) ∧ w' = w := by
  go_enter Tryz.func98, Tryz.ntmps98
  go_wp2
  refine wp_loop_rounds 1 ?_
  rw [rounds_succ]
  go_wp2_with (go_at_call 124; refine (insNil_ _ _).mono ?_; rintro e w' ⟨rfl, rfl⟩)
  (try simp only [Exit.inBlock, Exit.then]); refine bodyPost_ret (results_none rfl _ _ _) rfl ?_
  exact ⟨rfl, rfl⟩
set_option maxHeartbeats 2000000 in
theorem sortNil_ (fv : Value) (w : World) : Calls Tryz.prog 54 #[.slice none 0 0, fv] w fun e w' => e = .returned (.tuple #[]) ∧ w' = w := by
  have hl : ∀ W, Calls Tryz.prog 99 #[.int .u64 0] W fun e w' => e = .returned (.int .i64 (Lib.bitLen 0 : Nat)) ∧ w' = W := fun W => by
    have h := Any.bits_Len (SlLaysF0.n15.bits (P := Tryz.prog) (ρ := renE) { layE with }) 0 W (by omega) (by omega)
    exact h
  go_enter Tryz.func54, Tryz.ntmps54
  go_wp2_with (first | (go_at_call 99; refine (hl _).mono ?_; rintro e w' ⟨rfl, rfl⟩) | (go_at_call 98; refine (pdqNil_ _ _ _).mono ?_; rintro e w' ⟨rfl, rfl⟩))
  go_end0
  exact ⟨rfl, rfl⟩
end Go.Proofs.YtooigfkjdemnlaaGreatDoor
