/- Own texts of this claim, joined in build order: F8, F9. -/
import Derived.Test.YtooigfkjdemnlaaGreatDoorG35
import Derived.Test.YtooigfkjdemnlaaGreatDoorG36
import Derived.Shelf.SlMaps.Clone
import Derived.Test.YtooigfkjdemnlaaGreatDoorG31
set_option linter.all false
namespace Go.Proofs.YtooigfkjdemnlaaGreatDoor
set_option maxRecDepth 100000
open Go.RowKit Go.Lib Go.Sort Go.Shelf Xw

set_option maxHeartbeats 2000000 in
theorem indexI2_ {w : World} {B : Nat} {v : Value} {l : List Int} (hr : Rows w B 1 (Flat intC) v l) (hle : B ≤ w.heap.size) (M : FuncId) (caps : Array Value) (P : Int → Prop)
    (eg : ∀ args w, (callFunc M args).run Tryz.prog w = .ok (.enter M args) w)
    (hm : ∀ (u : Int) (W : World), u ∈ l → Below w.heap.size w W → Calls Tryz.prog M (#[.int .i64 u] ++ caps) W fun r W' => Below W.heap.size W W' ∧ ∃ b, r = .returned (.bool b) ∧ Hid (b = true ↔ P u)) :
    Calls Tryz.prog 57 #[v, .func (.func M) #[] caps] w fun e w' => Below w.heap.size w w' ∧ ∃ i : Int, e = .returned (.int .i64 i) ∧ Hid (0 ≤ i ↔ ∃ u ∈ l, P u) := by
  obtain ⟨EA, ec, rfl, hc1, hc2⟩ := hr.shape
  simp only [maxLen] at hc2
  have HM := Lib.hid hm
  clear hm
  go_enter Tryz.func57, Tryz.ntmps57
  go_wp2
  go_loopw [5, 8] (fun _ i' wr => ∃ i : Nat, i ≤ l.length ∧ i' = .int .i64 i ∧ Hid (∀ j < i, ∀ u, l[j]? = some u → ¬ P u) ∧ Below w.heap.size w wr) (fun _ i' _ => l.length - (intOf i').toNat)
  case atStart => exact ⟨0, by omega, rfl, Lib.hid (fun j hj => by omega), Below.refl _ _⟩
  case round =>
    obtain ⟨i, hi, rfl, HI, hB⟩ := hrel
    have hz := hB.size
    by_cases hlt : i < l.length
    · obtain ⟨u, hu⟩ : ∃ u, l[i]? = some u := ⟨_, List.getElem?_eq_getElem hlt⟩
      obtain ⟨b, o, c2, hq, hb, p0⟩ := hr.get1 hu (wr := wr) (fun j hj => hB.block j (by omega)) rfl
      cases hq
      have hbr : b < wr.heap.size := by omega
      have hii : (i : Int) < l.length := by omega
      have HC := Lib.hid (HM.out u wr (List.mem_of_getElem? hu) hB)
      have HU := Lib.hid hu
      clear hu
      rcases Classical.em (P u) with hP | hP
      · have HP := Lib.hid hP
        clear hP
        go_wp2_with (go_at_fn M; refine HC.out.mono ?_; rintro r w9 ⟨hB9, b, rfl, HBP⟩
                     obtain rfl : b = true := HBP.out.2 HP.out)
        go_ret
        exact ⟨hB.trans (hB9.mono (by omega)), i, rfl, Lib.hid ⟨fun _ => ⟨u, List.mem_of_getElem? HU.out, HP.out⟩, fun _ => by omega⟩⟩
      · have HP := Lib.hid hP
        clear hP
        go_wp2_with (go_at_fn M; refine HC.out.mono ?_; rintro r w9 ⟨hB9, b, rfl, HBP⟩
                     obtain rfl : b = false := by
                       cases b
                       · rfl
                       · exact absurd (HBP.out.1 rfl) HP.out)
        refine ⟨⟨i + 1, by omega, by simp, Lib.hid (fun j hj u' hu' => ?_), hB.trans (hB9.mono (by omega))⟩, by simp [intOf]; omega⟩
        by_cases hji : j = i
        · subst hji
          rw [HU.out] at hu'; cases hu'
          exact HP.out
        · exact HI.out j (by omega) u' hu'
    · obtain rfl : i = l.length := by omega
      go_wp2
      go_ret
      refine ⟨hB, -1, rfl, Lib.hid ⟨fun h => by omega, fun ⟨u, hu, hP⟩ => ?_⟩⟩
      obtain ⟨j, hj⟩ := List.mem_iff_getElem?.1 hu
      exact absurd hP (HI.out j (List.getElem?_eq_some_iff.1 hj).1 u hj)
set_option maxHeartbeats 2000000 in
theorem containsI_ {w : World} {B : Nat} {v : Value} {l : List Int} (hr : Rows w B 1 (Flat intC) v l) (hle : B ≤ w.heap.size) (M : FuncId) (caps : Array Value) (P : Int → Prop)
    (eg : ∀ args w, (callFunc M args).run Tryz.prog w = .ok (.enter M args) w)
    (hm : ∀ (u : Int) (W : World), u ∈ l → Below w.heap.size w W → Calls Tryz.prog M (#[.int .i64 u] ++ caps) W fun r W' => Below W.heap.size W W' ∧ ∃ b, r = .returned (.bool b) ∧ Hid (b = true ↔ P u)) :
    Calls Tryz.prog 79 #[v, .func (.func M) #[] caps] w fun e w' => Below w.heap.size w w' ∧ ∃ b, e = .returned (.bool b) ∧ Hid (b = true ↔ ∃ u ∈ l, P u) := by
  have hix := Lib.hid (indexI2_ hr hle M caps P eg hm)
  obtain ⟨EA, ec, rfl, hc1, hc2⟩ := hr.shape
  clear hm hr
  go_enter Tryz.func79, Tryz.ntmps79
  rcases Classical.em (∃ u ∈ l, P u) with hP | hP
  · have HP := Lib.hid hP
    clear hP
    go_wp2_with (go_at_call 57; refine hix.out.mono ?_; rintro e w2 ⟨hB2, i, rfl, HI⟩
                 have h0 : 0 ≤ i := HI.out.2 HP.out)
    go_ret
    exact ⟨hB2, true, by simp, Lib.hid ⟨fun _ => HP.out, fun _ => rfl⟩⟩
  · have HP := Lib.hid hP
    clear hP
    go_wp2_with (go_at_call 57; refine hix.out.mono ?_; rintro e w2 ⟨hB2, i, rfl, HI⟩
                 have h0 : ¬ 0 ≤ i := fun h => HP.out (HI.out.1 h))
    go_ret
    exact ⟨hB2, false, by simp; omega, Lib.hid ⟨fun h => (by cases h), fun h => absurd h HP.out⟩⟩
set_option maxHeartbeats 2000000 in
theorem clash1_ {w : World} {B lp lb tb : Nat} {h : List HTx} {ty1 ty2 : TypeId} (hl : Led w B lp h) (hlb : w.heap[lb]? = some (.cells #[.pointer (some ⟨lp, 0, none⟩)] ty1)) (t u : Nat) (htb : w.heap[tb]? = some (.cells #[.int .i64 t] ty2)) (x y : HTx) (hx : h[t]? = some x) (hy : h[u]? = some y) :
    Calls Tryz.prog 80 #[.int .i64 u, .pointer (some ⟨lb, 0, none⟩), .pointer (some ⟨tb, 0, none⟩)] w fun e w' => Below w.heap.size w w' ∧ ∃ b, e = .returned (.bool b) ∧ Hid (b = true ↔ ClashP h t u) := by
  have hc := Lib.hid (clash_ hl t u x y hx hy)
  have b0 := (cells_of (cs := [.pointer (some ⟨lp, 0, none⟩)]) hlb).1 0
  have b1 := (cells_of (cs := [.int .i64 t]) htb).1 0
  have i1 := lt_of_heap hlb
  have i2 := lt_of_heap htb
  clear hl hlb htb hx hy
  go_enter Tryz.func80, Tryz.ntmps80
  go_wp2_with (go_at_call 81; refine hc.out.mono ?_; rintro e w2 ⟨hB2, b, rfl, HB⟩)
  go_ret
  exact ⟨hB2, b, rfl, HB⟩
set_option maxHeartbeats 2000000 in
theorem always_ (sv : Value) (o : HOpr) (w : World) : Calls Tryz.prog 82 #[opVal sv o] w fun r w' => Below w.heap.size w w' ∧ ∃ b, r = .returned (.bool b) ∧ Hid (b = true ↔ True) := by
  unfold opVal
  go_enter Tryz.func82, Tryz.ntmps82
  go_wp2
  go_ret
  exact ⟨bel1 _ _, true, rfl, Lib.hid ⟨fun _ => trivial, fun _ => rfl⟩⟩
def renC : Ren := ⟨fun x => if x = 5 then 78 else if x = 7 then 110 else x, fun x => if x = 4 then 4 else if x = 20 then 20 else if x = 23 then 87 else if x = 25 then 9 else if x = 3 then 56 else x, fun x => x⟩
theorem layC : SlLaysW.n5 Tryz.prog renC where
  mixed := by kernel_rfl
  f5 := ⟨Tryz.f78.name, by kernel_rfl, Tryz.func78.trans (by kernel_rfl)⟩
  f7 := Tryz.func110.trans (by kernel_rfl)
  t4 := by kernel_rfl
  a4 := fun _ => by kernel_rfl
  z4 := fun _ => by kernel_rfl
  v4 := fun _ => by kernel_rfl
  t20 := by kernel_rfl
  a20 := fun _ => by kernel_rfl
  z20 := fun _ => by kernel_rfl
  v20 := fun _ => by kernel_rfl
  t23 := by kernel_rfl
  a23 := fun _ => by kernel_rfl
  z23 := fun _ => by kernel_rfl
  v23 := fun _ => by kernel_rfl
theorem cloneSt_ {w : World} {mb N : Nat} {st : KSt} (hS : StM w mb st N) : Calls Tryz.prog 78 #[.map (some mb)] w fun e w' => e = .returned (.map (some w.heap.size)) ∧ ∃ o : Obj, w' = w.alloc o ∧ StM w' w.heap.size st N := by
  obtain ⟨L, ⟨es, clk, hb, r1⟩, hg, hN⟩ := hS
  refine (AnyW.maps_Clone layC mb es clk w hb).mono ?_
  rintro e w' ⟨rfl, rfl⟩
  exact ⟨rfl, _, rfl, L, ⟨es, clk, (MapKept.heap_alloc w _).1, r1⟩, hg, hN⟩
end Go.Proofs.YtooigfkjdemnlaaGreatDoor

namespace Go.Proofs.YtooigfkjdemnlaaGreatDoor
set_option maxRecDepth 100000
open Go.RowKit Go.Lib Go.Sort Go.Shelf Xw

structure RunI (W0 wr : World) (nb sn si : Nat) (nst : KSt) (N : Nat) (act : Int → Prop) (snap : Int → KSt) (f : Int → List Int) (ex : Option Int) (Ls Lsi : List (Int × Value)) (sb : Int → Nat) (Cs : Nat → Prop) : Prop where
  ord : nb < sn ∧ sn < si ∧ si < W0.heap.size ∧ W0.heap.size ≤ wr.heap.size
  now : StM wr nb nst N
  snm : KMap kInt.enc wr sn Ls
  keys : ∀ k, k ∈ Ls.map (·.1) ↔ act k
  snp : ∀ k v, kget Ls k = some v → v = .map (some (sb k)) ∧ W0.heap.size ≤ sb k ∧ sb k < wr.heap.size ∧ ¬ Cs (sb k) ∧ (ex ≠ some k → StM wr (sb k) (snap k) N)
  inj : ∀ k k', act k → act k' → sb k = sb k' → k = k'
  sin : OwnN kInt.enc 3 1 intC wr si f Cs Lsi
  col : ∀ j, Cs j → j = si ∨ (W0.heap.size ≤ j ∧ j < wr.heap.size)
section
variable {W0 wr w' : World} {nb sn si N : Nat} {nst : KSt} {act : Int → Prop} {snap : Int → KSt} {f : Int → List Int} {ex : Option Int} {Ls Lsi : List (Int × Value)} {sb : Int → Nat} {Cs : Nat → Prop}
theorem kget_of_mem {K : Type} [DecidableEq K] {L : List (K × Value)} {k : K} (h : k ∈ L.map (·.1)) (hn : (L.map (·.1)).Nodup) : ∃ v, kget L k = some v := by
  obtain ⟨p, hp, rfl⟩ := List.mem_map.1 h
  exact ⟨p.2, kget_mem hn hp⟩
theorem mem_of_kget {K : Type} [DecidableEq K] {L : List (K × Value)} {k : K} {v : Value} (h : kget L k = some v) : k ∈ L.map (·.1) := List.mem_map_of_mem (f := (·.1)) (kget_some h)
theorem RunI.quiet (R : RunI W0 wr nb sn si nst N act snap f ex Ls Lsi sb Cs) (hc : Chg (fun _ => False) wr w') : RunI W0 w' nb sn si nst N act snap f ex Ls Lsi sb Cs := by
  have hz := hc.size
  obtain ⟨o1, o2, o3, o4⟩ := R.ord
  exact ⟨⟨o1, o2, o3, by omega⟩, R.now.keep (hc.block _ R.now.lt (fun f => f)), R.snm.chg hc (fun f => f), R.keys, fun k v hk => by
    obtain ⟨h1, h2, h3, h4, h5⟩ := R.snp k v hk
    exact ⟨h1, h2, by omega, h4, fun he => (h5 he).keep (hc.block _ h3 (fun f => f))⟩, R.inj, R.sin.chg hc (fun _ _ f => f), fun j hj => by have := R.col j hj; omega⟩
theorem RunI.far {G : Nat → Prop} (R : RunI W0 wr nb sn si nst N act snap f ex Ls Lsi sb Cs) (hc : Chg G wr w') (hG : ∀ j, G j → W0.heap.size ≤ j ∧ ¬ Cs j) (hs : ∀ k, act k → ¬ G (sb k)) : RunI W0 w' nb sn si nst N act snap f ex Ls Lsi sb Cs := by
  have hz := hc.size
  obtain ⟨o1, o2, o3, o4⟩ := R.ord
  have hn : ∀ j, j < W0.heap.size → ¬ G j := fun j hj hg => by have := (hG j hg).1; omega
  exact ⟨⟨o1, o2, o3, by omega⟩, R.now.keep (hc.block _ R.now.lt (hn nb (by omega))), R.snm.chg hc (hn sn (by omega)), R.keys, fun k v hk => by
    obtain ⟨h1, h2, h3, h4, h5⟩ := R.snp k v hk
    exact ⟨h1, h2, by omega, h4, fun he => (h5 he).keep (hc.block _ h3 (hs k ((R.keys k).1 (mem_of_kget hk))))⟩, R.inj, R.sin.chg hc (fun j hj hg => (hG j hg).2 hj), fun j hj => by have := R.col j hj; omega⟩
theorem RunI.use (R : RunI W0 wr nb sn si nst N act snap f none Ls Lsi sb Cs) {t : Int} (ht : act t) (hc : Chg (fun j => j = sb t) wr w') : RunI W0 w' nb sn si nst N act snap f (some t) Ls Lsi sb Cs := by
  have hz := hc.size
  obtain ⟨o1, o2, o3, o4⟩ := R.ord
  obtain ⟨v, hv⟩ := kget_of_mem ((R.keys t).2 ht) R.snm.nodup
  obtain ⟨_, g2, g3, g4, _⟩ := R.snp t v hv
  refine ⟨⟨o1, o2, o3, by omega⟩, R.now.keep (hc.block _ R.now.lt (by omega)), R.snm.chg hc (by omega), R.keys, fun k v hk => ?_, R.inj, R.sin.chg hc (fun j hj e => g4 (e ▸ hj)), fun j hj => by have := R.col j hj; omega⟩
  obtain ⟨h1, h2, h3, h4, h5⟩ := R.snp k v hk
  refine ⟨h1, h2, by omega, h4, fun he => (h5 (by simp)).keep (hc.block _ h3 (fun e => he ?_))⟩
  rw [R.inj k t ((R.keys k).1 (mem_of_kget hk)) ht e]
theorem RunI.nowc (R : RunI W0 wr nb sn si nst N act snap f ex Ls Lsi sb Cs) {nst' : KSt} {N' : Nat} (hN : N ≤ N') (hc : Chg (fun j => j = nb) wr w') (hs : StM w' nb nst' N') : RunI W0 w' nb sn si nst' N' act snap f ex Ls Lsi sb Cs := by
  have hz := hc.size
  obtain ⟨o1, o2, o3, o4⟩ := R.ord
  exact ⟨⟨o1, o2, o3, by omega⟩, hs, R.snm.chg hc (by omega), R.keys, fun k v hk => by
    obtain ⟨h1, h2, h3, h4, h5⟩ := R.snp k v hk
    exact ⟨h1, h2, by omega, h4, fun he => ((h5 he).keep (hc.block _ h3 (by omega))).more hN⟩, R.inj, R.sin.chg hc (fun j hj e => by have := R.col j hj; omega), fun j hj => by have := R.col j hj; omega⟩
theorem keys_kdel {K : Type} [DecidableEq K] (L : List (K × Value)) (k k' : K) : k' ∈ (kdel L k).map (·.1) ↔ k' ∈ L.map (·.1) ∧ k' ≠ k := by
  unfold kdel
  simp only [List.mem_map, List.mem_filter]
  constructor
  · rintro ⟨p, ⟨h1, h2⟩, rfl⟩
    exact ⟨⟨p, h1, rfl⟩, by simpa using h2⟩
  · rintro ⟨⟨p, h1, rfl⟩, h2⟩
    exact ⟨p, ⟨h1, by simpa using h2⟩, rfl⟩
theorem RunI.del {t : Int} (R : RunI W0 wr nb sn si nst N act snap f ex Ls Lsi sb Cs) (he : ex = none ∨ ex = some t) (hk : KMap kInt.enc w' sn (kdel Ls t)) (hc : Chg (fun j => j = sn) wr w') : RunI W0 w' nb sn si nst N (fun k => act k ∧ k ≠ t) snap f none (kdel Ls t) Lsi sb Cs := by
  have hz := hc.size
  obtain ⟨o1, o2, o3, o4⟩ := R.ord
  refine ⟨⟨o1, o2, o3, by omega⟩, R.now.keep (hc.block _ R.now.lt (by omega)), hk, fun k => by rw [keys_kdel, R.keys], fun k v hv => ?_, fun k k' h1 h2 => R.inj k k' h1.1 h2.1, R.sin.chg hc (fun j hj e => by have := R.col j hj; omega), fun j hj => by have := R.col j hj; omega⟩
  rw [kget_kdel] at hv
  by_cases hkt : k = t
  · rw [if_pos hkt] at hv; cases hv
  · rw [if_neg hkt] at hv
    obtain ⟨h1, h2, h3, h4, h5⟩ := R.snp k v hv
    exact ⟨h1, h2, by omega, h4, fun _ => (h5 (by rcases he with h | h <;> rw [h] <;> simp; exact fun e => hkt e.symm)).keep (hc.block _ h3 (by omega))⟩
theorem RunI.add {t : Int} {w2 w3 w4 : World} {nbk : Nat} (R : RunI W0 wr nb sn si nst N act snap f none Ls Lsi sb Cs) (ht : ¬ act t) (hc1 : Chg (fun _ => False) wr w2) (hnb : wr.heap.size ≤ nbk) (hnb2 : nbk < w2.heap.size) (hs : StM w2 nbk nst N)
    (hk : KMap kInt.enc w3 sn (kset Ls t (.map (some nbk)))) (hc3 : Chg (fun j => j = sn) w2 w3) (hk4 : KMap kInt.enc w4 si (kset Lsi t (.slice none 0 0))) (hc4 : Chg (fun j => j = si) w3 w4) :
    ∃ Cs', RunI W0 w4 nb sn si nst N (fun k => act k ∨ k = t) (fun k => if k = t then nst else snap k) (fun k => if k = t then [] else f k) none (kset Ls t (.map (some nbk))) (kset Lsi t (.slice none 0 0)) (fun k => if k = t then nbk else sb k) Cs' := by
  have hz1 := hc1.size
  have hz3 := hc3.size
  have hz4 := hc4.size
  obtain ⟨o1, o2, o3, o4⟩ := R.ord
  have hcol := R.col
  have keep : ∀ j, j < w2.heap.size → j ≠ sn → j ≠ si → w4.heap[j]? = w2.heap[j]? := fun j hj h1 h2 => (hc4.block j (by omega) h2).trans (hc3.block j hj h1)
  have hs3 := (R.sin.chg hc1 (fun _ _ f => f)).chg hc3 (fun j hj e => by have := hcol j hj; omega)
  obtain ⟨F, _, _, hstep⟩ := hs3.at_ t
  have hown := hstep w3 w4 (.slice none 0 0) [] (fun _ => False) (Sl.nil _ _ _ _) (fun _ f => f.elim) (Chg.refl _ _) hk4 hc4 (fun j hj => by have := hcol j hj; omega)
  have hcsn : ∀ k, act k → ¬ Cs (sb k) ∧ W0.heap.size ≤ sb k ∧ sb k < wr.heap.size := fun k hk => by
    obtain ⟨v, hv⟩ := kget_of_mem ((R.keys k).2 hk) R.snm.nodup
    obtain ⟨_, h2, h3, h4, _⟩ := R.snp k v hv
    exact ⟨h4, h2, h3⟩
  refine ⟨_, ⟨⟨o1, o2, o3, by omega⟩, R.now.keep ((keep nb (by omega) (by omega) (by omega)).trans (hc1.block nb (by omega) (fun f => f))), hk.keep (hc4.block sn (by omega) (by omega)), fun k => by rw [mem_kset, R.keys], fun k v hv => ?_, fun k k' h1 h2 he => ?_, hown, fun j hj => ?_⟩⟩
  · rw [kget_kset] at hv
    by_cases hkt : k = t
    · rw [if_pos hkt] at hv
      cases hv
      simp only [if_pos hkt]
      refine ⟨trivial, by omega, by omega, ?_, fun _ => hs.keep (keep nbk hnb2 (by omega) (by omega))⟩
      rintro (h | ⟨h, h'⟩)
      · have := hcol _ h; omega
      · omega
    · rw [if_neg hkt] at hv
      simp only [if_neg hkt]
      obtain ⟨h1, h2, h3, h4, h5⟩ := R.snp k v hv
      refine ⟨h1, h2, by omega, ?_, fun _ => (h5 (by simp)).keep ((keep _ (by omega) (by omega) (by omega)).trans (hc1.block _ h3 (fun f => f)))⟩
      rintro (h | ⟨h, h'⟩)
      · exact h4 h
      · omega
  · by_cases e1 : k = t <;> by_cases e2 : k' = t
    · rw [e1, e2]
    · simp only [if_pos e1, if_neg e2] at he
      have := hcsn k' (h2.resolve_right e2); omega
    · simp only [if_neg e1, if_pos e2] at he
      have := hcsn k (h1.resolve_right e1); omega
    · simp only [if_neg e1, if_neg e2] at he
      exact R.inj k k' (h1.resolve_right e1) (h2.resolve_right e2) he
  · rcases hj with h | ⟨h, h'⟩
    · have := hcol j h; omega
    · exact .inr (by omega)
theorem RunI.app {u : Int} (R : RunI W0 wr nb sn si nst N act snap f ex Ls Lsi sb Cs) : ∃ F : Nat → Prop, Sl wr 3 1 ((kget Lsi u).getD (.slice none 0 0)) (f u).length ((f u).flatMap intC) F ∧ (∀ j, F j → Cs j ∧ j ≠ si) ∧
    ∀ (w4 w5 : World) (v2 : Value) (l2 : List Int) (F4 : Nat → Prop), Sl w4 3 1 v2 l2.length (l2.flatMap intC) F4 → (∀ j, F4 j → F j ∨ (wr.heap.size ≤ j ∧ j < w4.heap.size)) → Chg F wr w4 → KMap kInt.enc w5 si (kset Lsi u v2) → Chg (fun j => j = si) w4 w5 →
      RunI W0 w5 nb sn si nst N act snap (fun k => if k = u then l2 else f k) ex Ls (kset Lsi u v2) sb (fun j => Cs j ∨ (wr.heap.size ≤ j ∧ j < w4.heap.size)) := by
  obtain ⟨F, h1, h2, h3⟩ := R.sin.at_ u
  obtain ⟨o1, o2, o3, o4⟩ := R.ord
  have hcol := R.col
  refine ⟨F, h1, h2, fun w4 w5 v2 l2 F4 hs hf hc hk hc5 => ?_⟩
  have hz := hc.size
  have hz5 := hc5.size
  have hF : ∀ j, F j → W0.heap.size ≤ j ∧ j < wr.heap.size := fun j hj => by
    obtain ⟨g1, g2⟩ := h2 j hj
    rcases hcol j g1 with h | h
    · exact absurd h g2
    · exact h
  have keep : ∀ j, j < wr.heap.size → ¬ F j → j ≠ si → w5.heap[j]? = wr.heap[j]? := fun j hj g1 g2 => (hc5.block j (by omega) g2).trans (hc.block j hj g1)
  have hown := h3 w4 w5 v2 l2 F4 hs hf hc hk hc5 (fun j hj => by have := hcol j hj; omega)
  refine ⟨⟨o1, o2, o3, by omega⟩, R.now.keep (keep nb (by omega) (fun h => by have := hF _ h; omega) (by omega)), R.snm.keep (keep sn (by omega) (fun h => by have := hF _ h; omega) (by omega)), R.keys, fun k v hv => ?_, R.inj, hown, fun j hj => ?_⟩
  · obtain ⟨g1, g2, g3, g4, g5⟩ := R.snp k v hv
    refine ⟨g1, g2, by omega, ?_, fun he => (g5 he).keep (keep _ g3 (fun h => g4 (h2 _ h).1) (by omega))⟩
    rintro (h | ⟨h, h'⟩)
    · exact g4 h
    · omega
  · rcases hj with h | ⟨h, h'⟩
    · have := hcol j h; omega
    · exact .inr (by omega)
end
end Go.Proofs.YtooigfkjdemnlaaGreatDoor
