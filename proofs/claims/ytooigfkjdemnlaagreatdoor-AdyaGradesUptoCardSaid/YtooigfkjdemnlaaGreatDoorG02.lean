/- Own texts of this claim, joined in build order: Mp, Mp2, Pg, O1. -/
import Derived.Test.YtooigfkjdemnlaaGreatDoorG01
import Derived.Maps.RangeRun
import Derived.ChangeMaps5
import Derived.Maps.OwnSet
set_option linter.all false
namespace Go.Proofs.YtooigfkjdemnlaaGreatDoor
open Go.RowKit

structure KeyEnc (P : Program) (kt : TypeId) (K : Type) [DecidableEq K] where
  enc : K → Value
  desc : TypeDesc
  und : P.underlying kt = some desc
  same : ∀ a b, Instr.sameNow desc (enc a) (enc b) = some (decide (a = b))
  chk : ∀ e a w, (Instr.checkKey e 10000 kt (enc a)).run P w = .ok () w
  bits : ∀ a, Instr.sameBits 10000 (enc a) (enc a) = true

theorem bytes_beq (a b : ByteArray) : (a == b) = decide (a = b) := by
  have h : (a == b) = (a.data == b.data) := rfl
  rw [h]
  by_cases e : a = b
  · subst e; simp
  · have : a.data ≠ b.data := fun h => e (ByteArray.ext h)
    simp [e, this]

noncomputable def strKey {P : Program} {kt : TypeId} (h : P.underlying kt = some .string) : KeyEnc P kt ByteArray where
  enc := .string
  desc := .string
  und := h
  same := fun a b => by simp [Instr.sameNow, bytes_beq]
  chk := fun e a w => MapKept.run_checkKey (k := .string a) h (show MapKept.IsKey .string (.string a) from trivial) e 9999
  bits := fun a => MapKept.sameBits_self (d := .string) (k := .string a) trivial 10000

noncomputable def intKey {P : Program} {kt : TypeId} (h : P.underlying kt = some (.int .i64)) : KeyEnc P kt Int where
  enc := .int .i64
  desc := .int .i64
  und := h
  same := fun a b => by
    by_cases e : a = b
    · subst e; simp [Instr.sameNow]
    · simp [Instr.sameNow, e]
  chk := fun e a w => MapKept.run_checkKey (k := .int .i64 a) h (show MapKept.IsKey (.int .i64) (.int .i64 a) from rfl) e 9999
  bits := fun a => MapKept.sameBits_self (d := .int .i64) (k := .int .i64 a) rfl 10000

section
variable {K : Type} [DecidableEq K]

def KMap (enc : K → Value) (w : World) (b : Nat) (L : List (K × Value)) : Prop :=
  ∃ es clk, w.heap[b]? = some (.map es clk) ∧ es.toList.map (fun e => (e.key, e.val)) = L.map (fun p => (enc p.1, p.2)) ∧ (L.map (·.1)).Nodup ∧ (es.toList.map (·.born)).Nodup ∧ ∀ e ∈ es.toList, e.born < clk

def kget (L : List (K × Value)) (k : K) : Option Value := (L.find? (fun p => decide (p.1 = k))).map (·.2)
def kset (L : List (K × Value)) (k : K) (v : Value) : List (K × Value) := if k ∈ L.map (·.1) then L.map (fun p => if p.1 = k then (k, v) else p) else L ++ [(k, v)]
def kdel (L : List (K × Value)) (k : K) : List (K × Value) := L.filter (fun p => !decide (p.1 = k))

variable {enc : K → Value} {w w' : World} {b : Nat} {L : List (K × Value)}

theorem KMap.lt (h : KMap enc w b L) : b < w.heap.size := by
  obtain ⟨es, clk, hb, _⟩ := h
  exact lt_of_heap hb
theorem KMap.keep (h : KMap enc w b L) (hk : w'.heap[b]? = w.heap[b]?) : KMap enc w' b L := by
  obtain ⟨es, clk, hb, r⟩ := h
  exact ⟨es, clk, hk.trans hb, r⟩
theorem KMap.below {B : Nat} (h : KMap enc w b L) (hb : Below B w w') (hlt : b < B) : KMap enc w' b L := h.keep (hb.block b hlt)
theorem KMap.chg {F : Nat → Prop} (h : KMap enc w b L) (hc : Chg F w w') (hn : ¬ F b) : KMap enc w' b L := h.keep (hc.block b h.lt hn)
theorem KMap.nodup (h : KMap enc w b L) : (L.map (·.1)).Nodup := by obtain ⟨_, _, _, _, h, _⟩ := h; exact h
theorem KMap.made (enc : K → Value) (w : World) : KMap enc (w.alloc (.map #[] 0)) w.heap.size [] := ⟨#[], 0, (MapKept.heap_alloc w _).1, by simp⟩
theorem KMap.one {L' : List (K × Value)} (hinj : ∀ a b, enc a = enc b → a = b) (h : KMap enc w b L) (h' : KMap enc w b L') : L = L' := by
  obtain ⟨es, clk, hb, he, -⟩ := h
  obtain ⟨es', clk', hb', he', -⟩ := h'
  rw [hb] at hb'
  cases hb'
  rw [he] at he'
  clear he hb
  induction L generalizing L' with
  | nil => cases L' with | nil => rfl | cons a r => simp at he'
  | cons a r ih => cases L' with
    | nil => simp at he'
    | cons a' r' =>
      simp at he'
      obtain ⟨⟨h1, h2⟩, h3⟩ := he'
      rw [ih h3, Prod.ext (hinj _ _ h1) h2]

variable {P : Program} {kt : TypeId}

theorem findNow_kmap (E : KeyEnc P kt K) (k : K) : ∀ (es : List MapEntry) (L : List (K × Value)) (i : Nat), es.map (fun e => (e.key, e.val)) = L.map (fun p => (E.enc p.1, p.2)) →
    Instr.findNow E.desc (E.enc k) es i = some ((L.findIdx? (fun p => decide (p.1 = k))).bind (fun j => (L[j]?).map (fun p => (i + j, p.2))))
  | [], [], i, h => by simp [Instr.findNow]
  | e :: es, [], i, h => by simp at h
  | [], p :: L, i, h => by simp at h
  | e :: es, p :: L, i, h => by
    simp only [List.map_cons, List.cons.injEq, Prod.mk.injEq] at h
    obtain ⟨⟨h1, h2⟩, h3⟩ := h
    rw [Instr.findNow, h1, E.same]
    by_cases hk : p.1 = k
    · subst hk
      simp [List.findIdx?_cons, h2]
    · have hk' : ¬ k = p.1 := fun e => hk e.symm
      simp only [hk', decide_false]
      rw [findNow_kmap E k es L (i + 1) h3]
      simp only [List.findIdx?_cons, hk, decide_false, Bool.false_eq_true, if_false]
      cases L.findIdx? (fun p => decide (p.1 = k)) with
      | none => simp
      | some j => simp [Nat.add_assoc, Nat.add_comm 1 j]

theorem run_findKey_kmap (E : KeyEnc P kt K) (k : K) (es : List MapEntry) (w : World) {L : List (K × Value)} (h : es.map (fun e => (e.key, e.val)) = L.map (fun p => (E.enc p.1, p.2))) :
    (Instr.findKey kt (E.enc k) es).run P w = .ok ((L.findIdx? (fun p => decide (p.1 = k))).bind (fun j => (L[j]?).map (fun p => (j, p.2)))) w := by
  have := findNow_kmap E k es L 0 h
  simp only [Nat.zero_add] at this
  simp [Instr.findKey, run_underlying E.und, this]

theorem findIdx_get (L : List (K × Value)) (k : K) : ((L.findIdx? (fun p => decide (p.1 = k))).bind (fun j => (L[j]?).map (fun p => p.2))) = kget L k := by
  unfold kget
  induction L with
  | nil => rfl
  | cons p L ih =>
    by_cases hk : p.1 = k
    · simp [List.findIdx?_cons, List.find?_cons, hk]
    · simp only [List.findIdx?_cons, List.find?_cons, hk, decide_false, Bool.false_eq_true, if_false, ← ih]
      cases L.findIdx? (fun p => decide (p.1 = k)) with
      | none => simp
      | some j => simp

theorem run_lookup_kmap (E : KeyEnc P kt K) {t et : TypeId} (ht : P.underlying t = some (.map kt et)) {z : Value} (hz : (zeroValue et).run P w = .ok z w) (h : KMap E.enc w b L) (k : K) (ok : Bool) :
    (Instr.lookup t (.map (some b)) (E.enc k) ok).run P w = .ok (if ok then .tuple #[(kget L k).getD z, .bool (kget L k).isSome] else (kget L k).getD z) w := by
  obtain ⟨es, clk, hb, he, _⟩ := h
  have hfk := run_findKey_kmap E k es.toList w he
  rw [← findIdx_get]
  simp only [Instr.lookup, Sem.run_bind, run_underlying ht, Result.andThen, getObj, Sem.run, hb, E.chk]
  cases hf : L.findIdx? (fun p => decide (p.1 = k)) with
  | none =>
    rw [hf] at hfk
    cases ok <;> simp [hz, hfk]
  | some j =>
    rw [hf] at hfk
    have hj : j < L.length := by
      rw [List.findIdx?_eq_some_iff_findIdx_eq] at hf
      exact hf.1
    cases ok <;> simp [List.getElem?_eq_getElem hj, hfk]

theorem map_modify_pair {es : List MapEntry} {L : List (K × Value)} {k : K} {v : Value} {f : MapEntry → MapEntry} (hf : ∀ e, (f e).val = v ∧ ((f e).key = enc k)) (he : es.map (fun e => (e.key, e.val)) = L.map (fun p => (enc p.1, p.2))) (hn : (L.map (·.1)).Nodup)
    {j : Nat} (hj : L.findIdx? (fun p => decide (p.1 = k)) = some j) : (es.modify j f).map (fun e => (e.key, e.val)) = (L.map (fun p => if p.1 = k then (k, v) else p)).map (fun p => (enc p.1, p.2)) := by
  induction L generalizing es j with
  | nil => simp at hj
  | cons p L ih =>
    cases es with
    | nil => simp at he
    | cons e es =>
      simp only [List.map_cons, List.cons.injEq, Prod.mk.injEq] at he
      obtain ⟨⟨h1, h2⟩, h3⟩ := he
      simp only [List.map_cons, List.nodup_cons] at hn
      by_cases hk : p.1 = k
      · simp [List.findIdx?_cons, hk] at hj
        subst hj
        have hrest : L.map (fun q => if q.1 = k then (k, v) else q) = L := by
          conv => rhs; rw [← List.map_id L]
          apply List.map_congr_left
          intro q hq
          have : q.1 ≠ k := fun e => hn.1 (by rw [hk, ← e]; exact List.mem_map_of_mem hq)
          simp [this]
        simp only [List.modify_zero_cons, List.map_cons, hrest, hk, if_true, h3, (hf e).1, (hf e).2]
      · simp only [List.findIdx?_cons, hk, decide_false, Bool.false_eq_true, if_false, Option.map_eq_some_iff] at hj
        obtain ⟨j', hj', rfl⟩ := hj
        simp only [List.modify_succ_cons, List.map_cons, hk, if_false, h1, h2]
        rw [ih h3 hn.2 hj']

theorem born_modify (es : List MapEntry) (j : Nat) (f : MapEntry → MapEntry) (hf : ∀ e, (f e).born = e.born) : (es.modify j f).map (·.born) = es.map (·.born) := by
  induction es generalizing j with
  | nil => simp
  | cons e es ih => cases j with
    | zero => simp [hf]
    | succ j => simp [ih]

theorem keyStays (E : KeyEnc P kt K) (k : K) : Instr.keyThatStays (E.enc k) (E.enc k) = pure (E.enc k) := by simp [Instr.keyThatStays, E.bits]

theorem find_key_at {es : List MapEntry} {L : List (K × Value)} {k : K} {j : Nat} (he : es.map (fun e => (e.key, e.val)) = L.map (fun p => (enc p.1, p.2))) (hj : L.findIdx? (fun p => decide (p.1 = k)) = some j) :
    ∃ e p, es[j]? = some e ∧ L[j]? = some p ∧ p.1 = k ∧ e.key = enc k ∧ e.val = p.2 := by
  rw [List.findIdx?_eq_some_iff_getElem] at hj
  obtain ⟨hlt, hp, _⟩ := hj
  have hlen : es.length = L.length := by simpa using congrArg List.length he
  have h1 := congrArg (fun l => l[j]?) he
  simp only [List.getElem?_map, List.getElem?_eq_getElem hlt, List.getElem?_eq_getElem (show j < es.length by omega), Option.map_some, Option.some.injEq, Prod.mk.injEq] at h1
  have hk : L[j].1 = k := by simpa using hp
  exact ⟨_, _, List.getElem?_eq_getElem (by omega), List.getElem?_eq_getElem hlt, hk, by rw [h1.1, hk], h1.2⟩

theorem born_nodup_snoc {es : List MapEntry} {clk : Nat} (h : (es.map (·.born)).Nodup) (hlt : ∀ e ∈ es, e.born < clk) (e : MapEntry) (he : e.born = clk) : ((es ++ [e]).map (·.born)).Nodup ∧ ∀ x ∈ es ++ [e], x.born < clk + 1 := by
  refine ⟨?_, fun x hx => ?_⟩
  · rw [List.map_append, List.nodup_append]
    refine ⟨h, by simp, fun a ha b hb => ?_⟩
    simp at hb
    obtain ⟨y, hy, rfl⟩ := List.mem_map.1 ha
    have := hlt y hy
    omega
  · rcases List.mem_append.1 hx with h1 | h1
    · have := hlt x h1; omega
    · simp at h1; subst h1; omega

theorem chg_setBlock (w : World) (b : Nat) (o : Obj) : Chg (fun j => j = b) w (ChangeMaps.setBlock w b o) :=
  ⟨rfl, rfl, rfl, by simp [ChangeMaps.setBlock], fun j hj hn => by
    simp only [ChangeMaps.setBlock, Array.getElem?_setIfInBounds]
    rw [if_neg (fun e => hn e.symm)]⟩
theorem heap_setBlock_eq {w : World} {b : Nat} {o o' : Obj} (h : w.heap[b]? = some o) : (ChangeMaps.setBlock w b o').heap[b]? = some o' := by
  have := lt_of_heap h
  simp [ChangeMaps.setBlock, this]

theorem kset_nodup (h : (L.map (·.1)).Nodup) (k : K) (v : Value) : ((kset L k v).map (·.1)).Nodup := by
  unfold kset
  split
  · have : (L.map (fun p => if p.1 = k then (k, v) else p)).map (·.1) = L.map (·.1) := by
      rw [List.map_map]
      apply List.map_congr_left
      intro p _
      by_cases e : p.1 = k <;> simp [e]
    rw [this]; exact h
  · rename_i hk
    rw [List.map_append, List.nodup_append]
    refine ⟨h, by simp, fun a ha b hb => ?_⟩
    simp at hb
    subst hb
    exact fun e => hk (e ▸ ha)

theorem findIdx_none {L : List (K × Value)} {k : K} : L.findIdx? (fun p => decide (p.1 = k)) = none ↔ k ∉ L.map (·.1) := by
  rw [List.findIdx?_eq_none_iff]
  simp only [decide_eq_false_iff_not, List.mem_map, Prod.exists, exists_and_right, exists_eq_right, not_exists]
  exact ⟨fun h v hv => h (k, v) hv rfl, fun h p hp e => h p.2 (by rw [← e]; exact hp)⟩

theorem run_store_kmap (E : KeyEnc P kt K) {t et : TypeId} (ht : P.underlying t = some (.map kt et)) (h : KMap E.enc w b L) (k : K) (v : Value) :
    ∃ w', (Instr.mapUpdate t (.map (some b)) (E.enc k) v).run P w = .ok () w' ∧ KMap E.enc w' b (kset L k v) ∧ Chg (fun j => j = b) w w' := by
  obtain ⟨es, clk, hb, he, hn, hbn, hlt⟩ := h
  have hfk := run_findKey_kmap E k es.toList w he
  simp only [Instr.mapUpdate, Sem.run_bind, run_underlying ht, Result.andThen, getObj, Sem.run, hb, E.chk]
  have hrun : ∀ o, (setObj b o).run P w = .ok () (ChangeMaps.setBlock w b o) := fun o => by simp [setObj, Sem.run, hb, ChangeMaps.setBlock]
  cases hf : L.findIdx? (fun p => decide (p.1 = k)) with
  | none =>
    rw [hf] at hfk
    refine ⟨_, by simp only [hfk, Option.bind_none]; exact hrun _, ⟨_, _, heap_setBlock_eq hb, ?_, kset_nodup hn k v, ?_⟩, chg_setBlock _ _ _⟩
    · have hk := findIdx_none.1 hf
      rw [kset, if_neg hk]
      simp [he]
    · simpa using born_nodup_snoc hbn hlt { key := E.enc k, val := v, born := clk } rfl
  | some j =>
    obtain ⟨e, p, h1, h2, h3, h4, h5⟩ := find_key_at he hf
    have h1' : es[j]? = some e := by rw [← Array.getElem?_toList]; exact h1
    rw [hf] at hfk
    refine ⟨_, by simp only [hfk, Option.bind_some, h2, Option.map_some, h1', Option.getD_some, h4, keyStays, Sem.run_bind, Sem.run_pure, Result.andThen]; exact hrun _, ⟨_, _, heap_setBlock_eq hb, ?_, kset_nodup hn k v, ?_⟩, chg_setBlock _ _ _⟩
    · have hk : k ∈ L.map (·.1) := by rw [← h3]; exact List.mem_map_of_mem (List.mem_of_getElem? h2)
      rw [kset, if_pos hk, Array.toList_modify]
      exact map_modify_pair (enc := E.enc) (k := k) (v := v) (f := fun e => { e with key := E.enc k, val := v }) (fun e => ⟨rfl, rfl⟩) he hn hf
    · rw [Array.toList_modify, born_modify _ _ (fun e => { e with key := E.enc k, val := v }) (fun _ => rfl)]
      refine ⟨hbn, fun x hx => ?_⟩
      have : x.born ∈ (es.toList.modify j fun e => { e with key := E.enc k, val := v }).map (·.born) := List.mem_map_of_mem hx
      rw [born_modify _ _ (fun e => { e with key := E.enc k, val := v }) (fun _ => rfl)] at this
      obtain ⟨y, hy, hyx⟩ := List.mem_map.1 this
      rw [← hyx]; exact hlt y hy
end
end Go.Proofs.YtooigfkjdemnlaaGreatDoor

namespace Go.Proofs.YtooigfkjdemnlaaGreatDoor
open Go.RowKit
section
variable {K : Type} [DecidableEq K] {P : Program} {kt : TypeId} {enc : K → Value} {w w' : World} {b : Nat} {L : List (K × Value)}

theorem modify_congr {α : Type} {l : List α} {j : Nat} {e : α} {f g : α → α} (h : l[j]? = some e) (hfg : f e = g e) : l.modify j f = l.modify j g := by
  apply List.ext_getElem?
  intro i
  rw [List.getElem?_modify, List.getElem?_modify]
  by_cases hi : j = i
  · subst hi; simp [h, hfg]
  · simp [hi]
theorem modify_self {α : Type} {l : List α} {j : Nat} {e : α} {f : α → α} (h : l[j]? = some e) (hf : f e = e) : l.modify j f = l := by
  apply List.ext_getElem?
  intro i
  rw [List.getElem?_modify]
  by_cases hi : j = i
  · subst hi; simp [h, hf]
  · simp [hi]
theorem uniq_key {α β : Type} {f : α → β} {l : List α} (hn : (l.map f).Nodup) {p q : α} (hp : p ∈ l) (hq : q ∈ l) (h : f p = f q) : p = q := by
  induction l with
  | nil => cases hp
  | cons a l ih =>
    simp only [List.map_cons, List.nodup_cons] at hn
    rcases List.mem_cons.1 hp with h1 | h1
    · rcases List.mem_cons.1 hq with h2 | h2
      · rw [h1, h2]
      · subst h1; exact absurd (h ▸ List.mem_map_of_mem h2) hn.1
    · rcases List.mem_cons.1 hq with h2 | h2
      · subst h2; exact absurd (h ▸ List.mem_map_of_mem h1) hn.1
      · exact ih hn.2 h1 h2
theorem filter_erase {α β : Type} [DecidableEq β] {f : α → β} {l : List α} (hn : (l.map f).Nodup) {j : Nat} {e : α} (hj : l[j]? = some e) : l.filter (fun x => !decide (f x = f e)) = l.eraseIdx j := by
  induction l generalizing j with
  | nil => simp at hj
  | cons a l ih =>
    simp only [List.map_cons, List.nodup_cons] at hn
    cases j with
    | zero =>
      simp at hj
      subst hj
      simp only [List.filter_cons, decide_true, Bool.not_true, Bool.false_eq_true, if_false, List.eraseIdx_zero, List.tail_cons]
      rw [List.filter_eq_self]
      intro x hx
      have : f x ≠ f a := fun e => hn.1 (e ▸ List.mem_map_of_mem hx)
      simp [this]
    | succ j =>
      simp at hj
      have : f a ≠ f e := fun h => hn.1 (h ▸ List.mem_map_of_mem (List.mem_of_getElem? hj))
      simp only [List.filter_cons, this, decide_false, Bool.not_false, if_true, List.eraseIdx_cons_succ, ih hn.2 hj]
theorem map_eraseIdx' {α β : Type} (f : α → β) (l : List α) (j : Nat) : (l.eraseIdx j).map f = (l.map f).eraseIdx j := by
  induction l generalizing j with
  | nil => simp
  | cons a l ih => cases j with
    | zero => simp
    | succ j => simp [ih]
theorem findIdx_arr {α : Type} {a : Array α} {p : α → Bool} {j : Nat} {e : α} (h : a.toList[j]? = some e) (hp : p e = true) (hn : ∀ i, i < j → ∀ x, a.toList[i]? = some x → p x = false) : a.findIdx? p = some j := by
  obtain ⟨l, rfl⟩ : ∃ l : List α, a = l.toArray := ⟨a.toList, by simp⟩
  simp only [List.findIdx?_toArray] at *
  obtain ⟨l1, e1⟩ := List.getElem?_eq_some_iff.1 h
  rw [List.findIdx?_eq_some_iff_getElem]
  exact ⟨l1, by rw [e1]; exact hp, fun i hi => by simpa using hn i hi _ (List.getElem?_eq_getElem (by omega))⟩

theorem erase_pair {es : List MapEntry} {L : List (K × Value)} {k : K} (he : es.map (fun e => (e.key, e.val)) = L.map (fun p => (enc p.1, p.2))) (hn : (L.map (·.1)).Nodup)
    {j : Nat} (hj : L.findIdx? (fun p => decide (p.1 = k)) = some j) : (es.eraseIdx j).map (fun e => (e.key, e.val)) = (kdel L k).map (fun p => (enc p.1, p.2)) := by
  induction L generalizing es j with
  | nil => simp at hj
  | cons p L ih =>
    cases es with
    | nil => simp at he
    | cons e es =>
      simp only [List.map_cons, List.cons.injEq, Prod.mk.injEq] at he
      obtain ⟨⟨h1, h2⟩, h3⟩ := he
      simp only [List.map_cons, List.nodup_cons] at hn
      by_cases hk : p.1 = k
      · simp [List.findIdx?_cons, hk] at hj
        subst hj
        have hrest : L.filter (fun q => !decide (q.1 = k)) = L := by
          rw [List.filter_eq_self]
          intro q hq
          have : q.1 ≠ k := fun e => hn.1 (by rw [hk, ← e]; exact List.mem_map_of_mem hq)
          simp [this]
        simp only [List.eraseIdx_zero, List.tail_cons, kdel, List.filter_cons, hk, decide_true, Bool.not_true, Bool.false_eq_true, if_false, hrest, h3]
      · simp only [List.findIdx?_cons, hk, decide_false, Bool.false_eq_true, if_false, Option.map_eq_some_iff] at hj
        obtain ⟨j', hj', rfl⟩ := hj
        simp only [List.eraseIdx_cons_succ, List.map_cons, kdel, List.filter_cons, hk, decide_false, Bool.not_false, if_true, h1, h2]
        rw [ih h3 hn.2 hj']; rfl

theorem kdel_nodup (h : (L.map (·.1)).Nodup) (k : K) : ((kdel L k).map (·.1)).Nodup := by
  unfold kdel
  exact List.Sublist.nodup (List.Sublist.map _ List.filter_sublist) h
theorem kdel_none {k : K} (h : k ∉ L.map (·.1)) : kdel L k = L := by
  unfold kdel
  rw [List.filter_eq_self]
  intro p hp
  have : p.1 ≠ k := fun e => h (e ▸ List.mem_map_of_mem hp)
  simp [this]

theorem run_delete_kmap (E : KeyEnc P kt K) {t et : TypeId} (ht : P.underlying t = some (.map kt et)) (h : KMap E.enc w b L) (k : K) (ty : TypeId) (ats : Array TypeId) (hat : ats[0]? = some t) :
    ∃ w', (Builtin.delete_ ats ty #[.map (some b), E.enc k]).run P w = .ok (.tuple #[]) w' ∧ KMap E.enc w' b (kdel L k) ∧ Chg (fun j => j = b) w w' := by
  obtain ⟨es, clk, hb, he, hn, hbn, hlt⟩ := h
  have hfk := run_findKey_kmap E k es.toList w he
  have hrun : ∀ o, (setObj b o).run P w = .ok () (ChangeMaps.setBlock w b o) := fun o => by simp [setObj, Sem.run, hb, ChangeMaps.setBlock]
  simp only [Builtin.delete_, hat, Sem.run_bind, run_underlying ht, Result.andThen, getObj, Sem.run, hb, E.chk, List.getElem?_toArray, List.getElem?_cons_zero, List.getElem?_cons_succ]
  cases hf : L.findIdx? (fun p => decide (p.1 = k)) with
  | none =>
    rw [hf] at hfk
    refine ⟨_, by simp [hfk, hrun], ⟨es, clk, heap_setBlock_eq hb, ?_, kdel_nodup hn k, hbn, hlt⟩, chg_setBlock _ _ _⟩
    rw [kdel_none (findIdx_none.1 hf)]; exact he
  | some j =>
    rw [hf] at hfk
    obtain ⟨e, p, h1, h2, h3, h4, h5⟩ := find_key_at he hf
    have hj : j < es.toList.length := (List.getElem?_eq_some_iff.1 h1).1
    have hl : (es.eraseIdxIfInBounds j).toList = es.toList.eraseIdx j := by
      simp only [Array.length_toList] at hj
      simp [Array.eraseIdxIfInBounds, hj]
    refine ⟨ChangeMaps.setBlock w b (.map (es.eraseIdxIfInBounds j) clk), by simp [hfk, h2, hrun], ⟨_, clk, heap_setBlock_eq hb, ?_, kdel_nodup hn k, ?_, ?_⟩, chg_setBlock _ _ _⟩
    · rw [hl]; exact erase_pair he hn hf
    · rw [hl]; exact List.Sublist.nodup (List.Sublist.map _ (List.eraseIdx_sublist _ _)) hbn
    · rw [hl]; exact fun e he => hlt e ((List.eraseIdx_sublist _ _).subset he)

theorem run_len_kmap {t et kt' : TypeId} (ht : P.underlying t = some (.map kt' et)) (h : KMap enc w b L) (ty : TypeId) (ats : Array TypeId) (hat : ats[0]? = some t) :
    (Builtin.len_ ats ty #[.map (some b)]).run P w = .ok (goInt L.length) w := by
  obtain ⟨es, clk, hb, he, _⟩ := h
  have hl : es.size = L.length := by simpa using congrArg List.length he
  simp [Builtin.len_, hat, run_underlying ht, Result.andThen, getObj, Sem.run, hb, hl]

theorem run_mapEntry_kmap (E : KeyEnc P kt K) {t et : TypeId} (ht : P.underlying t = some (.map kt et)) {z : Value} (hz : ∀ w, (zeroValue et).run P w = .ok z w) (h : KMap E.enc w b L) (k : K) :
    ∃ (w' : World) (s : Nat), (Instr.mapEntry t (.map (some b)) (E.enc k)).run P w = .ok (.tuple #[(kget L k).getD z, goInt s]) w' ∧ Chg (fun j => j = b) w w' ∧ KMap E.enc w' b (kset L k ((kget L k).getD z)) ∧
      ∀ (w1 : World) (v : Value) (ty : TypeId), w1.heap[b]? = w'.heap[b]? → ∃ w2, (Instr.entryStore ty (.map (some b)) (goInt s) v).run P w1 = .ok () w2 ∧ KMap E.enc w2 b (kset L k v) ∧ Chg (fun j => j = b) w1 w2 := by
  obtain ⟨es, clk, hb, he, hn, hbn, hlt⟩ := h
  have hfk := run_findKey_kmap E k es.toList w he
  have hrun : ∀ o, (setObj b o).run P w = .ok () (ChangeMaps.setBlock w b o) := fun o => by simp [setObj, Sem.run, hb, ChangeMaps.setBlock]
  rw [← findIdx_get]
  simp only [Instr.mapEntry, Sem.run_bind, run_underlying ht, Result.andThen, getObj, Sem.run, hb, E.chk]
  have hstore : ∀ (es' : Array MapEntry) (clk' s : Nat) (j : Nat) (w1 : World) (v : Value) (ty : TypeId), w1.heap[b]? = some (.map es' clk') → es'.findIdx? (fun e => (e.born : Int) == s) = some j →
      (Instr.entryStore ty (.map (some b)) (goInt s) v).run P w1 = .ok () (ChangeMaps.setBlock w1 b (.map (es'.modify j fun e => { e with val := v }) clk')) := by
    intro es' clk' s j w1 v ty h1 h2
    simp [Instr.entryStore, getObj, Sem.run, h1, Result.andThen, goInt, asInt, asIntOf, h2, setObj, ChangeMaps.setBlock]
  cases hf : L.findIdx? (fun p => decide (p.1 = k)) with
  | none =>
    rw [hf] at hfk
    have hk := findIdx_none.1 hf
    have hkm : KMap E.enc (ChangeMaps.setBlock w b (.map (es.push { key := E.enc k, val := z, born := clk }) (clk + 1))) b (kset L k z) := by
      refine ⟨_, _, heap_setBlock_eq hb, ?_, kset_nodup hn k z, ?_⟩
      · rw [kset, if_neg hk]; simp [he]
      · simpa using born_nodup_snoc hbn hlt { key := E.enc k, val := z, born := clk } rfl
    refine ⟨_, clk, ?_, chg_setBlock _ _ _, by simpa using hkm, ?_⟩
    · simp only [hfk, Option.bind_none, Sem.run_bind, hz, hrun, Result.andThen, Sem.run_pure]
      rfl
    · intro w1 v ty h1
      rw [heap_setBlock_eq hb] at h1
      have hidx : (es.push { key := E.enc k, val := z, born := clk }).findIdx? (fun e => (e.born : Int) == clk) = some es.size := by
        refine findIdx_arr (e := { key := E.enc k, val := z, born := clk }) (by simp) (by simp) fun i hi x hx => ?_
        have hx' : es.toList[i]? = some x := by
          rw [Array.toList_push, List.getElem?_append_left (by simpa using hi)] at hx
          exact hx
        have := hlt x (List.mem_of_getElem? hx')
        simp; omega
      refine ⟨_, hstore _ _ _ _ _ _ _ h1 hidx, ⟨_, _, heap_setBlock_eq h1, ?_, kset_nodup hn k v, ?_⟩, chg_setBlock _ _ _⟩
      · rw [kset, if_neg hk]
        have : (es.push { key := E.enc k, val := z, born := clk }).modify es.size (fun e => { e with val := v }) = es.push { key := E.enc k, val := v, born := clk } := by
          apply Array.ext'
          simp only [Array.toList_modify, Array.toList_push]
          apply List.ext_getElem?
          intro i
          rw [List.getElem?_modify]
          rcases Nat.lt_trichotomy i es.size with h | h | h
          · rw [List.getElem?_append_left (by simpa using h), List.getElem?_append_left (by simpa using h)]
            simp [Nat.ne_of_gt h]
          · subst h
            rw [List.getElem?_append_right (by simp), List.getElem?_append_right (by simp)]
            simp
          · rw [List.getElem?_append_right (by simp; omega), List.getElem?_append_right (by simp; omega)]
            rw [List.getElem?_eq_none (by simp; omega), List.getElem?_eq_none (by simp; omega)]
            simp
        rw [this]; simp [he]
      · rw [Array.toList_modify, born_modify _ _ (fun e => { e with val := v }) (fun _ => rfl)]
        have hs := born_nodup_snoc hbn hlt { key := E.enc k, val := z, born := clk } rfl
        refine ⟨by simpa using hs.1, fun x hx => ?_⟩
        have : x.born ∈ ((es.push { key := E.enc k, val := z, born := clk }).toList.modify es.size fun e => { e with val := v }).map (·.born) := List.mem_map_of_mem hx
        rw [born_modify _ _ (fun e => { e with val := v }) (fun _ => rfl)] at this
        obtain ⟨y, hy, hyx⟩ := List.mem_map.1 this
        rw [← hyx]; exact hs.2 y (by simpa using hy)
  | some j =>
    rw [hf] at hfk
    obtain ⟨e, p, h1, h2, h3, h4, h5⟩ := find_key_at he hf
    have h1' : es[j]? = some e := by rw [← Array.getElem?_toList]; exact h1
    have hkin : k ∈ L.map (·.1) := by rw [← h3]; exact List.mem_map_of_mem (List.mem_of_getElem? h2)
    have hes : es.modify j (fun e => { e with key := E.enc k }) = es := by
      apply Array.ext'
      rw [Array.toList_modify]
      exact modify_self h1 (by cases e; simp at h4; simp [h4])
    have hkget : kset L k p.2 = L := by
      rw [kset, if_pos hkin]
      conv => rhs; rw [← List.map_id L]
      apply List.map_congr_left
      intro q hq
      by_cases hqk : q.1 = k
      · have : q = p := uniq_key hn hq (List.mem_of_getElem? h2) (hqk.trans h3.symm)
        subst this
        simp [← hqk]
      · simp [hqk]
    refine ⟨ChangeMaps.setBlock w b (.map es clk), e.born, ?_, chg_setBlock _ _ _, ?_, ?_⟩
    · simp only [hfk, Option.bind_some, h2, Option.map_some, h1', Option.getD_some, h4, keyStays, Sem.run_bind, Sem.run_pure, Result.andThen, hrun, hes]
    · simp only [Option.bind_some, h2, Option.map_some, Option.getD_some, hkget]
      exact ⟨es, clk, heap_setBlock_eq hb, he, hn, hbn, hlt⟩
    · intro w1 v ty hw1
      rw [heap_setBlock_eq hb] at hw1
      have hidx : es.findIdx? (fun x => (x.born : Int) == e.born) = some j := by
        refine findIdx_arr h1 (by simp) fun i hi x hx => ?_
        by_cases hxe : x.born = e.born
        · have := filter_erase hbn h1
          obtain ⟨l1, e1⟩ := List.getElem?_eq_some_iff.1 h1
          obtain ⟨l2, e2⟩ := List.getElem?_eq_some_iff.1 hx
          have hpw : es.toList.Pairwise (fun a b => a.born ≠ b.born) := by rw [List.Nodup, List.pairwise_map] at hbn; exact hbn
          rw [List.pairwise_iff_getElem] at hpw
          have := hpw i j l2 l1 hi
          rw [e1, e2] at this
          exact absurd hxe this
        · simp; omega
      refine ⟨_, hstore _ _ _ _ _ _ _ hw1 hidx, ⟨_, _, heap_setBlock_eq hw1, ?_, kset_nodup hn k v, ?_⟩, chg_setBlock _ _ _⟩
      · rw [kset, if_pos hkin]
        have hmod : es.modify j (fun x => { x with val := v }) = es.modify j (fun x => { x with key := E.enc k, val := v }) := by
          apply Array.ext'
          rw [Array.toList_modify, Array.toList_modify]
          exact modify_congr h1 (by simp [h4])
        rw [hmod, Array.toList_modify]
        exact map_modify_pair (enc := E.enc) (k := k) (v := v) (f := fun e => { e with key := E.enc k, val := v }) (fun e => ⟨rfl, rfl⟩) he hn hf
      · rw [Array.toList_modify, born_modify _ _ (fun e => { e with val := v }) (fun _ => rfl)]
        refine ⟨hbn, fun x hx => ?_⟩
        have : x.born ∈ (es.toList.modify j fun e => { e with val := v }).map (·.born) := List.mem_map_of_mem hx
        rw [born_modify _ _ (fun e => { e with val := v }) (fun _ => rfl)] at this
        obtain ⟨y, hy, hyx⟩ := List.mem_map.1 this
        rw [← hyx]; exact hlt y hy

def MIter (enc : K → Value) (w : World) (r b : Nat) (L rem : List (K × Value)) : Prop :=
  ∃ es clk since seen c0, w.heap[b]? = some (.map es clk) ∧ es.toList.map (fun e => (e.key, e.val)) = L.map (fun p => (enc p.1, p.2)) ∧ (L.map (·.1)).Nodup ∧ (es.toList.map (·.born)).Nodup ∧ (∀ e ∈ es.toList, e.born < since) ∧ since ≤ c0 ∧ since ≤ clk ∧
    w.heap[r]? = some (.mapIter (some b) since seen c0) ∧ (es.toList.filter fun e => !seen.contains e.born).map (fun e => (e.key, e.val)) = rem.map (fun p => (enc p.1, p.2)) ∧ rem.Sublist L

variable {r : Nat} {rem : List (K × Value)}
theorem MIter.keep (h : MIter enc w r b L rem) (hb : w'.heap[b]? = w.heap[b]?) (hr : w'.heap[r]? = w.heap[r]?) : MIter enc w' r b L rem := by
  obtain ⟨es, clk, since, seen, c0, h1, h2, h3, h4, h5, h6, h7, h8, h9⟩ := h
  exact ⟨es, clk, since, seen, c0, hb.trans h1, h2, h3, h4, h5, h6, h7, hr.trans h8, h9⟩
theorem MIter.ltb (h : MIter enc w r b L rem) : b < w.heap.size := by
  obtain ⟨es, clk, since, seen, c0, h1, _⟩ := h; exact lt_of_heap h1
theorem MIter.ltr (h : MIter enc w r b L rem) : r < w.heap.size := by
  obtain ⟨es, clk, since, seen, c0, h1, h2, h3, h4, h5, h6, h7, h8, h9⟩ := h; exact lt_of_heap h8
theorem MIter.chg {F : Nat → Prop} (h : MIter enc w r b L rem) (hc : Chg F w w') (hb : ¬ F b) (hr : ¬ F r) : MIter enc w' r b L rem := h.keep (hc.block b h.ltb hb) (hc.block r h.ltr hr)
theorem MIter.map (h : MIter enc w r b L rem) : KMap enc w b L := by
  obtain ⟨es, clk, since, seen, c0, h1, h2, h3, h4, h5, h6, h7, h8, h9⟩ := h
  exact ⟨es, clk, h1, h2, h3, h4, fun e he => Nat.lt_of_lt_of_le (h5 e he) h7⟩
theorem MIter.sub (h : MIter enc w r b L rem) : rem.Sublist L := by
  obtain ⟨es, clk, since, seen, c0, h1, h2, h3, h4, h5, h6, h7, h8, h9, h10⟩ := h; exact h10

theorem run_range_kmap {t et kt' : TypeId} (ht : P.underlying t = some (.map kt' et)) (h : KMap enc w b L) : ∃ o, (Instr.range t (.map (some b))).run P w = .ok (.pointer (some ⟨w.heap.size, 0, none⟩)) (w.alloc o) ∧ MIter enc (w.alloc o) w.heap.size b L L := by
  have hlt := h.lt
  obtain ⟨es, clk, hb, he, hn, hbn, hl⟩ := h
  refine ⟨.mapIter (some b) clk #[] clk, ?_, es, clk, clk, #[], clk, ?_, he, hn, hbn, hl, Nat.le_refl _, Nat.le_refl _, (MapKept.heap_alloc w _).1, by rw [List.filter_eq_self.2 (fun _ _ => by simp)]; exact he, List.Sublist.refl _⟩
  · simp [Instr.range, run_underlying ht, Result.andThen, getObj, Sem.run, hb, newObj]
  · exact (Below.heap_alloc w _ b hlt).trans hb

theorem run_next_kmap (h : MIter enc w r b L rem) (ty : TypeId) :
    (rem = [] ∧ (Instr.next (.pointer (some ⟨r, 0, none⟩)) false ty).run P w = .ok (.tuple #[.bool false]) w) ∨
    ∃ p ∈ rem, ∃ w', (Instr.next (.pointer (some ⟨r, 0, none⟩)) false ty).run P w = .ok (.tuple #[.bool true, enc p.1, p.2]) w' ∧ MIter enc w' r b L (kdel rem p.1) ∧ Chg (fun j => j = r) w w' ∧ w'.heap.size = w.heap.size ∧
      (Instr.entry (.pointer (some ⟨r, 0, none⟩))).run P w' = .ok (.tuple #[enc p.1, p.2]) w' := by
  obtain ⟨es, clk, since, seen, c0, h1, h2, h3, h4, h5, h6, h7, h8, h9, h10⟩ := h
  have hne : b ≠ r := fun e => by rw [e, h8] at h1; cases h1
  have hleft : (leftOf es seen).toList = es.toList.filter fun e => !seen.contains e.born := by simp [leftOf]
  rcases run_next_at (P := P) w ty r b since c0 seen es clk h8 h1 h5 h6 with ⟨h0, hrun⟩ | ⟨e, he, w1, hw1, hrun⟩
  · left
    have : (leftOf es seen).toList = [] := List.eq_nil_of_length_eq_zero (by simpa using h0)
    rw [hleft] at this
    rw [this] at h9
    exact ⟨by cases rem with | nil => rfl | cons a r => simp at h9, hrun⟩
  · right
    rw [hleft] at he
    have hrn : (rem.map (·.1)).Nodup := List.Sublist.nodup (h10.map _) h3
    obtain ⟨j, hj⟩ := List.mem_iff_getElem?.1 he
    have hjm := congrArg (fun l => l[j]?) h9
    simp only [List.getElem?_map, hj, Option.map_some] at hjm
    cases hp : rem[j]? with
    | none => rw [hp] at hjm; cases hjm
    | some p =>
      rw [hp] at hjm
      simp only [Option.map_some, Option.some.injEq, Prod.mk.injEq] at hjm
      have hw1h : w1.heap = w.heap := by rcases hw1 with rfl | rfl <;> rfl
      have hr1 : w1.heap[r]? = some (.mapIter (some b) since seen c0) := by rw [hw1h]; exact h8
      have hb' : (ChangeMaps.setBlock w1 r (.mapIter (some b) since (seen.push e.born) clk)).heap[b]? = some (.map es clk) := by
        simp only [ChangeMaps.setBlock, Array.getElem?_setIfInBounds]
        rw [if_neg (fun e => hne e.symm), hw1h, h1]
      have hes : e ∈ es.toList := (List.mem_filter.1 he).1
      refine ⟨p, List.mem_of_getElem? hp, _, by rw [hrun, hjm.1, hjm.2], ⟨es, clk, since, seen.push e.born, clk, hb', h2, h3, h4, h5, h7, h7, heap_setBlock_eq hr1, ?_, ?_⟩, ?_, by simp [ChangeMaps.setBlock, hw1h], ?_⟩
      · -- what is left
        have hf : (es.toList.filter fun x => !(seen.push e.born).contains x.born) = (es.toList.filter fun x => !seen.contains x.born).filter (fun x => !decide (x.born = e.born)) := by
          rw [List.filter_filter]
          apply List.filter_congr
          intro x _
          by_cases hx : x.born = e.born <;> simp [hx, Array.contains_push, Bool.and_comm]
        have hbl : ((es.toList.filter fun x => !seen.contains x.born).map (·.born)).Nodup := List.Sublist.nodup (List.Sublist.map _ List.filter_sublist) h4
        rw [hf, filter_erase (f := fun x : MapEntry => x.born) hbl hj, map_eraseIdx', h9]
        unfold kdel
        rw [filter_erase (f := fun x : K × Value => x.1) hrn hp, map_eraseIdx']
      · exact List.filter_sublist.trans h10
      · have := chg_setBlock w1 r (.mapIter (some b) since (seen.push e.born) clk)
        rcases hw1 with rfl | rfl
        · exact this
        · exact ((Chg.refl (fun j => j = r) w).drew).trans this (fun _ _ h => h)
      · have hrr := heap_setBlock_eq (o' := .mapIter (some b) since (seen.push e.born) clk) hr1
        rw [run_entry_at _ r b since seen es clk e hrr hb' hes h4, hjm.1, hjm.2]
end
end Go.Proofs.YtooigfkjdemnlaaGreatDoor

namespace Go.Proofs.YtooigfkjdemnlaaGreatDoor
def addE (l : List Edge) (f t k : Int) (s : ByteArray) : List Edge := if f = t then l else l ++ [⟨f, t, k, s⟩]
theorem addE_len (l : List Edge) (f t k : Int) (s : ByteArray) : (addE l f t k s).length ≤ l.length + 1 := by
  unfold addE
  split
  · omega
  · simp
def wwE (k : ByteArray) (o : List Inst) (l : List Edge) : Nat → List Edge
  | 0 => l
  | j + 1 => match j, o[j]? with
    | i + 1, some v => match o[i]? with
      | some u => addE (wwE k o l j) u.txn v.txn 1 k
      | none => wwE k o l j
    | _, _ => wwE k o l j
def wwAll (h : List HTx) : Nat → List Edge
  | 0 => []
  | m + 1 => match (keysOf h)[m]? with
    | some k => wwE k (order h k) (wwAll h m) (order h k).length
    | none => wwAll h m
def itemE (h : List HTx) (t : Nat) (v : HVer) (l : List Edge) : List Edge :=
  if v.frm = t ∨ com h v.frm.toNat = false then l
  else match (order h v.key)[(standing h v + 1).toNat]? with
    | some u => if 0 ≤ standing h v then addE (addE l v.frm t 2 v.key) t u.txn 4 v.key else addE l v.frm t 2 v.key
    | none => addE l v.frm t 2 v.key
def turnAt (o : List Inst) (i : Nat) : Bool := match o[i]? with
  | some v => v.dead != (match i with | 0 => true | k + 1 => match o[k]? with | some u => u.dead | none => true)
  | none => false
def downTurn (o : List Inst) : Nat → Option Nat
  | 0 => none
  | k + 1 => if turnAt o k = true then some k else downTurn o k
def upTurn (o : List Inst) (n : Nat) : Nat → Option Nat
  | 0 => none
  | m + 1 => if turnAt o n = true then some n else upTurn o (n + 1) m
def scanN (h : List HTx) (t : Nat) (o : HOpr) (k : ByteArray) : Nat := match tellsAt o k with
  | some v => (standing h v + 1).toNat
  | none => chosen h t k o.at_
def edgeAt (ord : List Inst) (p : Option Nat) (mk : Inst → List Edge) (l : List Edge) : List Edge := match p with
  | some i => match ord[i]? with
    | some u => mk u
    | none => l
  | none => l
def scanDown (h : List HTx) (t : Nat) (n : Nat) (k : ByteArray) (l : List Edge) : List Edge := edgeAt (order h k) (downTurn (order h k) n) (fun u => addE l u.txn t 3 k) l
def scanUp (h : List HTx) (t : Nat) (n : Nat) (k : ByteArray) (l : List Edge) : List Edge := edgeAt (order h k) (upTurn (order h k) n ((order h k).length - n)) (fun u => addE l t u.txn 5 k) l
def scanE (h : List HTx) (t : Nat) (o : HOpr) (k : ByteArray) (l : List Edge) : List Edge :=
  if (tellsAt o k).isSome = true ∧ scanN h t o k = 0 then l else scanUp h t (scanN h t o k) k (scanDown h t (scanN h t o k) k l)
def seenE (h : List HTx) (t : Nat) (o : HOpr) (l : List Edge) : Nat → List Edge
  | 0 => l
  | j + 1 => match o.seen[j]? with
    | some v => itemE h t v (seenE h t o l j)
    | none => seenE h t o l j
def keysE (h : List HTx) (t : Nat) (x : HTx) (i : Nat) (o : HOpr) (l : List Edge) : Nat → List Edge
  | 0 => l
  | m + 1 => match (keysOf h)[m]? with
    | some k => if (aheadL x k i).length = 0 ∧ covers o k = true then scanE h t o k (keysE h t x i o l m) else keysE h t x i o l m
    | none => keysE h t x i o l m
def opE (h : List HTx) (t : Nat) (x : HTx) (i : Nat) (o : HOpr) (l : List Edge) : List Edge :=
  if o.kind = 1 then itemE h t o.ver l
  else if o.kind = 3 then keysE h t x i o (seenE h t o l o.seen.length) (keysOf h).length
  else l
def opsE (h : List HTx) (t : Nat) (x : HTx) (l : List Edge) : Nat → List Edge
  | 0 => l
  | j + 1 => match x.ops[j]? with
    | some o => opE h t x j o (opsE h t x l j)
    | none => opsE h t x l j
def txsE (h : List HTx) : Nat → List Edge
  | 0 => wwAll h (keysOf h).length
  | t + 1 => match h[t]? with
    | some x => if com h t = true then opsE h t x (txsE h t) x.ops.length else txsE h t
    | none => txsE h t
end Go.Proofs.YtooigfkjdemnlaaGreatDoor

namespace Go.Proofs.YtooigfkjdemnlaaGreatDoor

theorem wrFrom_append (a b : List HOpr) (k : ByteArray) : ∀ i, wrFrom (a ++ b) k i = wrFrom a k i ++ wrFrom b k (i + a.length) := by
  induction a with
  | nil => intro i; simp [wrFrom]
  | cons o r ih =>
    intro i
    simp only [List.cons_append, wrFrom, ih, List.length_cons]
    rw [show i + 1 + r.length = i + (r.length + 1) by omega]
    split <;> simp
def wrUpto (x : HTx) (j : Nat) (k : ByteArray) : List Wrote := wrFrom (x.ops.take j) k 0
theorem wrUpto_zero (x : HTx) : wrUpto x 0 = fun _ => [] := by funext k; simp [wrUpto, wrFrom]
theorem wrUpto_succ {x : HTx} {j : Nat} {o : HOpr} (h : x.ops[j]? = some o) (k : ByteArray) : wrUpto x (j + 1) k = if k = o.ver.key ∧ o.kind = 2 then wrUpto x j k ++ [⟨j, o.dead, o.value⟩] else wrUpto x j k := by
  have hj : j < x.ops.length := (List.getElem?_eq_some_iff.1 h).1
  unfold wrUpto
  rw [List.take_add_one, h, wrFrom_append]
  simp only [Option.toList_some, wrFrom, List.length_take, Nat.zero_add, Nat.min_eq_left (Nat.le_of_lt hj)]
  by_cases h1 : k = o.ver.key ∧ o.kind = 2
  · rw [if_pos h1, if_pos ⟨h1.2, h1.1.symm⟩]
  · rw [if_neg h1, if_neg (fun e => h1 ⟨e.2.symm, e.1⟩)]; simp
theorem wrUpto_all (x : HTx) : wrUpto x x.ops.length = writes x := by funext k; simp [wrUpto, writes]
theorem wrUpto_len (x : HTx) (j : Nat) (k : ByteArray) : (wrUpto x j k).length ≤ j := by
  unfold wrUpto
  have : ∀ (l : List HOpr) (i : Nat), (wrFrom l k i).length ≤ l.length := by
    intro l
    induction l with
    | nil => intro i; simp [wrFrom]
    | cons o r ih =>
      intro i
      simp only [wrFrom, List.length_cons]
      have := ih (i + 1)
      split
      · simp only [List.length_cons]; omega
      · omega
  have h := this (x.ops.take j) 0
  rw [List.length_take] at h
  omega
theorem insFrom_append (a b : List HTx) (k : ByteArray) : ∀ i, insFrom (a ++ b) k i = insFrom a k i ++ insFrom b k (i + a.length) := by
  induction a with
  | nil => intro i; simp [insFrom]
  | cons x r ih =>
    intro i
    simp only [List.cons_append, insFrom, ih, List.length_cons]
    rw [show i + 1 + r.length = i + (r.length + 1) by omega]
    split <;> simp
def insUpto (h : List HTx) (t : Nat) (k : ByteArray) : List Inst := insFrom (h.take t) k 0
def insOne (t : Nat) (x : HTx) (k : ByteArray) : List Inst := match x.fate == 1, (writes x k).getLast? with
  | true, some u => [⟨t, x.fin, u.dead⟩]
  | _, _ => []
theorem insUpto_zero (h : List HTx) : insUpto h 0 = fun _ => [] := by funext k; simp [insUpto, insFrom]
theorem insUpto_succ {h : List HTx} {t : Nat} {x : HTx} (hx : h[t]? = some x) (k : ByteArray) : insUpto h (t + 1) k = insUpto h t k ++ insOne t x k := by
  have ht : t < h.length := (List.getElem?_eq_some_iff.1 hx).1
  unfold insUpto insOne
  rw [List.take_add_one, hx, insFrom_append]
  simp only [Option.toList_some, insFrom, List.length_take, Nat.zero_add, Nat.min_eq_left (Nat.le_of_lt ht)]
  split <;> simp_all
theorem insUpto_all (h : List HTx) (k : ByteArray) : insUpto h h.length k = insFrom h k 0 := by simp [insUpto]
theorem insFrom_txn (l : List HTx) (k : ByteArray) : ∀ i, ((insFrom l k i).map (·.txn)).Pairwise (· < ·) ∧ ∀ t ∈ (insFrom l k i).map (·.txn), i ≤ t := by
  induction l with
  | nil => intro i; simp [insFrom]
  | cons x r ih =>
    intro i
    obtain ⟨h1, h2⟩ := ih (i + 1)
    simp only [insFrom]
    split
    · simp only [List.map_cons, List.pairwise_cons]
      refine ⟨⟨fun t ht => ?_, h1⟩, fun t ht => ?_⟩
      · have := h2 t ht; omega
      · rcases List.mem_cons.1 ht with rfl | h3
        · omega
        · have := h2 t h3; omega
    · exact ⟨h1, fun t ht => by have := h2 t ht; omega⟩
theorem insFrom_nodup (h : List HTx) (k : ByteArray) : ((insFrom h k 0).map (·.txn)).Nodup := by
  have := (insFrom_txn h k 0).1
  exact this.imp (fun hab => by omega)
theorem insFrom_len (l : List HTx) (k : ByteArray) : ∀ i, (insFrom l k i).length ≤ l.length := by
  induction l with
  | nil => intro i; simp [insFrom]
  | cons x r ih =>
    intro i
    simp only [insFrom, List.length_cons]
    have := ih (i + 1)
    split
    · simp only [List.length_cons]; omega
    · omega
theorem insUpto_len (h : List HTx) (t : Nat) (k : ByteArray) : (insUpto h t k).length ≤ t := by
  have := insFrom_len (h.take t) k 0
  rw [List.length_take] at this
  unfold insUpto
  omega
theorem insOne_nil {t : Nat} {x : HTx} {k : ByteArray} (h : writes x k = []) : insOne t x k = [] := by
  unfold insOne; rw [h]; simp
theorem insOne_com {t : Nat} {x : HTx} {k : ByteArray} (hf : x.fate ≠ 1) : insOne t x k = [] := by
  unfold insOne
  have : (x.fate == 1) = false := by simp [hf]
  rw [this]
theorem insOne_last {t : Nat} {x : HTx} {k : ByteArray} {u : Wrote} (hf : x.fate = 1) (h : (writes x k).getLast? = some u) : insOne t x k = [⟨t, x.fin, u.dead⟩] := by
  unfold insOne
  have : (x.fate == 1) = true := by simp [hf]
  rw [this, h]
end Go.Proofs.YtooigfkjdemnlaaGreatDoor
