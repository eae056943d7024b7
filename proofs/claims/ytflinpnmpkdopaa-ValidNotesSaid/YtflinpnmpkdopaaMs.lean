/- A map as the set of its keys; its elements are integers. No program in sight. -/
import Derived.Test.YtflinpnmpkdopaaChg
import Derived.Maps.OwnSet
namespace Go.Proofs.Ytflinpnmpkdopaa
set_option linter.unusedVariables false
set_option linter.unusedSimpArgs false
open Go.RowKit Go.Maps Go.ChangeMaps

/-- m is nil or a map of integer elements whose keys are just ks, none twice. -/
def MapSet (P : Program) (k e : TypeId) (w : World) (m : Option Nat) (ks : List Lit) : Prop :=
  (m = none ∧ ks = []) ∨ ∃ (b : Nat) (D : DataW Unit), m = some b ∧ w.ownsMap P k (plainElem P e) b ks.length D ∧ (∀ kl, WideAt.IsKeyLit kl → (Maps.has D kl = true ↔ kl ∈ ks))

section
variable {P : Program} {k e : TypeId} {w w' : World} {m : Option Nat} {ks : List Lit}

theorem ownsMap_exact {R : Value → Option (DataW Unit × List MemPlace)} {b n : Nat} {D : DataW Unit} (h : w.ownsMap P k R b n D) : w.ownsMap P k R b (Maps.size D) D := by
  obtain ⟨es, clock, h1, h2, hs, rfl⟩ := h
  exact ⟨es, clock, h1, h2, by simp [Maps.size, length_sorted], rfl⟩
theorem ownsMap_heap {R : Value → Option (DataW Unit × List MemPlace)} {b n : Nat} {D : DataW Unit} (h : w.ownsMap P k R b n D) (hb : w'.heap[b]? = w.heap[b]?) : w'.ownsMap P k R b n D := by
  obtain ⟨es, clock, h1, h2⟩ := h
  exact ⟨es, clock, hb.trans h1, h2⟩
theorem ownsMap_obj {R : Value → Option (DataW Unit × List MemPlace)} {b n : Nat} {D : DataW Unit} (h : w.ownsMap P k R b n D) : ∃ es c, w.heap[b]? = some (.map es c) := by
  obtain ⟨es, clock, h1, h2⟩ := h
  exact ⟨es, clock, h1⟩
theorem chg_turned {b : Nat} (h : w.mapTurned w' b) : Chg (fun j => j = b) w w' := by
  obtain ⟨es, clock, es', clock', hb, rfl⟩ := h
  exact ⟨rfl, rfl, rfl, by simp [setBlock], fun j hj hn => by
    simp only [setBlock, Array.getElem?_setIfInBounds]
    rw [if_neg (fun e => hn e.symm)]⟩

theorem MapSet.nil (w : World) : MapSet P k e w none [] := .inl ⟨rfl, rfl⟩
theorem MapSet.keep (h : MapSet P k e w m ks) (hk : ∀ b, m = some b → w'.heap[b]? = w.heap[b]?) : MapSet P k e w' m ks :=
  h.imp id fun ⟨b, D, hm, ho, hh⟩ => ⟨b, D, hm, ownsMap_heap ho (hk b hm), hh⟩
theorem MapSet.lt (h : MapSet P k e w m ks) {b : Nat} (hb : m = some b) : b < w.heap.size ∧ ∃ es c, w.heap[b]? = some (.map es c) := by
  rcases h with ⟨h, _⟩ | ⟨b', D, hm, ho, _⟩
  · rw [h] at hb; cases hb
  · rw [hm] at hb; cases hb
    obtain ⟨es, c, hh⟩ := ownsMap_obj ho
    exact ⟨lt_of_heap hh, es, c, hh⟩
theorem MapSet.made (w : World) : MapSet P k e (w.alloc (.map #[] 0)) (some w.heap.size) [] :=
  .inr ⟨w.heap.size, .map [], rfl, World.ownsMap_made w P k _, fun kl _ => by simp [Maps.has]⟩

/-- 'v, ok := m[x]': a look-up. -/
theorem MapSet.look (h : MapSet P k e w m ks) (K : Keyed P k) {t : TypeId} (ht : P.underlying t = some (.map k e)) (he : P.underlying e = some (.int .i64)) (hz : (zeroValue e).run P w = .ok (.int .i64 0) w) {key : Value} {kl : Lit} (hkey : keyOf P k key = some kl) :
    ∃ (c : Int) (B : Bool), (Instr.lookup t (.map m) key true).run P w = .ok (.tuple #[.int .i64 c, .bool B]) w ∧ (B = true ↔ kl ∈ ks) := by
  rcases h with ⟨rfl, rfl⟩ | ⟨b, D, rfl, ho, hh⟩
  · exact ⟨0, false, look_nil (w := w) true K ht hz hkey, by simp⟩
  · obtain ⟨v, ps, hrun, hv⟩ := ho.look_ok K ht hz (plainElem_int (H := Unit) he (by decide)) hkey
    obtain ⟨c, rfl, _, _⟩ := plainElem_int_inv he hv
    exact ⟨c, _, hrun, hh kl (K.key hkey)⟩
/-- 'm[x] = v', x new. -/
theorem MapSet.store {b : Nat} (h : MapSet P k e w (some b) ks) (K : Keyed P k) {t : TypeId} (ht : P.underlying t = some (.map k e)) (he : P.underlying e = some (.int .i64)) {key : Value} {kl : Lit} (hkey : keyOf P k key = some kl) {c : Int} (hc : (Lit.int .i64 c).wf = true)
    (hn : ks.length < maxLen) (hnew : kl ∉ ks) : ∃ w', (Instr.mapUpdate t (.map (some b)) key (.int .i64 c)).run P w = .ok () w' ∧ MapSet P k e w' (some b) (ks ++ [kl]) ∧ Chg (fun j => j = b) w w' := by
  rcases h with ⟨h, _⟩ | ⟨b', D, hb, ho, hh⟩
  · cases h
  · cases hb
    obtain ⟨w', hrun, ho', ht'⟩ := ho.store K ht hn hkey (plainElem_int (H := Unit) he hc)
    refine ⟨w', hrun, .inr ⟨b, _, rfl, by simpa using ho', fun kl' hk' => ?_⟩, chg_turned ht'⟩
    by_cases hne : kl' = kl
    · subst hne
      simp [has_put_same ho.isMap (K.key hkey)]
    · rw [has_put_other hne, hh kl' hk']
      simp [hne]
/-- 'delete(m, x)', x there. -/
theorem MapSet.drop {b : Nat} {l r : List Lit} {kl : Lit} (h : MapSet P k e w (some b) (l ++ kl :: r)) (K : Keyed P k) {t : TypeId} (ht : P.underlying t = some (.map k e)) {key : Value} (hkey : keyOf P k key = some kl) (hl : kl ∉ l) (hr : kl ∉ r) (ty : TypeId) :
    ∃ w', (Builtin.delete_ #[t, k] ty #[.map (some b), key]).run P w = .ok (.tuple #[]) w' ∧ MapSet P k e w' (some b) (l ++ r) ∧ Chg (fun j => j = b) w w' := by
  rcases h with ⟨h, _⟩ | ⟨b', D, hb, ho, hh⟩
  · cases h
  · cases hb
    obtain ⟨w', hrun, ho', ht'⟩ := ho.drop K ht hkey ty
    have hsz : Maps.size (D.del kl) ≤ (l ++ r).length := by
      have h1 := size_del (k := kl) (ho.tidy K)
      rw [if_pos ((hh kl (K.key hkey)).2 (by simp))] at h1
      have h2 := ho.size_le
      simp at h2 ⊢
      omega
    refine ⟨w', hrun, .inr ⟨b, _, rfl, (ownsMap_exact ho').mono hsz, fun kl' hk' => ?_⟩, chg_turned ht'⟩
    by_cases hne : kl' = kl
    · subst hne
      simp [has_del_same, hl, hr]
    · rw [has_del_other hne, hh kl' hk']
      simp [hne]

theorem wpList_mapUpdate_set {ops : Array Oper} {rest : List Oper} {o : Oper} {a : Act} {Q : Exit → Act → World → Prop} (hg : o.guard = none) (mo x v : Operand) (t : TypeId) (hop : o.op = Op.mapUpdate t mo x v) (K : Keyed P k) (ht : P.underlying t = some (.map k e)) (he : P.underlying e = some (.int .i64))
    (b : Nat) (hm : a.eval mo = .map (some b)) (hown : MapSet P k e w (some b) ks) (key : Value) (kl : Lit) (hx : a.eval x = key) (hkey : keyOf P k key = some kl) (c : Int) (hv : a.eval v = .int .i64 c) (hc : (Lit.int .i64 c).wf = true) (hn : ks.length < maxLen) (hnew : kl ∉ ks)
    (h : ∀ w', MapSet P k e w' (some b) (ks ++ [kl]) → Chg (fun j => j = b) w w' → wpList P ops Q rest (a.put o.dst undef) w') : wpList P ops Q (o :: rest) a w := by
  refine wpList_plain hg fun K' hK' => ?_
  obtain ⟨w', hrun, r1, r2⟩ := hown.store K ht he hkey hc hn hnew
  unfold Oper.wp
  simp [execOp, hop, hm, hx, hv, hrun, Result.andThen]
  exact hK' _ _ (h w' r1 r2)
theorem wpList_delete_set {ops : Array Oper} {rest : List Oper} {o : Oper} {a : Act} {Q : Exit → Act → World → Prop} (hg : o.guard = none) (mo x : Operand) (t : TypeId) (hop : o.op = Op.call { callee := Callee.builtin Builtin.delete, args := #[mo, x], argTypes := #[t, k] }) (K : Keyed P k) (ht : P.underlying t = some (.map k e))
    (b : Nat) (l r : List Lit) (kl : Lit) (hm : a.eval mo = .map (some b)) (hown : MapSet P k e w (some b) (l ++ kl :: r)) (key : Value) (hx : a.eval x = key) (hkey : keyOf P k key = some kl) (hl : kl ∉ l) (hr : kl ∉ r)
    (h : ∀ w', MapSet P k e w' (some b) (l ++ r) → Chg (fun j => j = b) w w' → wpList P ops Q rest (a.put o.dst (.tuple #[])) w') : wpList P ops Q (o :: rest) a w := by
  refine wpList_plain hg fun K' hK' => ?_
  obtain ⟨w', hrun, r1, r2⟩ := hown.drop K ht hkey hl hr o.type
  unfold Oper.wp
  simp [execOp, hop, resolve, invoke, builtin, hm, hx, hrun, Result.andThen]
  exact hK' _ _ (h w' r1 r2)
end
end Go.Proofs.Ytflinpnmpkdopaa
