/- What a set of what was seen is in memory; what it answers (has). -/
import Derived.Test.YtflinpnmpkdopaaMs
import Derived.Test.YtflinpnmpkdopaaSl
import Derived.Test.YtflinpnmpkdopaaFree8
import Derived.Test.YtflinpnmpkdopaaRows
import Derived.WalkKit
import Derived.WalkMore
import Derived.OwnWalk
import Derived.Maps.OwnOps
namespace Go.Proofs.Ytflinpnmpkdopaa
set_option linter.unusedVariables false
set_option linter.unusedSimpArgs false
open Go.RowKit Go.Maps Go.ChangeMaps Xw

theorem kInt : Keyed Try.prog 3 := int_keyed Try.underlying3
theorem laidOutP : laidOutB Try.prog = true := by kernel_rfl
theorem kRange : Keyed Try.prog 72 := Keyed.of_law (deep_law_laid laidOutP (m := 4) (by decide) (of_decide_eq_true (by kernel_rfl)) (by kernel_rfl) (by kernel_rfl))
theorem zInt (w : World) : (zeroValue 3).run Try.prog w = .ok (.int .i64 0) w := by kernel_rfl

abbrev Rng := ByteArray × ByteArray
/-- a range, as a map's key. -/
def rKey (r : Rng) : Lit := .string (keyBytes [.string r.1.data.toList, .string r.2.data.toList])
def rOk (r : Rng) : Prop := r.1.size ≤ maxLen ∧ r.2.size ≤ maxLen
theorem rKey_is {r : Rng} (h : rOk r) : keyOf Try.prog 72 (.agg #[.string r.1, .string r.2]) = some (rKey r) := by
  have hc : Try.prog.cellsOf 72 = 2 := by kernel_rfl
  have hs : Try.prog.cellsOf 9 = 1 := by kernel_rfl
  have hk : Try.prog.keyType 72 = true := by kernel_rfl
  obtain ⟨d, hd⟩ : ∃ d, Try.prog.types.size = d + 2 := ⟨_, (Nat.sub_add_cancel (of_decide_eq_true (by kernel_rfl))).symm⟩
  unfold keyOf
  rw [Try.underlying72]
  dsimp only
  have hf : Value.formed Try.prog 72 (.agg #[.string r.1, .string r.2]) = true := by simp [Value.formed, Try.underlying72, hc]
  have hone : ∀ s : ByteArray, s.size ≤ maxLen → Try.prog.keyLits (d + 2) 9 [.string s] = some [.string s.data.toList] := fun s hs => by
    simp [Program.keyLits, Try.underlying9, hs]
  have htwo : Try.prog.keyLits (d + 2 + 1) 72 [.string r.1, .string r.2] = some [.string r.1.data.toList, .string r.2.data.toList] := by
    rw [Program.keyLits.eq_def]
    simp [Try.underlying72, hc, hs, hone _ h.1, hone _ h.2]
  rw [hk, hf, hd]
  simp only [Bool.and_self, if_true, Value.cells]
  rw [htwo]
  rfl
def rCells (rs : List Rng) : List Value := rs.flatMap fun r => [.string r.1, .string r.2]
def iCells (l : List Int) : List Value := l.map (Value.int .i64)
def iKeys (l : List Int) : List Lit := l.map (Lit.int .i64)
def i64ok (x : Int) : Prop := (Lit.int .i64 x).wf = true

/-- The struct of a set lies in block sb and holds these four; versions l, ranges rs; all that belongs to it lies in F. -/
structure SeesIn (w : World) (sb : Nat) (l : List Int) (rs : List Rng) (F : Nat → Prop) (v1 : Value) (m1 : Option Nat) (v2 : Value) (m2 : Option Nat) : Prop where
  here : w.heap[sb]? = some (.cells #[v1, .map m1, v2, .map m2] 59 (0, 0))
  s1 : Sl w 3 1 v1 l.length (iCells l) (fun j => v1.ownBlock = some j)
  k1 : MapSet Try.prog 3 3 w m1 (iKeys l)
  n1 : l ≠ [] → m1 ≠ none
  s2 : Sl w 72 2 v2 rs.length (rCells rs) (fun j => v2.ownBlock = some j)
  k2 : MapSet Try.prog 72 3 w m2 (rs.map rKey)
  n2 : rs ≠ [] → m2 ≠ none
  ne : ∀ b, m1 = some b → m2 ≠ some b
  ok1 : ∀ x ∈ l, i64ok x
  ok2 : ∀ r ∈ rs, rOk r
  nd1 : l.Nodup
  nd2 : rs.Nodup
  f0 : F sb
  f1 : ∀ j, v1.ownBlock = some j → F j
  f2 : ∀ j, m1 = some j → F j
  f3 : ∀ j, v2.ownBlock = some j → F j
  f4 : ∀ j, m2 = some j → F j

def SeesAt (w : World) (sb : Nat) (l : List Int) (rs : List Rng) (F : Nat → Prop) : Prop :=
  l.length ≤ 64 ∧ rs.length ≤ 64 ∧ ∃ v1 m1 v2 m2, SeesIn w sb l rs F v1 m1 v2 m2

section
variable {w w' : World} {sb : Nat} {l : List Int} {rs : List Rng} {F G : Nat → Prop} {v1 : Value} {m1 : Option Nat} {v2 : Value} {m2 : Option Nat}
theorem SeesIn.keep (h : SeesIn w sb l rs F v1 m1 v2 m2) (hk : ∀ j, F j → j < w.heap.size → w'.heap[j]? = w.heap[j]?) : SeesIn w' sb l rs F v1 m1 v2 m2 :=
  { h with
    here := (hk sb h.f0 (lt_of_heap h.here)).trans h.here
    s1 := h.s1.keep fun j hj hF => hk j (h.f1 j hF) hj
    k1 := h.k1.keep fun b hb => hk b (h.f2 b hb) (h.k1.lt hb).1
    s2 := h.s2.keep fun j hj hF => hk j (h.f3 j hF) hj
    k2 := h.k2.keep fun b hb => hk b (h.f4 b hb) (h.k2.lt hb).1 }
theorem SeesIn.chg (h : SeesIn w sb l rs F v1 m1 v2 m2) (hc : Chg G w w') (hd : ∀ j, F j → ¬ G j) : SeesIn w' sb l rs F v1 m1 v2 m2 := h.keep fun j hj hl => hc.block j hl (hd j hj)
theorem SeesIn.mono (h : SeesIn w sb l rs F v1 m1 v2 m2) (hg : ∀ j, F j → G j) : SeesIn w sb l rs G v1 m1 v2 m2 :=
  { h with f0 := hg _ h.f0, f1 := fun j hj => hg j (h.f1 j hj), f2 := fun j hj => hg j (h.f2 j hj), f3 := fun j hj => hg j (h.f3 j hj), f4 := fun j hj => hg j (h.f4 j hj) }
theorem SeesIn.cell (h : SeesIn w sb l rs F v1 m1 v2 m2) : ∀ i, w.cell? ⟨sb, i, none⟩ = (#[v1, .map m1, v2, .map m2] : Array Value)[i]? := fun i => cell_of_row w sb i _ _ _ h.here
theorem SeesIn.free (h : SeesIn w sb l rs F v1 m1 v2 m2) : ∀ i, w.frozen? ⟨sb, i, none⟩ = false := fun i => by simp [World.frozen?, h.here]
theorem SeesAt.chg (h : SeesAt w sb l rs F) (hc : Chg G w w') (hd : ∀ j, F j → ¬ G j) : SeesAt w' sb l rs F :=
  ⟨h.1, h.2.1, let ⟨a, b, c, d, hh⟩ := h.2.2; ⟨a, b, c, d, hh.chg hc hd⟩⟩

/-- Where the blocks lie: the struct, the two rows and the two maps are five. -/
theorem SeesIn.sb_v1 (h : SeesIn w sb l rs F v1 m1 v2 m2) : v1.ownBlock ≠ some sb := by
  intro e
  rcases h.s1.2 with ⟨hv, _⟩ | ⟨g, off, cap, cur, rfl, _, hb, _⟩
  · rw [hv] at e; cases e
  · simp only [Value.ownBlock, Option.some.injEq] at e
    subst e
    rw [h.here] at hb
    cases hb
theorem SeesIn.sb_m1 (h : SeesIn w sb l rs F v1 m1 v2 m2) : m1 ≠ some sb := by
  intro e
  obtain ⟨_, es, c, hb⟩ := h.k1.lt e
  rw [h.here] at hb
  cases hb
theorem SeesIn.v1_m1 (h : SeesIn w sb l rs F v1 m1 v2 m2) {b : Nat} (hm : m1 = some b ∨ m2 = some b) : v1.ownBlock ≠ some b := by
  intro e
  rcases h.s1.2 with ⟨hv, _⟩ | ⟨g, off, cap, cur, rfl, _, hb, _⟩
  · rw [hv] at e; cases e
  · simp only [Value.ownBlock, Option.some.injEq] at e
    subst e
    rcases hm with hm | hm
    · obtain ⟨_, es, c, hb'⟩ := h.k1.lt hm
      rw [hb'] at hb; cases hb
    · obtain ⟨_, es, c, hb'⟩ := h.k2.lt hm
      rw [hb'] at hb; cases hb
theorem SeesIn.v1_v2 (h : SeesIn w sb l rs F v1 m1 v2 m2) {g : Nat} (h1 : v1.ownBlock = some g) : v2.ownBlock ≠ some g := by
  intro e
  rcases h.s1.2 with ⟨hv, _⟩ | ⟨g1, off, cap, cur, rfl, _, hb, _⟩
  · rw [hv] at h1; cases h1
  · rcases h.s2.2 with ⟨hv, _⟩ | ⟨g2, off, cap, cur, rfl, _, hb', _⟩
    · rw [hv] at e; cases e
    · simp only [Value.ownBlock, Option.some.injEq] at e h1
      subst e; subst h1
      rw [hb] at hb'
      cases hb'
theorem SeesIn.v2_m (h : SeesIn w sb l rs F v1 m1 v2 m2) {b : Nat} (hm : m1 = some b ∨ m2 = some b) : v2.ownBlock ≠ some b := by
  intro e
  rcases h.s2.2 with ⟨hv, _⟩ | ⟨g, off, cap, cur, rfl, _, hb, _⟩
  · rw [hv] at e; cases e
  · simp only [Value.ownBlock, Option.some.injEq] at e
    subst e
    rcases hm with hm | hm
    · obtain ⟨_, es, c, hb'⟩ := h.k1.lt hm
      rw [hb'] at hb; cases hb
    · obtain ⟨_, es, c, hb'⟩ := h.k2.lt hm
      rw [hb'] at hb; cases hb
theorem SeesIn.sb_v2 (h : SeesIn w sb l rs F v1 m1 v2 m2) : v2.ownBlock ≠ some sb := by
  intro e
  rcases h.s2.2 with ⟨hv, _⟩ | ⟨g, off, cap, cur, rfl, _, hb, _⟩
  · rw [hv] at e; cases e
  · simp only [Value.ownBlock, Option.some.injEq] at e
    subst e
    rw [h.here] at hb
    cases hb
theorem SeesIn.sb_m2 (h : SeesIn w sb l rs F v1 m1 v2 m2) : m2 ≠ some sb := by
  intro e
  obtain ⟨_, es, c, hb⟩ := h.k2.lt e
  rw [h.here] at hb
  cases hb
end

theorem has_int (sb : Nat) (v1 v2 : Value) (m1 m2 : Option Nat) (ks : List Lit) (x : Int) (w : World) (h0 : w.heap[sb]? = some (.cells #[v1, .map m1, v2, .map m2] 59 (0, 0))) (h2 : MapSet Try.prog 3 3 w m1 ks) (hx : i64ok x) :
    Calls Try.prog 42 #[.pointer (some ⟨sb, 0, none⟩), .int .i64 x] w fun e w' => ∃ B : Bool, e = .returned (.bool B) ∧ (B = true ↔ Lit.int .i64 x ∈ ks) ∧ Chg (fun _ => False) w w' := by
  obtain ⟨c, B, hrun, hB⟩ := h2.look kInt Try.underlying47 Try.underlying3 (zInt w) (keyOf_int_mk Try.underlying3 hx)
  have hc : ∀ i, w.cell? ⟨sb, i, none⟩ = (#[v1, .map m1, v2, .map m2] : Array Value)[i]? := fun i => cell_of_row w sb i _ _ _ h0
  clear h0 h2
  go_enter Try.func42, Try.ntmps42
  go_wp2
  go_ret
  exact ⟨B, rfl, hB, Chg.refl _ _⟩
end Go.Proofs.Ytflinpnmpkdopaa
