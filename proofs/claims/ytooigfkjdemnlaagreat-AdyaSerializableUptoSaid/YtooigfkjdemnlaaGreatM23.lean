/- Own texts of this claim, joined in build order: C3, Rv, Ho. -/
import Derived.Test.YtooigfkjdemnlaaGreatM21
import Derived.Test.YtooigfkjdemnlaaGreatM22
import Derived.Shelf.SlicesQ.Reverse
set_option linter.all false
namespace Go.Proofs.YtooigfkjdemnlaaGreat
set_option maxRecDepth 100000
open Go.RowKit Go.Lib Go.Sort Go.Shelf Xw

theorem sortAny_ {w : World} {v : Value} {l : List Edge} {F : Nat → Prop} (h : Sl w 41 4 v l.length (l.flatMap edgeC) F) (hlen : l.length < 4611686018427387904) :
    Calls Tryz.prog 38 #[v, .func (.func 39) #[] #[]] w fun e w' => e = .returned (.tuple #[]) ∧ Sl w' 41 4 v (l.mergeSort edgeLe).length ((l.mergeSort edgeLe).flatMap edgeC) F ∧ Chg F w w' := by
  rcases h.2 with ⟨rfl, h0⟩ | ⟨g, off, cap, cur, rfl, hF, hb, _⟩
  · obtain rfl : l = [] := List.eq_nil_of_length_eq_zero h0
    refine (sortNil_ (.func (.func 39) #[] #[]) w).mono ?_
    rintro e w' ⟨rfl, rfl⟩
    exact ⟨rfl, by simpa using h, Chg.refl _ _⟩
  · refine (sortEdgeList_ g off cap l F w h (lt_of_heap hb) hlen).mono ?_
    rintro e w' ⟨rfl, hs, hc⟩
    exact ⟨rfl, by rw [List.length_mergeSort]; exact hs, hc.mono (fun j _ hj => by subst hj; exact hF)⟩
set_option maxHeartbeats 1000000 in
theorem compactNil_ (w : World) : Calls Tryz.prog 40 #[.slice none 0 0] w fun e w' => e = .returned (.slice none 0 0) ∧ w' = w := by
  go_enter Tryz.func40, Tryz.ntmps40
  go_wp2
  go_ret
  exact ⟨rfl, rfl⟩
theorem compactAny_ {w : World} {v : Value} {l : List Edge} {F : Nat → Prop} (h : Sl w 41 4 v l.length (l.flatMap edgeC) F) (hlen : l.length < 4611686018427387904) :
    Calls Tryz.prog 40 #[v] w fun e w' => ∃ v', e = .returned v' ∧ Sl w' 41 4 v' (dedup l).length ((dedup l).flatMap edgeC) F ∧ Chg F w w' := by
  rcases h.2 with ⟨rfl, h0⟩ | ⟨g, off, cap, cur, rfl, hF, hb, _⟩
  · obtain rfl : l = [] := List.eq_nil_of_length_eq_zero h0
    refine (compactNil_ w).mono ?_
    rintro e w' ⟨rfl, rfl⟩
    exact ⟨_, rfl, h, Chg.refl _ _⟩
  · refine (compact_ g off cap l F w h hlen).mono ?_
    rintro e w' ⟨c', rfl, hs, hc⟩
    exact ⟨_, rfl, hs, hc.mono (fun j _ hj => by subst hj; exact hF)⟩

/-- A map of slices, over any kind of key. -/
def MapOfK {K : Type} [DecidableEq K] {α : Type} (enc : K → Value) (w : World) (B mb size : Nat) (ev : α → List Value) (f : K → List α) : Prop :=
  mb < B ∧ ∃ L, KMap enc w mb L ∧ (∀ k v, (k, v) ∈ L → Rows w B size (Flat ev) v (f k)) ∧ ∀ k, f k ≠ [] → k ∈ L.map (·.1)
section
variable {K : Type} [DecidableEq K] {α : Type} {enc : K → Value} {ev : α → List Value} {w w' : World} {B B' mb size : Nat} {f : K → List α}
theorem MapOfK.keep (hh : MapOfK enc w B mb size ev f) (hk : ∀ j, j < B → w'.heap[j]? = w.heap[j]?) : MapOfK enc w' B mb size ev f := by
  obtain ⟨hlt, L, h1, h2, h3⟩ := hh
  exact ⟨hlt, L, h1.keep (hk _ hlt), fun k v hm => (h2 k v hm).flat hk, h3⟩
theorem MapOfK.look (hh : MapOfK enc w B mb size ev f) : ∃ L, KMap enc w mb L ∧ ∀ k, Rows w B size (Flat ev) ((kget L k).getD (.slice none 0 0)) (f k) := by
  obtain ⟨hlt, L, h1, h2, h3⟩ := hh
  refine ⟨L, h1, fun k => ?_⟩
  cases hf : kget L k with
  | none =>
    by_cases hk : f k = []
    · rw [hk]; exact Rows.nil _ (by simp) _
    · obtain ⟨p, hp, e⟩ := List.mem_map.1 (h3 k hk)
      have := kget_mem (k := k) (v := p.2) h1.nodup (by rw [← e]; exact hp)
      rw [hf] at this; cases this
  | some v => exact h2 k v (kget_some hf)
theorem OwnM.mapOfK {e : TypeId} {C : Nat → Prop} {L : List (K × Value)} (henc : ∀ x, (ev x).length = size) (h : OwnM enc e size ev w mb f C L) (hB : w.heap.size ≤ B) : MapOfK enc w B mb size ev f := by
  obtain ⟨hm, hk, hl, col, h1, h2, h3⟩ := h
  refine ⟨Nat.lt_of_lt_of_le hk.lt hB, L, hk, fun k v hv => ?_, fun k hn => (hl k).2 hn⟩
  have := h1 k
  rw [kget_mem hk.nodup hv] at this
  exact Rows.of_sl henc this hB
end
noncomputable def kInt : KeyEnc Tryz.prog 3 Int := intKey Tryz.underlying3
theorem kInt_enc (t : Int) : kInt.enc t = .int .i64 t := rfl
/-- The finished graph at gb; lo: from where on its list of edges lies. -/
structure GrD (w : World) (B lp gb : Nat) (h : List HTx) (es : List Edge) (lo : Nat) : Prop where
  led : Led w B lp h
  ex : ∃ ev mb, w.heap[gb]? = some (.cells #[.pointer (some ⟨lp, 0, none⟩), ev, .map (some mb)] 69) ∧ Rows w B 4 (Flat edgeC) ev es ∧ MapOfK kInt.enc w B mb 4 edgeC (fun t => es.filter fun e => decide (e.frm = t)) ∧ ∀ a n c, ev = .slice (some a) n c → lo ≤ a.block
  lt : gb < B
theorem GrD.keep {w w' : World} {B lp gb : Nat} {h : List HTx} {es : List Edge} {lo : Nat} (H : GrD w B lp gb h es lo) (hk : ∀ j, j < B → w'.heap[j]? = w.heap[j]?) (hz : w.heap.size ≤ w'.heap.size) : GrD w' B lp gb h es lo := by
  obtain ⟨hl, ⟨ev, mb, h1, h2, h3, h4⟩, hg⟩ := H
  exact ⟨hl.keep hk hz, ⟨ev, mb, (hk _ hg).trans h1, h2.flat hk, h3.keep hk, h4⟩, hg⟩
theorem GrD.below {w w' : World} {B lp gb n : Nat} {h : List HTx} {es : List Edge} {lo : Nat} (H : GrD w B lp gb h es lo) (hb : Below n w w') (hn : B ≤ n) : GrD w' B lp gb h es lo := H.keep (fun j hj => hb.block j (Nat.lt_of_lt_of_le hj hn)) hb.size
end Go.Proofs.YtooigfkjdemnlaaGreat

namespace Go.Proofs.YtooigfkjdemnlaaGreat
set_option maxRecDepth 100000
open Go.RowKit Go.Lib Go.Sort Go.Shelf Xw
def renRevE : Ren := ⟨fun x => if x = 35 then 115 else x, fun x => if x = 0 then 0 else if x = 3 then 3 else if x = 4 then 4 else if x = 22 then 36 else if x = 23 then 41 else x, fun x => x⟩
theorem layRevE : SlLaysE0.n35 Tryz.prog renRevE where
  mixed := by kernel_rfl
  f35 := ⟨Tryz.f115.name, by kernel_rfl, Tryz.func115.trans (by kernel_rfl)⟩
  t0 := by kernel_rfl
  a0 := fun _ => by kernel_rfl
  z0 := fun _ => by kernel_rfl
  v0 := fun _ => by kernel_rfl
  t3 := by kernel_rfl
  a3 := fun _ => by kernel_rfl
  z3 := fun _ => by kernel_rfl
  v3 := fun _ => by kernel_rfl
  t4 := by kernel_rfl
  a4 := fun _ => by kernel_rfl
  z4 := fun _ => by kernel_rfl
  v4 := fun _ => by kernel_rfl
  t22 := by kernel_rfl
  a22 := fun _ => by kernel_rfl
  z22 := fun _ => by kernel_rfl
  v22 := fun _ => by kernel_rfl
theorem reverse_ {w : World} {g off cap : Nat} {l : List Edge} {F : Nat → Prop} (h : Sl w 41 4 (.slice (some ⟨g, off, none⟩) l.length cap) l.length (l.flatMap edgeC) F) (hsz : l.length ≤ 9223372036854775807) :
    Calls Tryz.prog 115 #[.slice (some ⟨g, off, none⟩) l.length cap] w fun e w' => e = .returned (.tuple #[]) ∧ Sl w' 41 4 (.slice (some ⟨g, off, none⟩) l.length cap) l.length (l.reverse.flatMap edgeC) F ∧ Chg (fun j => j = g) w w' := by
  have H := AnyQ.slices_Reverse layRevE 4 (fun _ => by kernel_rfl) (fun _ => by kernel_rfl) edgeC (fun _ => rfl) (fun x v hv => by simp [edgeC] at hv; rcases hv with rfl | rfl | rfl | rfl <;> rfl) g off cap l.toArray w (holdsK_of_sl (enc := edgeC) (size := 4) (fun _ => rfl) h) (by simpa using hsz)
  have H' : Calls Tryz.prog 115 #[.slice (some ⟨g, off, none⟩) l.length cap] w fun e w' => e = .returned (.tuple #[]) ∧ ∃ n, w' = putRowK edgeC 4 (Sort.ahead w n) g off l.toArray.reverse := H
  refine H'.mono ?_
  rintro e w' ⟨he, n, hw⟩
  have S : SWK edgeC 4 w g off l.reverse.toArray w' := ⟨n, #[], by
    show w' = grow (putRowK edgeC 4 (Sort.ahead w n) g off l.reverse.toArray) #[]
    rw [grow_empty, hw, List.reverse_toArray]⟩
  have hl : l.reverse.length = l.length := List.length_reverse
  have := sl_of_swk (enc := edgeC) (size := 4) (fun _ => rfl) h S hl
  rw [hl] at this
  exact ⟨he, this, swk_chg S⟩
end Go.Proofs.YtooigfkjdemnlaaGreat

namespace Go.Proofs.YtooigfkjdemnlaaGreat
open Go.RowKit Xw

/-- No number, string or map: no first cell of a row has such a value. -/
def Odd (u : Value) : Prop := (∀ k n, u ≠ .int k n) ∧ (∀ s, u ≠ .string s) ∧ ∀ m, u ≠ .map m
theorem odd_slice (A : Option Addr) (n c : Nat) : Odd (.slice A n c) := ⟨fun _ _ h => (by cases h), fun _ h => (by cases h), fun _ h => (by cases h)⟩
theorem odd_bool (b : Bool) : Odd (.bool b) := ⟨fun _ _ h => (by cases h), fun _ h => (by cases h), fun _ h => (by cases h)⟩
/-- All below B but the block ob, whose one cell holds u0, is as it was. -/
structure But (w w' : World) (B ob : Nat) : Prop where
  keep : ∀ j, j < B → j ≠ ob → w'.heap[j]? = w.heap[j]?
  hole : ∃ u0 ty, w.heap[ob]? = some (.cells #[u0] ty) ∧ Odd u0
section
variable {w w' : World} {B ob size : Nat}
theorem But.ne {b o : Nat} {u : Value} (H : But w w' B ob) (hc : w.cell? ⟨b, o, none⟩ = some u) (hu : ¬ Odd u) : b ≠ ob := by
  rintro rfl
  obtain ⟨u0, ty, hob, hodd⟩ := H.hole
  rw [(cells_of (cs := [u0]) hob).1 o] at hc
  cases o with
  | zero => simp at hc; subst hc; exact hu hodd
  | succ o => simp at hc
theorem But.rows {α : Type} {R R' : World → List Value → α → Prop} {v : Value} {l : List α} (H : But w w' B ob) (h : Rows w B size R v l) (h0 : ∀ cs x, R w cs x → ∃ u, cs[0]? = some u ∧ ¬ Odd u) (hR : ∀ cs x, x ∈ l → R w cs x → R' w' cs x) : Rows w' B size R' v l := by
  rcases h with h | ⟨b, o, c, hv, hb, h1, h2, h3, h4⟩
  · exact .inl h
  · obtain ⟨x0, hx0⟩ : ∃ x, l[0]? = some x := ⟨_, List.getElem?_eq_getElem (List.length_pos_iff.2 h3)⟩
    obtain ⟨cs0, a1, a2, a3⟩ := h4 0 x0 hx0
    obtain ⟨u, hu, hnu⟩ := h0 cs0 x0 a2
    have hne := H.ne (a3 0 u hu) hnu
    refine .inr ⟨b, o, c, hv, hb, h1, h2, h3, fun i x hx => ?_⟩
    obtain ⟨cs, e1, e2, e3⟩ := h4 i x hx
    exact ⟨cs, e1, hR cs x (List.mem_of_getElem? hx) e2, fun j u hu => (World.cell?_of_block (H.keep b hb hne)).trans (e3 j u hu)⟩
theorem But.flat {α : Type} {enc : α → List Value} {v : Value} {l : List α} (H : But w w' B ob) (h : Rows w B size (Flat enc) v l) (h0 : ∀ x, ∃ u, (enc x)[0]? = some u ∧ ¬ Odd u) : Rows w' B size (Flat enc) v l :=
  H.rows h (fun cs x hcs => by rw [hcs]; exact h0 x) fun _ _ _ h => h
theorem nodd_int {k : IntKind} {n : Int} : ¬ Odd (.int k n) := fun h => h.1 k n rfl
theorem nodd_str {s : ByteArray} : ¬ Odd (.string s) := fun h => h.2.1 s rfl
theorem nodd_map {m : Option Nat} : ¬ Odd (.map m) := fun h => h.2.2 m rfl
theorem But.kmap {K : Type} [DecidableEq K] {enc : K → Value} {mb : Nat} {L : List (K × Value)} (H : But w w' B ob) (hm : mb < B) (h : KMap enc w mb L) : KMap enc w' mb L := by
  refine h.keep (H.keep mb hm ?_)
  rintro rfl
  obtain ⟨u0, ty, hob, _⟩ := H.hole
  obtain ⟨es, clk, hb, _⟩ := h
  rw [hob] at hb; cases hb
theorem But.mapOf {α : Type} {mb : Nat} {enc : α → List Value} {f : ByteArray → List α} (H : But w w' B ob) (hh : MapOf w B mb size enc f) (h0 : ∀ x, ∃ u, (enc x)[0]? = some u ∧ ¬ Odd u) : MapOf w' B mb size enc f := by
  obtain ⟨hlt, L, h1, h2, h3⟩ := hh
  exact ⟨hlt, L, H.kmap hlt h1, fun k v hm => ⟨(h2 k v hm).1, H.flat (h2 k v hm).2 h0⟩, h3⟩
theorem But.mapOfK {K : Type} [DecidableEq K] {α : Type} {enc : K → Value} {mb : Nat} {ev : α → List Value} {f : K → List α} (H : But w w' B ob) (hh : MapOfK enc w B mb size ev f) (h0 : ∀ x, ∃ u, (ev x)[0]? = some u ∧ ¬ Odd u) : MapOfK enc w' B mb size ev f := by
  obtain ⟨hlt, L, h1, h2, h3⟩ := hh
  exact ⟨hlt, L, H.kmap hlt h1, fun k v hm => H.flat (h2 k v hm) h0, h3⟩
theorem But.histV {v : Value} {h : List HTx} (H : But w w' B ob) (hh : HistV w B v h) : HistV w' B v h :=
  H.rows hh (fun cs x ⟨ov, e, _⟩ => e ▸ ⟨_, rfl, nodd_int⟩) fun cs x _ ⟨ov, e, r⟩ =>
    ⟨ov, e, H.rows r (fun cs x ⟨ov, e, _⟩ => e ▸ ⟨_, rfl, nodd_int⟩) fun cs o _ ⟨sv, e, r⟩ =>
      ⟨sv, e, H.flat r fun x => ⟨_, rfl, nodd_str⟩⟩⟩
theorem But.led {lp : Nat} {h : List HTx} (H : But w w' B ob) (hh : Led w B lp h) (hz : w.heap.size ≤ w'.heap.size) : Led w' B lp h := by
  obtain ⟨⟨tv, wv, ob', kv, ty, h1, h2, h3, h4, h5⟩, hl, hle⟩ := hh
  have hne : lp ≠ ob := by
    rintro rfl
    obtain ⟨u0, ty', hob, _⟩ := H.hole
    rw [hob] at h1; cases h1
  exact ⟨⟨tv, wv, ob', kv, ty, (H.keep lp hl hne).trans h1, H.histV h2, H.rows h3 (fun cs x ⟨mb, e, _⟩ => e ▸ ⟨_, rfl, nodd_map⟩) (fun cs x _ ⟨mb, e, r⟩ => ⟨mb, e, H.mapOf r fun x => ⟨_, rfl, nodd_int⟩⟩),
    H.mapOf h4 fun x => ⟨_, rfl, nodd_int⟩, H.flat h5 fun x => ⟨_, rfl, nodd_str⟩⟩, hl, Nat.le_trans hle hz⟩
theorem But.grD {lp gb : Nat} {h : List HTx} {es : List Edge} {lo : Nat} (H : But w w' B ob) (hh : GrD w B lp gb h es lo) (hz : w.heap.size ≤ w'.heap.size) : GrD w' B lp gb h es lo := by
  obtain ⟨hl, ⟨ev, mb, h1, h2, h3, h4⟩, hg⟩ := hh
  have hne : gb ≠ ob := by
    rintro rfl
    obtain ⟨u0, ty', hob, _⟩ := H.hole
    rw [hob] at h1; cases h1
  exact ⟨H.led hl hz, ⟨ev, mb, (H.keep gb hg hne).trans h1, H.flat h2 fun x => ⟨_, rfl, nodd_int⟩, H.mapOfK h3 fun x => ⟨_, rfl, nodd_int⟩, h4⟩, hg⟩
end
end Go.Proofs.YtooigfkjdemnlaaGreat
