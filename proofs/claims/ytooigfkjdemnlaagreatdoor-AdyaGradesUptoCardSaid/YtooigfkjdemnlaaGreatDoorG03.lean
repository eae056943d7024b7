/- Own texts of this claim, joined in build order: Rep, Led, Om. -/
import Derived.Test.YtooigfkjdemnlaaGreatDoorG02
import Derived.Maps.OwnOps
import Derived.Maps.RangeWalk
import Derived.WalkKit
import Derived.Test.YtooigfkjdemnlaaGreatDoorG01
import Derived.Maps.Range
set_option linter.all false
namespace Go.Proofs.YtooigfkjdemnlaaGreatDoor
open Go.RowKit Xw

def Rows {α : Type} (w : World) (B size : Nat) (R : World → List Value → α → Prop) (v : Value) (l : List α) : Prop :=
  (l = [] ∧ ∃ A c, v = .slice A 0 c ∧ c ≤ maxLen) ∨
  ∃ b o c, v = .slice (some ⟨b, o, none⟩) l.length c ∧ b < B ∧ l.length ≤ c ∧ c ≤ maxLen ∧ l ≠ [] ∧
    ∀ i x, l[i]? = some x → ∃ cs : List Value, cs.length = size ∧ R w cs x ∧ ∀ j u, cs[j]? = some u → w.cell? ⟨b, o + i * size + j, none⟩ = some u

def Flat {α : Type} (enc : α → List Value) (w : World) (cs : List Value) (x : α) : Prop := cs = enc x

section
variable {α : Type} {w w' : World} {B B' size : Nat} {R R' : World → List Value → α → Prop} {v : Value} {l : List α}

theorem Rows.shape (h : Rows w B size R v l) : ∃ A c, v = .slice A l.length c ∧ l.length ≤ c ∧ c ≤ maxLen := by
  rcases h with ⟨rfl, A, c, rfl, hc⟩ | ⟨b, o, c, rfl, _, h1, h2, _⟩
  · exact ⟨A, c, rfl, by simp, hc⟩
  · exact ⟨_, _, rfl, h1, h2⟩
theorem Rows.nil (c : Nat) (hc : c ≤ maxLen) (A : Option Addr) : Rows w B size R (.slice A 0 c) ([] : List α) := .inl ⟨rfl, A, c, rfl, hc⟩
theorem Rows.keep (h : Rows w B size R v l) (hk : ∀ j, j < B → w'.heap[j]? = w.heap[j]?) (hR : ∀ cs x, x ∈ l → R w cs x → R' w' cs x) : Rows w' B size R' v l := by
  rcases h with h | ⟨b, o, c, hv, hb, h1, h2, h3, h4⟩
  · exact .inl h
  · refine .inr ⟨b, o, c, hv, hb, h1, h2, h3, fun i x hx => ?_⟩
    obtain ⟨cs, e1, e2, e3⟩ := h4 i x hx
    exact ⟨cs, e1, hR cs x (List.mem_of_getElem? hx) e2, fun j u hu => (World.cell?_of_block (hk b hb)).trans (e3 j u hu)⟩
theorem Rows.more (h : Rows w B size R v l) (hB : B ≤ B') (hR : ∀ cs x, x ∈ l → R w cs x → R' w cs x) : Rows w B' size R' v l := by
  rcases h with h | ⟨b, o, c, hv, hb, h1, h2, h3, h4⟩
  · exact .inl h
  · refine .inr ⟨b, o, c, hv, Nat.lt_of_lt_of_le hb hB, h1, h2, h3, fun i x hx => ?_⟩
    obtain ⟨cs, e1, e2, e3⟩ := h4 i x hx
    exact ⟨cs, e1, hR cs x (List.mem_of_getElem? hx) e2, e3⟩
theorem Rows.at_ (h : Rows w B size R v l) {i : Nat} {x : α} (hx : l[i]? = some x) : ∃ b o c cs, v = .slice (some ⟨b, o, none⟩) l.length c ∧ b < B ∧ l.length ≤ c ∧ c ≤ maxLen ∧ cs.length = size ∧ R w cs x ∧ ∀ j u, cs[j]? = some u → w.cell? ⟨b, o + i * size + j, none⟩ = some u := by
  rcases h with ⟨rfl, _⟩ | ⟨b, o, c, hv, hb, h1, h2, h3, h4⟩
  · simp at hx
  · obtain ⟨cs, e1, e2, e3⟩ := h4 i x hx
    exact ⟨b, o, c, cs, hv, hb, h1, h2, e1, e2, e3⟩
theorem Rows.flat {enc : α → List Value} (h : Rows w B size (Flat enc) v l) (hk : ∀ j, j < B → w'.heap[j]? = w.heap[j]?) : Rows w' B size (Flat enc) v l := h.keep hk fun _ _ _ h => h
theorem Rows.flatMore {enc : α → List Value} (h : Rows w B size (Flat enc) v l) (hB : B ≤ B') : Rows w B' size (Flat enc) v l := h.more hB fun _ _ _ h => h

theorem Rows.reads {enc : α → List Value} (henc : ∀ x, (enc x).length = size) (h : Rows w B size (Flat enc) v l) : ∃ A c, v = .slice A l.length c ∧ Reads w B size A l.length (l.flatMap enc) := by
  have hl : (l.flatMap enc).length = l.length * size := by
    clear h
    induction l with
    | nil => simp
    | cons a r ih => rw [List.flatMap_cons, List.length_append, ih, henc, List.length_cons, Nat.succ_mul]; omega
  rcases h with ⟨rfl, A, c, rfl, hc⟩ | ⟨b, o, c, hv, hb, h1, h2, h3, h4⟩
  · exact ⟨A, c, rfl, by simp, fun h => absurd h (by simp)⟩
  · refine ⟨_, c, hv, hl, fun hp0 => ⟨_, rfl, hb, fun j u hj => ?_⟩⟩
    have hjl : j < l.length * size := by rw [← hl]; exact (List.getElem?_eq_some_iff.1 hj).1
    have hs : 0 < size := by
      rcases Nat.eq_zero_or_pos size with h0 | h0
      · subst h0; simp at hjl
      · exact h0
    have hi : j / size < l.length := Nat.div_lt_of_lt_mul (by rw [Nat.mul_comm]; exact hjl)
    obtain ⟨cs, e1, e2, e3⟩ := h4 (j / size) _ (List.getElem?_eq_getElem hi)
    have hdm : j / size * size + j % size = j := by rw [Nat.mul_comm]; exact Nat.div_add_mod j size
    have hget : (l.flatMap enc)[j / size * size + j % size]? = (enc l[j / size])[j % size]? := by
      have hm : j % size < size := Nat.mod_lt _ hs
      generalize j % size = m at hm
      generalize j / size = k at hi
      clear hj hjl hdm e3 e2 e1 h4 hl hv h3 h2 h1 hp0
      induction l generalizing k with
      | nil => simp at hi
      | cons a r ih =>
        rw [List.flatMap_cons]
        cases k with
        | zero => rw [Nat.zero_mul, Nat.zero_add, List.getElem?_append_left (by rw [henc]; exact hm)]; rfl
        | succ k =>
          rw [List.getElem?_append_right (by rw [henc, Nat.succ_mul]; omega), henc, show (k + 1) * size + m - size = k * size + m by rw [Nat.succ_mul]; omega]
          exact ih k (by simpa using hi)
    rw [hdm] at hget
    rw [hget] at hj
    have := e3 (j % size) u (by rw [e2]; exact hj)
    have e : (⟨b, o, none⟩ : Addr).add j = ⟨b, o + j, none⟩ := by unfold Addr.add; split <;> simp_all
    rw [e, ← hdm, ← Nat.add_assoc]; exact this
theorem Rows.of_sl {enc : α → List Value} {e : TypeId} {F : Nat → Prop} (henc : ∀ x, (enc x).length = size) (h : Sl w e size v l.length (l.flatMap enc) F) (hB : w.heap.size ≤ B) : Rows w B size (Flat enc) v l := by
  rcases h.2 with ⟨rfl, h0⟩ | ⟨g, off, cap, cur, rfl, hF, hb, hn, hm, hs, ht⟩
  · have : l = [] := List.eq_nil_of_length_eq_zero h0
    subst this
    exact .inl ⟨rfl, none, 0, rfl, by simp⟩
  · by_cases hl0 : l = []
    · subst hl0; exact .inl ⟨rfl, _, cap, rfl, hm⟩
    · refine .inr ⟨g, off, cap, rfl, Nat.lt_of_lt_of_le (lt_of_heap hb) hB, hn, hm, hl0, fun i x hx => ⟨enc x, henc x, rfl, fun j u hu => ?_⟩⟩
      have hil : i < l.length := (List.getElem?_eq_some_iff.1 hx).1
      have hjl : j < size := by rw [← henc x]; exact (List.getElem?_eq_some_iff.1 hu).1
      have hget : (l.flatMap enc)[i * size + j]? = (enc x)[j]? := by
        clear h ht hs hl0 hn hu
        induction l generalizing i with
        | nil => simp at hil
        | cons a r ih =>
          rw [List.flatMap_cons]
          cases i with
          | zero => rw [Nat.zero_mul, Nat.zero_add, List.getElem?_append_left (by rw [henc]; exact hjl)]; simp at hx; rw [hx]
          | succ k =>
            rw [List.getElem?_append_right (by rw [henc, Nat.succ_mul]; omega), henc, show (k + 1) * size + j - size = k * size + j by rw [Nat.succ_mul]; omega]
            exact ih k (by simpa using hx) (by simpa using hil)
      rw [cell_of_row w g _ _ _ _ hb]
      rw [← hget, ← ht, List.getElem?_take] at hu
      split at hu
      · rw [List.getElem?_drop] at hu
        rw [Nat.add_assoc]
        simpa using hu
      · cases hu
end

section
variable {K : Type} [DecidableEq K] {P : Program} {kt : TypeId} {L : List (K × Value)} {w : World} {b : Nat} {ops : Array Oper} {rest : List Oper} {o : Oper} {a : Act} {Q : Exit → Act → World → Prop}

theorem wpList_wanted (hw : Region.wanted o (yielded ops a.tmps) = true) (h : ∀ K : Act → World → Prop, (∀ a w, wpList P ops Q rest a w → K a w) → o.wp P a w K Q) : wpList P ops Q (o :: rest) a w :=
  wpList_step fun K hK => by rw [if_pos hw]; exact h K hK

theorem wpList_lookup_k (E : KeyEnc P kt K) (m x : Operand) (t et : TypeId) (hop : o.op = .lookup t m x false) (hw : Region.wanted o (yielded ops a.tmps) = true) (ht : P.underlying t = some (.map kt et)) (z : Value) (hz : ∀ w, (zeroValue et).run P w = .ok z w)
    (b : Nat) (k : K) (hm : a.eval m = .map (some b)) (hx : a.eval x = E.enc k) (h : KMap E.enc w b L) (hK : wpList P ops Q rest (a.put o.dst ((kget L k).getD z)) w) : wpList P ops Q (o :: rest) a w := by
  refine wpList_wanted hw fun K' hK' => ?_
  have hrun := run_lookup_kmap E ht (hz w) h k false
  unfold Oper.wp
  simp [execOp, hop, hm, hx, hrun, Result.andThen]
  exact hK' _ _ hK
theorem wpList_lookup_ok_k (E : KeyEnc P kt K) (m x : Operand) (t et : TypeId) (hop : o.op = .lookup t m x true) (hw : Region.wanted o (yielded ops a.tmps) = true) (ht : P.underlying t = some (.map kt et)) (z : Value) (hz : ∀ w, (zeroValue et).run P w = .ok z w)
    (b : Nat) (k : K) (hm : a.eval m = .map (some b)) (hx : a.eval x = E.enc k) (h : KMap E.enc w b L) (hK : wpList P ops Q rest (a.put o.dst (.tuple #[(kget L k).getD z, .bool (kget L k).isSome])) w) : wpList P ops Q (o :: rest) a w := by
  refine wpList_wanted hw fun K' hK' => ?_
  have hrun := run_lookup_kmap E ht (hz w) h k true
  unfold Oper.wp
  simp [execOp, hop, hm, hx, hrun, Result.andThen]
  exact hK' _ _ hK
theorem wpList_store_k (E : KeyEnc P kt K) (m x v : Operand) (t et : TypeId) (hop : o.op = .mapUpdate t m x v) (hw : Region.wanted o (yielded ops a.tmps) = true) (ht : P.underlying t = some (.map kt et))
    (b : Nat) (k : K) (u : Value) (hm : a.eval m = .map (some b)) (hx : a.eval x = E.enc k) (hv : a.eval v = u) (h : KMap E.enc w b L)
    (hK : ∀ w', KMap E.enc w' b (kset L k u) → Chg (fun j => j = b) w w' → wpList P ops Q rest (a.put o.dst undef) w') : wpList P ops Q (o :: rest) a w := by
  refine wpList_wanted hw fun K' hK' => ?_
  obtain ⟨w', hrun, h1, h2⟩ := run_store_kmap E ht h k u
  unfold Oper.wp
  simp [execOp, hop, hm, hx, hv, hrun, Result.andThen]
  exact hK' _ _ (hK w' h1 h2)
theorem wpList_delete_k (E : KeyEnc P kt K) (m x : Operand) (t et : TypeId) (ats : Array TypeId) (hop : o.op = Op.call { callee := Callee.builtin Builtin.delete, args := #[m, x], argTypes := ats }) (hat : ats[0]? = some t) (hw : Region.wanted o (yielded ops a.tmps) = true) (ht : P.underlying t = some (.map kt et))
    (b : Nat) (k : K) (hm : a.eval m = .map (some b)) (hx : a.eval x = E.enc k) (h : KMap E.enc w b L)
    (hK : ∀ w', KMap E.enc w' b (kdel L k) → Chg (fun j => j = b) w w' → wpList P ops Q rest (a.put o.dst (.tuple #[])) w') : wpList P ops Q (o :: rest) a w := by
  refine wpList_wanted hw fun K' hK' => ?_
  obtain ⟨w', hrun, h1, h2⟩ := run_delete_kmap E ht h k o.type ats hat
  unfold Oper.wp
  simp [execOp, hop, resolve, invoke, builtin, hm, hx, hrun, Result.andThen]
  exact hK' _ _ (hK w' h1 h2)
theorem wpList_len_k {enc : K → Value} (m : Operand) (t et kt' : TypeId) (ats : Array TypeId) (hop : o.op = Op.call { callee := Callee.builtin Builtin.len, args := #[m], argTypes := ats }) (hat : ats[0]? = some t) (hw : Region.wanted o (yielded ops a.tmps) = true) (ht : P.underlying t = some (.map kt' et))
    (b : Nat) (hm : a.eval m = .map (some b)) (h : KMap enc w b L)
    (hK : wpList P ops Q rest (a.put o.dst (.int .i64 L.length)) w) : wpList P ops Q (o :: rest) a w := by
  refine wpList_wanted hw fun K' hK' => ?_
  have hrun := run_len_kmap (P := P) ht h o.type ats hat
  unfold Oper.wp
  simp [execOp, hop, resolve, invoke, builtin, hm, hrun, Result.andThen]
  exact hK' _ _ hK
theorem wpList_mapEntry_k (E : KeyEnc P kt K) (m x : Operand) (t et : TypeId) (hop : o.op = .mapEntry t m x) (hw : Region.wanted o (yielded ops a.tmps) = true) (ht : P.underlying t = some (.map kt et)) (z : Value) (hz : ∀ w, (zeroValue et).run P w = .ok z w)
    (b : Nat) (k : K) (hm : a.eval m = .map (some b)) (hx : a.eval x = E.enc k) (h : KMap E.enc w b L)
    (hK : ∀ w' (s : Nat), Chg (fun j => j = b) w w' → KMap E.enc w' b (kset L k ((kget L k).getD z)) →
      (∀ (w1 : World) (v : Value) (ty : TypeId), w1.heap[b]? = w'.heap[b]? → ∃ w2, (Instr.entryStore ty (.map (some b)) (goInt s) v).run P w1 = .ok () w2 ∧ KMap E.enc w2 b (kset L k v) ∧ Chg (fun j => j = b) w1 w2) →
      wpList P ops Q rest (a.put o.dst (.tuple #[(kget L k).getD z, goInt s])) w') : wpList P ops Q (o :: rest) a w := by
  refine wpList_wanted hw fun K' hK' => ?_
  obtain ⟨w', s, hrun, h1, h2, h3⟩ := run_mapEntry_kmap E ht hz h k
  unfold Oper.wp
  simp [execOp, hop, hm, hx, hrun, Result.andThen]
  exact hK' _ _ (hK w' s h1 h2 h3)
theorem wpList_entryStore_k (m x v : Operand) (t : TypeId) (hop : o.op = .entryStore t m x v) (hw : Region.wanted o (yielded ops a.tmps) = true) {enc : K → Value} {L' : List (K × Value)}
    (b : Nat) (s : Value) (u : Value) (hm : a.eval m = .map (some b)) (hx : a.eval x = s) (hv : a.eval v = u)
    (h : ∃ w2, (Instr.entryStore t (.map (some b)) s u).run P w = .ok () w2 ∧ KMap enc w2 b L' ∧ Chg (fun j => j = b) w w2)
    (hK : ∀ w', KMap enc w' b L' → Chg (fun j => j = b) w w' → wpList P ops Q rest (a.put o.dst undef) w') : wpList P ops Q (o :: rest) a w := by
  refine wpList_wanted hw fun K' hK' => ?_
  obtain ⟨w', hrun, h1, h2⟩ := h
  unfold Oper.wp
  simp [execOp, hop, hm, hx, hv, hrun, Result.andThen]
  exact hK' _ _ (hK w' h1 h2)
theorem wpList_range_k {enc : K → Value} (m : Operand) (t et kt' : TypeId) (hop : o.op = .range t m) (hw : Region.wanted o (yielded ops a.tmps) = true) (ht : P.underlying t = some (.map kt' et))
    (b : Nat) (hm : a.eval m = .map (some b)) (h : KMap enc w b L)
    (hK : ∀ o', MIter enc (w.alloc o') w.heap.size b L L → wpList P ops Q rest (a.put o.dst (.pointer (some ⟨w.heap.size, 0, none⟩))) (w.alloc o')) : wpList P ops Q (o :: rest) a w := by
  refine wpList_wanted hw fun K' hK' => ?_
  obtain ⟨o', hrun, h1⟩ := run_range_kmap (P := P) ht h
  unfold Oper.wp
  simp [execOp, hop, hm, hrun, Result.andThen]
  exact hK' _ _ (hK o' h1)
theorem wpList_next_k {enc : K → Value} {rem : List (K × Value)} {r : Nat} (it : Operand) (hop : o.op = .next it false) (hw : Region.wanted o (yielded ops a.tmps) = true)
    (hit : a.eval it = .pointer (some ⟨r, 0, none⟩)) (h : MIter enc w r b L rem)
    (hDone : rem = [] → wpList P ops Q rest (a.put o.dst (.tuple #[.bool false])) w)
    (hMore : ∀ p ∈ rem, ∀ w', MIter enc w' r b L (kdel rem p.1) → Chg (fun j => j = r) w w' → w'.heap.size = w.heap.size → (Instr.entry (.pointer (some ⟨r, 0, none⟩))).run P w' = .ok (.tuple #[enc p.1, p.2]) w' →
      wpList P ops Q rest (a.put o.dst (.tuple #[.bool true, enc p.1, p.2])) w') : wpList P ops Q (o :: rest) a w := by
  refine wpList_wanted hw fun K' hK' => ?_
  unfold Oper.wp
  rcases run_next_kmap (P := P) h o.type with ⟨h0, hrun⟩ | ⟨p, hp, w', hrun, h1, h2, h3, h4⟩
  · simp [execOp, hop, hit, hrun, Result.andThen]
    exact hK' _ _ (hDone h0)
  · simp [execOp, hop, hit, hrun, Result.andThen]
    exact hK' _ _ (hMore p hp w' h1 h2 h3 h4)
end
end Go.Proofs.YtooigfkjdemnlaaGreatDoor

namespace Go.Proofs.YtooigfkjdemnlaaGreatDoor
open Go.RowKit Xw

def verC (v : HVer) : List Value := [.string v.key, .int .i64 v.frm, .int .i64 v.nth]
def opC (sv : Value) (o : HOpr) : List Value := [.int .i64 o.kind, .string o.ver.key, .int .i64 o.ver.frm, .int .i64 o.ver.nth, .bool o.dead, .string o.value, .string o.hi, sv, .int .u64 o.at_]
def txC (ov : Value) (x : HTx) : List Value := [.int .i64 x.iso, .int .i64 x.fate, .int .u64 x.bgn, .int .u64 x.fin, .int .i64 x.bi, .int .i64 x.bo, .int .i64 x.ei, .int .i64 x.eo, ov]
def wroteC (u : Wrote) : List Value := [.int .i64 u.op, .bool u.dead, .string u.value]
def instC (u : Inst) : List Value := [.int .i64 u.txn, .int .u64 u.fin, .bool u.dead]
def edgeC (e : Edge) : List Value := [.int .i64 e.frm, .int .i64 e.to, .int .i64 e.kind, .string e.key]
def strC (s : ByteArray) : List Value := [.string s]

def OpR (B : Nat) (w : World) (cs : List Value) (o : HOpr) : Prop := ∃ sv, cs = opC sv o ∧ Rows w B 3 (Flat verC) sv o.seen
def TxR (B : Nat) (w : World) (cs : List Value) (x : HTx) : Prop := ∃ ov, cs = txC ov x ∧ Rows w B 9 (OpR B) ov x.ops
def HistV (w : World) (B : Nat) (v : Value) (h : List HTx) : Prop := Rows w B 9 (TxR B) v h

def MapOf {α : Type} (w : World) (B mb size : Nat) (enc : α → List Value) (f : ByteArray → List α) : Prop :=
  mb < B ∧ ∃ L, KMap Value.string w mb L ∧ (∀ k v, (k, v) ∈ L → f k ≠ [] ∧ Rows w B size (Flat enc) v (f k)) ∧ ∀ k, f k ≠ [] → k ∈ L.map (·.1)

def WrR (B : Nat) (w : World) (cs : List Value) (x : HTx) : Prop := ∃ mb, cs = [.map (some mb)] ∧ MapOf w B mb 3 wroteC (writes x)

structure Led (w : World) (B lp : Nat) (h : List HTx) : Prop where
  ex : ∃ tv wv ob kv ty, w.heap[lp]? = some (.cells #[tv, wv, .map (some ob), kv] ty) ∧ HistV w B tv h ∧ Rows w B 1 (WrR B) wv h ∧ MapOf w B ob 3 instC (order h) ∧ Rows w B 1 (Flat strC) kv (keysOf h)
  lt : lp < B
  le : B ≤ w.heap.size

section
variable {w w' : World} {B B' lp : Nat} {h : List HTx} {v : Value}
theorem OpR.keep {cs : List Value} {o : HOpr} (hh : OpR B w cs o) (hk : ∀ j, j < B → w'.heap[j]? = w.heap[j]?) : OpR B w' cs o := let ⟨sv, e, r⟩ := hh; ⟨sv, e, r.flat hk⟩
theorem TxR.keep {cs : List Value} {x : HTx} (hh : TxR B w cs x) (hk : ∀ j, j < B → w'.heap[j]? = w.heap[j]?) : TxR B w' cs x := let ⟨ov, e, r⟩ := hh; ⟨ov, e, r.keep hk fun _ _ _ h => h.keep hk⟩
theorem HistV.keep (hh : HistV w B v h) (hk : ∀ j, j < B → w'.heap[j]? = w.heap[j]?) : HistV w' B v h := Rows.keep hh hk fun _ _ _ h => h.keep hk
theorem MapOf.keep {α : Type} {mb size : Nat} {enc : α → List Value} {f : ByteArray → List α} (hh : MapOf w B mb size enc f) (hk : ∀ j, j < B → w'.heap[j]? = w.heap[j]?) : MapOf w' B mb size enc f := by
  obtain ⟨hlt, L, h1, h2, h3⟩ := hh
  exact ⟨hlt, L, h1.keep (hk _ hlt), fun k v hm => ⟨(h2 k v hm).1, (h2 k v hm).2.flat hk⟩, h3⟩
theorem WrR.keep {cs : List Value} {x : HTx} (hh : WrR B w cs x) (hk : ∀ j, j < B → w'.heap[j]? = w.heap[j]?) : WrR B w' cs x := let ⟨mb, e, r⟩ := hh; ⟨mb, e, r.keep hk⟩
theorem Led.keep (hh : Led w B lp h) (hk : ∀ j, j < B → w'.heap[j]? = w.heap[j]?) (hz : w.heap.size ≤ w'.heap.size) : Led w' B lp h := by
  obtain ⟨⟨tv, wv, ob, kv, ty, h1, h2, h3, h4, h5⟩, hl, hle⟩ := hh
  exact ⟨⟨tv, wv, ob, kv, ty, (hk _ hl).trans h1, h2.keep hk, h3.keep hk fun _ _ _ h => h.keep hk, h4.keep hk, h5.flat hk⟩, hl, Nat.le_trans hle hz⟩
theorem Led.below {n : Nat} (hh : Led w B lp h) (hb : Below n w w') (hn : B ≤ n) : Led w' B lp h := hh.keep (fun j hj => hb.block j (Nat.lt_of_lt_of_le hj hn)) hb.size
theorem Led.chg {F : Nat → Prop} (hh : Led w B lp h) (hc : Chg F w w') (hF : ∀ j, j < B → ¬ F j) : Led w' B lp h := hh.keep (fun j hj => hc.block j (Nat.lt_of_lt_of_le hj hh.le) (hF j hj)) hc.size

theorem Led.drew (hh : Led w B lp h) : Led w.drew B lp h := hh.keep (fun _ _ => rfl) (Nat.le_refl _)
theorem MapOf.look {α : Type} {mb size : Nat} {enc : α → List Value} {f : ByteArray → List α} (hh : MapOf w B mb size enc f) : ∃ L, KMap Value.string w mb L ∧ ∀ k, Rows w B size (Flat enc) ((kget L k).getD (.slice none 0 0)) (f k) := by
  obtain ⟨hlt, L, h1, h2, h3⟩ := hh
  refine ⟨L, h1, fun k => ?_⟩
  unfold kget
  cases hf : L.find? (fun p => decide (p.1 = k)) with
  | none =>
    by_cases hk : f k = []
    · rw [hk]; exact Rows.nil _ (by simp) _
    · obtain ⟨p, hp, e⟩ := List.mem_map.1 (h3 k hk)
      have := List.find?_eq_none.1 hf p hp
      simp [e] at this
  | some p =>
    have hm := List.mem_of_find?_eq_some hf
    have hk : p.1 = k := by simpa using List.find?_some hf
    simpa [hk] using (h2 p.1 p.2 hm).2
end

section
variable {α : Type} {w wr : World} {B size : Nat} {enc : α → List Value} {v : Value} {l : List α} {i : Nat} {x : α} {a0 a1 a2 a3 : Value} {h : List HTx}
theorem Rows.get1 (hh : Rows w B 1 (Flat enc) v l) (hx : l[i]? = some x) (hk : ∀ j, j < B → wr.heap[j]? = w.heap[j]?) (he : enc x = [a0]) :
    ∃ b o c, v = .slice (some ⟨b, o, none⟩) l.length c ∧ b < B ∧ wr.cell? ⟨b, o + i, none⟩ = some a0 := by
  obtain ⟨b, o, c, cs, hv, hb, -, -, -, rfl, hc⟩ := hh.at_ hx
  rw [he] at hc
  exact ⟨b, o, c, hv, hb, (World.cell?_of_block (hk b hb)).trans (by simpa using hc 0 _ rfl)⟩
theorem Rows.get3 (hh : Rows w B 3 (Flat enc) v l) (hx : l[i]? = some x) (hk : ∀ j, j < B → wr.heap[j]? = w.heap[j]?) (he : enc x = [a0, a1, a2]) :
    ∃ b o c, v = .slice (some ⟨b, o, none⟩) l.length c ∧ b < B ∧ wr.cell? ⟨b, o + i * 3, none⟩ = some a0 ∧ wr.cell? ⟨b, o + i * 3 + 1, none⟩ = some a1 ∧ wr.cell? ⟨b, o + i * 3 + 2, none⟩ = some a2 := by
  obtain ⟨b, o, c, cs, hv, hb, -, -, -, rfl, hc⟩ := hh.at_ hx
  rw [he] at hc
  have hc' : ∀ j u, [a0, a1, a2][j]? = some u → wr.cell? ⟨b, o + i * 3 + j, none⟩ = some u := fun j u hu => (World.cell?_of_block (hk b hb)).trans (hc j u hu)
  exact ⟨b, o, c, hv, hb, by simpa using hc' 0 _ rfl, hc' 1 _ rfl, hc' 2 _ rfl⟩
theorem Rows.get4 (hh : Rows w B 4 (Flat enc) v l) (hx : l[i]? = some x) (hk : ∀ j, j < B → wr.heap[j]? = w.heap[j]?) (he : enc x = [a0, a1, a2, a3]) :
    ∃ b o c, v = .slice (some ⟨b, o, none⟩) l.length c ∧ b < B ∧ wr.cell? ⟨b, o + i * 4, none⟩ = some a0 ∧ wr.cell? ⟨b, o + i * 4 + 1, none⟩ = some a1 ∧ wr.cell? ⟨b, o + i * 4 + 2, none⟩ = some a2 ∧ wr.cell? ⟨b, o + i * 4 + 3, none⟩ = some a3 := by
  obtain ⟨b, o, c, cs, hv, hb, -, -, -, rfl, hc⟩ := hh.at_ hx
  rw [he] at hc
  have hc' : ∀ j u, [a0, a1, a2, a3][j]? = some u → wr.cell? ⟨b, o + i * 4 + j, none⟩ = some u := fun j u hu => (World.cell?_of_block (hk b hb)).trans (hc j u hu)
  exact ⟨b, o, c, hv, hb, by simpa using hc' 0 _ rfl, hc' 1 _ rfl, hc' 2 _ rfl, hc' 3 _ rfl⟩
structure TxAt (wr : World) (b p : Nat) (x : HTx) (ov : Value) : Prop where
  c0 : wr.cell? ⟨b, p, none⟩ = some (.int .i64 x.iso)
  c1 : wr.cell? ⟨b, p + 1, none⟩ = some (.int .i64 x.fate)
  c2 : wr.cell? ⟨b, p + 2, none⟩ = some (.int .u64 x.bgn)
  c3 : wr.cell? ⟨b, p + 3, none⟩ = some (.int .u64 x.fin)
  c4 : wr.cell? ⟨b, p + 4, none⟩ = some (.int .i64 x.bi)
  c5 : wr.cell? ⟨b, p + 5, none⟩ = some (.int .i64 x.bo)
  c6 : wr.cell? ⟨b, p + 6, none⟩ = some (.int .i64 x.ei)
  c7 : wr.cell? ⟨b, p + 7, none⟩ = some (.int .i64 x.eo)
  c8 : wr.cell? ⟨b, p + 8, none⟩ = some ov
structure OpAt (wr : World) (b p : Nat) (o : HOpr) (sv : Value) : Prop where
  c0 : wr.cell? ⟨b, p, none⟩ = some (.int .i64 o.kind)
  c1 : wr.cell? ⟨b, p + 1, none⟩ = some (.string o.ver.key)
  c2 : wr.cell? ⟨b, p + 2, none⟩ = some (.int .i64 o.ver.frm)
  c3 : wr.cell? ⟨b, p + 3, none⟩ = some (.int .i64 o.ver.nth)
  c4 : wr.cell? ⟨b, p + 4, none⟩ = some (.bool o.dead)
  c5 : wr.cell? ⟨b, p + 5, none⟩ = some (.string o.value)
  c6 : wr.cell? ⟨b, p + 6, none⟩ = some (.string o.hi)
  c7 : wr.cell? ⟨b, p + 7, none⟩ = some sv
  c8 : wr.cell? ⟨b, p + 8, none⟩ = some (.int .u64 o.at_)
theorem HistV.get {t : Nat} {x : HTx} (hh : HistV w B v h) (hx : h[t]? = some x) (hk : ∀ j, j < B → wr.heap[j]? = w.heap[j]?) :
    ∃ b o c ov, v = .slice (some ⟨b, o, none⟩) h.length c ∧ b < B ∧ TxAt wr b (o + t * 9) x ov ∧ Rows wr B 9 (OpR B) ov x.ops := by
  obtain ⟨b, o, c, cs, hv, hb, -, -, -, ⟨ov, rfl, hr⟩, hc⟩ := Rows.at_ hh hx
  have hc' : ∀ j u, (txC ov x)[j]? = some u → wr.cell? ⟨b, o + t * 9 + j, none⟩ = some u := fun j u hu => (World.cell?_of_block (hk b hb)).trans (hc j u hu)
  exact ⟨b, o, c, ov, hv, hb, ⟨hc' 0 _ rfl, hc' 1 _ rfl, hc' 2 _ rfl, hc' 3 _ rfl, hc' 4 _ rfl, hc' 5 _ rfl, hc' 6 _ rfl, hc' 7 _ rfl, hc' 8 _ rfl⟩, hr.keep hk fun _ _ _ h => h.keep hk⟩
theorem ops_get {ops : List HOpr} {i : Nat} {o : HOpr} (hh : Rows w B 9 (OpR B) v ops) (hx : ops[i]? = some o) (hk : ∀ j, j < B → wr.heap[j]? = w.heap[j]?) :
    ∃ b p c sv, v = .slice (some ⟨b, p, none⟩) ops.length c ∧ b < B ∧ OpAt wr b (p + i * 9) o sv ∧ Rows wr B 3 (Flat verC) sv o.seen := by
  obtain ⟨b, p, c, cs, hv, hb, -, -, -, ⟨sv, rfl, hr⟩, hc⟩ := Rows.at_ hh hx
  have hc' : ∀ j u, (opC sv o)[j]? = some u → wr.cell? ⟨b, p + i * 9 + j, none⟩ = some u := fun j u hu => (World.cell?_of_block (hk b hb)).trans (hc j u hu)
  exact ⟨b, p, c, sv, hv, hb, ⟨hc' 0 _ rfl, hc' 1 _ rfl, hc' 2 _ rfl, hc' 3 _ rfl, hc' 4 _ rfl, hc' 5 _ rfl, hc' 6 _ rfl, hc' 7 _ rfl, hc' 8 _ rfl⟩, hr.flat hk⟩
theorem wr_get {t : Nat} {x : HTx} (hh : Rows w B 1 (WrR B) v h) (hx : h[t]? = some x) (hk : ∀ j, j < B → wr.heap[j]? = w.heap[j]?) :
    ∃ b o c mb L, v = .slice (some ⟨b, o, none⟩) h.length c ∧ b < B ∧ wr.cell? ⟨b, o + t, none⟩ = some (.map (some mb)) ∧ mb < B ∧ KMap Value.string wr mb L ∧ ∀ k, Rows wr B 3 (Flat wroteC) ((kget L k).getD (.slice none 0 0)) (writes x k) := by
  obtain ⟨b, o, c, cs, hv, hb, -, -, -, ⟨mb, rfl, hm⟩, hc⟩ := hh.at_ hx
  obtain ⟨L, hL, hlk⟩ := (hm.keep hk).look
  exact ⟨b, o, c, mb, L, hv, hb, (World.cell?_of_block (hk b hb)).trans (by simpa using hc 0 _ rfl), hm.1, hL, hlk⟩
end

def allocL (w : World) : List Obj → World
  | [] => w
  | o :: r => allocL (w.alloc o) r
theorem allocL_size : ∀ (os : List Obj) (w : World), (allocL w os).heap.size = w.heap.size + os.length
  | [], w => rfl
  | o :: r, w => by rw [allocL, allocL_size r, World.size_alloc, List.length_cons]; omega
theorem allocL_below : ∀ (os : List Obj) (w : World) (n : Nat), n ≤ w.heap.size → Below n w (allocL w os)
  | [], w, n, h => Below.refl _ _
  | o :: r, w, n, h => ((Below.refl n w).alloc h o).trans (allocL_below r _ n (by rw [World.size_alloc]; omega))
theorem allocL_get : ∀ (os : List Obj) (w : World) (j : Nat) (o : Obj), os[j]? = some o → (allocL w os).heap[w.heap.size + j]? = some o
  | [], w, j, o, h => by simp at h
  | a :: r, w, 0, o, h => by
    simp at h; subst h
    exact ((allocL_below r (w.alloc a) (w.heap.size + 1) (by simp)).block w.heap.size (by omega)).trans (heap_alloc_new w a)
  | a :: r, w, j + 1, o, h => by
    have := allocL_get r (w.alloc a) j o (by simpa using h)
    rw [World.size_alloc] at this
    rw [show w.heap.size + (j + 1) = w.heap.size + 1 + j by omega]
    exact this
theorem keep_of {w w' : World} {n B : Nat} (hb : Below n w w') (hn : B ≤ n) : ∀ j, j < B → w'.heap[j]? = w.heap[j]? := fun j hj => hb.block j (Nat.lt_of_lt_of_le hj hn)
theorem Rows.to {α : Type} {w w' : World} {B B' n size : Nat} {enc : α → List Value} {v : Value} {l : List α} (h : Rows w B size (Flat enc) v l) (hb : Below n w w') (hn : B ≤ n) (hB : B ≤ B') : Rows w' B' size (Flat enc) v l := (h.flat (keep_of hb hn)).flatMore hB
theorem heap_al (w : World) (o : Obj) (i : Nat) : (w.alloc o).heap[i]? = if i = w.heap.size then some o else w.heap[i]? := by
  by_cases h : i = w.heap.size
  · subst h; rw [if_pos rfl]; exact heap_alloc_new w o
  · rw [if_neg h]
    rcases Nat.lt_or_ge i w.heap.size with h1 | h1
    · exact Below.heap_alloc w o i h1
    · rw [Array.getElem?_eq_none (by rw [World.size_alloc]; omega), Array.getElem?_eq_none h1]
theorem top_al (w : World) (o : Obj) {g : Nat} (h : g = w.heap.size) : (w.alloc o).heap[g]? = some o := by subst h; exact heap_alloc_new w o
theorem heap_drew (w : World) : w.drew.heap = w.heap := rfl
theorem bel1 (w : World) (a : Obj) : Below w.heap.size w (w.alloc a) := (Below.refl _ _).alloc (Nat.le_refl _) _
theorem bel2 (w : World) (a b : Obj) : Below w.heap.size w ((w.alloc a).alloc b) := (bel1 w a).alloc (by simp) _
theorem bel3 (w : World) (a b c : Obj) : Below w.heap.size w (((w.alloc a).alloc b).alloc c) := (bel2 w a b).alloc (by simp; omega) _
theorem bel4 (w : World) (a b c d : Obj) : Below w.heap.size w ((((w.alloc a).alloc b).alloc c).alloc d) := (bel3 w a b c).alloc (by simp; omega) _

theorem cells_of {w : World} {g : Nat} {cs : List Value} {t : TypeId} (h : w.heap[g]? = some (.cells cs.toArray t)) : (∀ i, w.cell? ⟨g, i, none⟩ = cs[i]?) ∧ ∀ i, w.frozen? ⟨g, i, none⟩ = false :=
  ⟨fun i => by rw [cell_of_row w g i _ t (0, 0) h]; simp, fun i => by simp [World.frozen?, h]⟩
section
variable {P : Program} {fn : Func} {R : Ending → World → Prop} {a : Act} {w : World} {t c ty g : Nat} {t0 : TypeId} {vs : List Value}
theorem run_cellvar (hs : ∃ fs, P.underlying ty = some (.struct fs)) (hz : (P.info? ty).map (·.size) = some vs.length) (hb : w.heap[g]? = some (.cells vs.toArray t0)) : (loadVar ty ⟨g, 0, none⟩).run P w = .ok (.agg vs.toArray) w := by
  obtain ⟨fs, hfs⟩ := hs
  obtain ⟨i, hi, hi2⟩ := Option.map_eq_some_iff.1 hz
  have h1 : (isAgg ty).run P w = .ok true w := by simp [isAgg, run_underlying hfs, Result.andThen]
  have h2 : (sizeOf ty).run P w = .ok vs.length w := by simp [sizeOf, typeInfo, hi, hi2]
  have h3 := run_loadCells_list (P := P) (w := w) ⟨g, 0, none⟩ vs (fun j v hj => by
    have e : (⟨g, 0, none⟩ : Addr).add j = ⟨g, j, none⟩ := by unfold Addr.add; split <;> simp_all
    rw [e, (cells_of hb).1 j]; exact hj)
  simp only [loadCells] at h3
  simp [loadVar, Sem.run_bind, h1, h2, h3, Result.andThen, loadCells]
theorem ret_tc (hres : fn.results = #[.tmp t, .cell c ty]) (hs : ∃ fs, P.underlying ty = some (.struct fs)) (hz : (P.info? ty).map (·.size) = some vs.length) (hd : a.defers = [])
    (hc : a.tmps.getD c undef = .pointer (some ⟨g, 0, none⟩)) (hb : w.heap[g]? = some (.cells vs.toArray t0)) (hR : R (.returned (.tuple #[a.tmps.getD t undef, .agg vs.toArray])) w) : bodyPost P fn R .ret a w := by
  have := run_cellvar hs hz hb
  have hc' : a.tmps[c]?.getD undef = .pointer (some ⟨g, 0, none⟩) := by simpa using hc
  exact bodyPost_ret (v := .tuple #[a.tmps.getD t undef, .agg vs.toArray]) (by simp [results, hres, hc', asAddr, Sem.run_bind, this, Result.andThen]) hd hR
theorem ret_ct (hres : fn.results = #[.cell c ty, .tmp t]) (hs : ∃ fs, P.underlying ty = some (.struct fs)) (hz : (P.info? ty).map (·.size) = some vs.length) (hd : a.defers = [])
    (hc : a.tmps.getD c undef = .pointer (some ⟨g, 0, none⟩)) (hb : w.heap[g]? = some (.cells vs.toArray t0)) (hR : R (.returned (.tuple #[.agg vs.toArray, a.tmps.getD t undef])) w) : bodyPost P fn R .ret a w := by
  have := run_cellvar hs hz hb
  have hc' : a.tmps[c]?.getD undef = .pointer (some ⟨g, 0, none⟩) := by simpa using hc
  exact bodyPost_ret (v := .tuple #[.agg vs.toArray, a.tmps.getD t undef]) (by simp [results, hres, hc', asAddr, Sem.run_bind, this, Result.andThen]) hd hR
theorem ret_c (hres : fn.results = #[.cell c ty]) (hs : ∃ fs, P.underlying ty = some (.struct fs)) (hz : (P.info? ty).map (·.size) = some vs.length) (hd : a.defers = [])
    (hc : a.tmps.getD c undef = .pointer (some ⟨g, 0, none⟩)) (hb : w.heap[g]? = some (.cells vs.toArray t0)) (hR : R (.returned (.agg vs.toArray)) w) : bodyPost P fn R .ret a w := by
  have := run_cellvar hs hz hb
  have hc' : a.tmps[c]?.getD undef = .pointer (some ⟨g, 0, none⟩) := by simpa using hc
  exact bodyPost_ret (v := .agg vs.toArray) (by simp [results, hres, hc', asAddr, Sem.run_bind, this, Result.andThen]) hd hR
end
end Go.Proofs.YtooigfkjdemnlaaGreatDoor

namespace Go.Proofs.YtooigfkjdemnlaaGreatDoor
open Go.RowKit Xw
section
variable {K : Type} [DecidableEq K] {α : Type} {P : Program} {kt : TypeId} {enc : K → Value} {ev : α → List Value} {w w' w1 w2 : World} {e : TypeId} {size mb : Nat} {f : K → List α} {C : Nat → Prop} {L : List (K × Value)}

theorem kget_kset (L : List (K × Value)) (k k' : K) (v : Value) : kget (kset L k v) k' = if k' = k then some v else kget L k' := by
  unfold kget kset
  by_cases hk : k ∈ L.map (·.1)
  · rw [if_pos hk]
    induction L with
    | nil => simp at hk
    | cons p r ih =>
      simp only [List.map_cons, List.find?_cons]
      by_cases h1 : p.1 = k
      · rw [if_pos h1]
        by_cases h2 : k' = k
        · subst h2; simp
        · rw [if_neg h2]
          have e1 : decide (k = k') = false := by simp [Ne.symm h2]
          have e2 : decide (p.1 = k') = false := by simp [h1, Ne.symm h2]
          simp only [e1, e2]
          by_cases h3 : k ∈ r.map (·.1)
          · have := ih h3
            rw [if_neg h2] at this
            exact this
          · have : r.map (fun p => if p.1 = k then (k, v) else p) = r := by
              conv => rhs; rw [← List.map_id r]
              apply List.map_congr_left
              intro q hq
              rw [if_neg (fun e' => h3 (by rw [← e']; exact List.mem_map_of_mem (f := (·.1)) hq))]; rfl
            rw [this]
      · rw [if_neg h1]
        have hr : k ∈ r.map (·.1) := by
          rcases List.mem_cons.1 hk with h | h
          · exact absurd h.symm h1
          · exact h
        by_cases h2 : p.1 = k'
        · have : k' ≠ k := fun e => h1 (h2.trans e)
          simp [h2, this]
        · simp only [h2, decide_false]
          exact ih hr
  · rw [if_neg hk, List.find?_append]
    by_cases h2 : k' = k
    · subst h2
      rw [if_pos rfl]
      have : L.find? (fun p => decide (p.1 = k')) = none := by
        rw [List.find?_eq_none]
        intro p hp
        simp only [decide_eq_true_eq]
        exact fun e' => hk (by rw [← e']; exact List.mem_map_of_mem (f := (·.1)) hp)
      simp [this]
    · rw [if_neg h2]
      have : ([(k, v)] : List (K × Value)).find? (fun p => decide (p.1 = k')) = none := by simp [Ne.symm h2]
      rw [this]
      cases L.find? (fun p => decide (p.1 = k')) <;> rfl
theorem keys_kset (L : List (K × Value)) (k : K) (v : Value) : (kset L k v).map (·.1) = if k ∈ L.map (·.1) then L.map (·.1) else L.map (·.1) ++ [k] := by
  unfold kset
  split
  · rw [List.map_map]
    apply List.map_congr_left
    intro p _
    by_cases h : p.1 = k <;> simp [h]
  · simp
theorem mem_kset (L : List (K × Value)) (k k' : K) (v : Value) : k' ∈ (kset L k v).map (·.1) ↔ k' ∈ L.map (·.1) ∨ k' = k := by
  rw [keys_kset]
  split
  · rename_i h
    constructor
    · exact .inl
    · rintro (h1 | rfl)
      · exact h1
      · exact h
  · simp
theorem kget_some {L : List (K × Value)} {k : K} {v : Value} (h : kget L k = some v) : (k, v) ∈ L := by
  unfold kget at h
  cases hf : L.find? (fun p => decide (p.1 = k)) with
  | none => rw [hf] at h; cases h
  | some p =>
    rw [hf] at h; cases h
    have := List.find?_some hf
    simp at this
    exact this ▸ List.mem_of_find?_eq_some hf
theorem kget_mem {L : List (K × Value)} (hn : (L.map (·.1)).Nodup) {k : K} {v : Value} (h : (k, v) ∈ L) : kget L k = some v := by
  unfold kget
  cases hf : L.find? (fun p => decide (p.1 = k)) with
  | none => have := List.find?_eq_none.1 hf _ h; simp at this
  | some p =>
    have h1 := List.mem_of_find?_eq_some hf
    have h2 := List.find?_some hf
    simp only [decide_eq_true_eq] at h2
    have := uniq_key (f := Prod.fst) hn h1 h h2
    rw [this]; rfl

theorem kdel_perm {L : List (K × Value)} (hn : (L.map (·.1)).Nodup) {p : K × Value} (hp : p ∈ L) : L.Perm (p :: kdel L p.1) := by
  induction L with
  | nil => cases hp
  | cons q r ih =>
    simp only [List.map_cons, List.nodup_cons] at hn
    by_cases h : q.1 = p.1
    · have hq : p = q := by
        rcases List.mem_cons.1 hp with h1 | h1
        · exact h1
        · exact absurd (by rw [h]; exact List.mem_map_of_mem (f := (·.1)) h1) hn.1
      subst hq
      have : kdel (p :: r) p.1 = r := by
        have h2 := kdel_none hn.1
        unfold kdel at h2 ⊢
        rw [List.filter_cons]
        simp only [decide_true, Bool.not_true, Bool.false_eq_true, if_false]
        exact h2
      rw [this]
    · have hp' : p ∈ r := by
        rcases List.mem_cons.1 hp with h1 | h1
        · exact absurd (by rw [h1]) h
        · exact h1
      have : kdel (q :: r) p.1 = q :: kdel r p.1 := by
        unfold kdel
        rw [List.filter_cons]
        simp [h]
      rw [this]
      exact ((ih hn.2 hp').cons q).trans (List.Perm.swap p q _)
theorem kdel_len {L : List (K × Value)} (hn : (L.map (·.1)).Nodup) {p : K × Value} (hp : p ∈ L) : (kdel L p.1).length + 1 = L.length := by
  have := (kdel_perm hn hp).length_eq
  simpa using this.symm
theorem MIter.nodup {b r : Nat} {rem : List (K × Value)} (h : MIter enc w r b L rem) : (rem.map (·.1)).Nodup := (h.sub.map _).nodup h.map.nodup
theorem MIter.left {b r : Nat} {rem : List (K × Value)} (h : MIter enc w r b L rem) : w.rangeLeft b r = rem.length := by
  obtain ⟨es, clk, since, seen, c0, h1, h2, h3, h4, h5, h6, h7, h8, h9, h10⟩ := h
  simp only [World.rangeLeft, h1, h8]
  have := congrArg List.length h9
  simp only [List.length_map] at this
  rw [← this, ← Array.length_toList]
  simp [leftOf]
def OwnM (enc : K → Value) (e : TypeId) (size : Nat) (ev : α → List Value) (w : World) (mb : Nat) (f : K → List α) (C : Nat → Prop) (L : List (K × Value)) : Prop :=
  C mb ∧ KMap enc w mb L ∧ (∀ k, k ∈ L.map (·.1) ↔ f k ≠ []) ∧ ∃ col : K → Nat → Prop, (∀ k, Sl w e size ((kget L k).getD (.slice none 0 0)) (f k).length ((f k).flatMap ev) (col k)) ∧ (∀ k j, col k j → C j ∧ j ≠ mb) ∧ ∀ k k' j, col k j → col k' j → k = k'

theorem OwnM.chg {F : Nat → Prop} (h : OwnM enc e size ev w mb f C L) (hc : Chg F w w') (hd : ∀ j, C j → ¬ F j) : OwnM enc e size ev w' mb f C L := by
  obtain ⟨hm, hk, hl, col, h1, h2, h3⟩ := h
  exact ⟨hm, hk.chg hc (hd _ hm), hl, col, fun k => (h1 k).chg hc (fun j hj => hd j (h2 k j hj).1), h2, h3⟩
theorem OwnM.mono {C' : Nat → Prop} (h : OwnM enc e size ev w mb f C L) (hc : ∀ j, C j → C' j) : OwnM enc e size ev w mb f C' L := by
  obtain ⟨hm, hk, hl, col, h1, h2, h3⟩ := h
  exact ⟨hc _ hm, hk, hl, col, h1, fun k j hj => ⟨hc _ (h2 k j hj).1, (h2 k j hj).2⟩, h3⟩
theorem OwnM.made (enc : K → Value) (e : TypeId) (size : Nat) (ev : α → List Value) (w : World) : OwnM enc e size ev (w.alloc (.map #[] 0)) w.heap.size (fun _ => []) (fun j => j = w.heap.size) [] :=
  ⟨rfl, KMap.made enc w, by simp, fun _ _ => False, fun k => by simpa [kget] using Sl.nil _ e size _, fun _ _ h => h.elim, fun _ _ _ h => h.elim⟩
theorem OwnM.at_ (h : OwnM enc e size ev w mb f C L) (k : K) : ∃ F : Nat → Prop, Sl w e size ((kget L k).getD (.slice none 0 0)) (f k).length ((f k).flatMap ev) F ∧ (∀ j, F j → C j ∧ j ≠ mb) ∧
    ∀ (w4 w5 : World) (v2 : Value) (l2 : List α) (F4 : Nat → Prop), l2 ≠ [] → Sl w4 e size v2 l2.length (l2.flatMap ev) F4 → (∀ j, F4 j → F j ∨ (w.heap.size ≤ j ∧ j < w4.heap.size)) → Chg F w w4 → KMap enc w5 mb (kset L k v2) → Chg (fun j => j = mb) w4 w5 →
      (∀ j, C j → j < w.heap.size) → OwnM enc e size ev w5 mb (fun k' => if k' = k then l2 else f k') (fun j => C j ∨ (w.heap.size ≤ j ∧ j < w4.heap.size)) (kset L k v2) := by
  obtain ⟨hm, hk, hl, col, h1, h2, h3⟩ := h
  refine ⟨col k, h1 k, h2 k, fun w4 w5 v2 l2 F4 hne hs hf hc hk5 hc5 hC => ⟨.inl hm, hk5, fun k' => ?_, fun k' j => if k' = k then F4 j else col k' j, fun k' => ?_, fun k' j hj => ?_, fun k1 k2 j h4 h5 => ?_⟩⟩
  · rw [mem_kset]
    by_cases e : k' = k
    · subst e; simp [hne]
    · simp only [if_neg e, or_iff_left e]; exact hl k'
  · rw [kget_kset]
    by_cases e : k' = k
    · subst e
      simp only [if_true, Option.getD_some]
      refine hs.chg hc5 fun j hj ej => ?_
      rcases hf j hj with h | ⟨h, _⟩
      · exact (h2 k' j h).2 ej
      · have := hC _ hm; omega
    · simp only [if_neg e]
      exact ((h1 k').chg hc (fun j hj hj' => e (h3 _ _ _ hj hj'))).chg hc5 (fun j hj => (h2 _ _ hj).2)
  · by_cases e : k' = k
    · subst e
      simp only [if_true] at hj
      rcases hf j hj with h | h
      · exact ⟨.inl (h2 _ _ h).1, (h2 _ _ h).2⟩
      · exact ⟨.inr h, by have := hC _ hm; omega⟩
    · simp only [if_neg e] at hj
      exact ⟨.inl (h2 _ _ hj).1, (h2 _ _ hj).2⟩
  · have hn : ∀ k' j, k' ≠ k → col k' j → F4 j → False := fun k' j e h6 h7 => by
      rcases hf j h7 with h | ⟨h, _⟩
      · exact e (h3 _ _ _ h6 h)
      · have := hC _ (h2 _ _ h6).1; omega
    by_cases e1 : k1 = k <;> by_cases e2 : k2 = k
    · exact e1.trans e2.symm
    · simp only [if_pos e1] at h4; simp only [if_neg e2] at h5; exact (hn _ _ e2 h5 h4).elim
    · simp only [if_neg e1] at h4; simp only [if_pos e2] at h5; exact (hn _ _ e1 h4 h5).elim
    · simp only [if_neg e1] at h4; simp only [if_neg e2] at h5; exact h3 _ _ _ h4 h5
end
theorem OwnM.mapOf {α : Type} {ev : α → List Value} {w : World} {e : TypeId} {size mb : Nat} {f : ByteArray → List α} {C : Nat → Prop} {L : List (ByteArray × Value)} {B : Nat} (henc : ∀ x, (ev x).length = size) (h : OwnM Value.string e size ev w mb f C L) (hB : w.heap.size ≤ B) : MapOf w B mb size ev f := by
  obtain ⟨hm, hk, hl, col, h1, h2, h3⟩ := h
  refine ⟨Nat.lt_of_lt_of_le hk.lt hB, L, hk, fun k v hv => ⟨(hl k).1 (List.mem_map_of_mem (f := (·.1)) hv), ?_⟩, fun k hn => (hl k).2 hn⟩
  have := h1 k
  rw [kget_mem hk.nodup hv] at this
  exact Rows.of_sl henc this hB
end Go.Proofs.YtooigfkjdemnlaaGreatDoor
