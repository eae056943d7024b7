/- Own texts of this claim, joined in build order: Rep, Led, Tw1, Pp. -/
import Derived.Test.YtooigfkjdemnlaaGreatDoorL02
import Derived.Maps.OwnOps
import Derived.Maps.RangeWalk
import Derived.WalkKit
import Derived.Test.YtooigfkjdemnlaaGreatDoorL01
set_option linter.all false
namespace Go.Proofs.YtooigfkjdemnlaaGreatDoor
open Go.RowKit Xw

def Rows {α : Type} (w : World) (B size : Nat) (R : World → List Value → α → Prop) (v : Value) (l : List α) : Prop :=
  (l = [] ∧ ∃ A c, v = .slice A 0 c ∧ c ≤ maxLen) ∨
  ∃ b o c, v = .slice (some ⟨b, o, none⟩) l.length c ∧ b < B ∧ l.length ≤ c ∧ c ≤ maxLen ∧ l ≠ [] ∧
    ∀ i x, l[i]? = some x → ∃ cs : List Value, cs.length = size ∧ R w cs x ∧ ∀ j u, cs[j]? = some u → w.cell? ⟨b, o + i * size + j, none⟩ = some u

def Flat {α : Type} (enc : α → List Value) (w : World) (cs : List Value) (x : α) : Prop := cs = enc x

section
variable {α : Type} {w w' : World} {B B' size : Nat} {R R' : World → List Value → α → Prop} {v : Value} {l : List α}

theorem Rows.shape (h : Rows w B size R v l) : ∃ A c, v = .slice A l.length c ∧ l.length ≤ c ∧ c ≤ maxLen := by
  rcases h with ⟨rfl, A, c, rfl, hc⟩ | ⟨b, o, c, rfl, _, h1, h2, _⟩
  · exact ⟨A, c, rfl, by simp, hc⟩
  · exact ⟨_, _, rfl, h1, h2⟩
theorem Rows.nil (c : Nat) (hc : c ≤ maxLen) (A : Option Addr) : Rows w B size R (.slice A 0 c) ([] : List α) := .inl ⟨rfl, A, c, rfl, hc⟩
theorem Rows.keep (h : Rows w B size R v l) (hk : ∀ j, j < B → w'.heap[j]? = w.heap[j]?) (hR : ∀ cs x, x ∈ l → R w cs x → R' w' cs x) : Rows w' B size R' v l := by
  rcases h with h | ⟨b, o, c, hv, hb, h1, h2, h3, h4⟩
  · exact .inl h
  · refine .inr ⟨b, o, c, hv, hb, h1, h2, h3, fun i x hx => ?_⟩
    obtain ⟨cs, e1, e2, e3⟩ := h4 i x hx
    exact ⟨cs, e1, hR cs x (List.mem_of_getElem? hx) e2, fun j u hu => (World.cell?_of_block (hk b hb)).trans (e3 j u hu)⟩
theorem Rows.more (h : Rows w B size R v l) (hB : B ≤ B') (hR : ∀ cs x, x ∈ l → R w cs x → R' w cs x) : Rows w B' size R' v l := by
  rcases h with h | ⟨b, o, c, hv, hb, h1, h2, h3, h4⟩
  · exact .inl h
  · refine .inr ⟨b, o, c, hv, Nat.lt_of_lt_of_le hb hB, h1, h2, h3, fun i x hx => ?_⟩
    obtain ⟨cs, e1, e2, e3⟩ := h4 i x hx
    exact ⟨cs, e1, hR cs x (List.mem_of_getElem? hx) e2, e3⟩
theorem Rows.at_ (h : Rows w B size R v l) {i : Nat} {x : α} (hx : l[i]? = some x) : ∃ b o c cs, v = .slice (some ⟨b, o, none⟩) l.length c ∧ b < B ∧ l.length ≤ c ∧ c ≤ maxLen ∧ cs.length = size ∧ R w cs x ∧ ∀ j u, cs[j]? = some u → w.cell? ⟨b, o + i * size + j, none⟩ = some u := by
  rcases h with ⟨rfl, _⟩ | ⟨b, o, c, hv, hb, h1, h2, h3, h4⟩
  · simp at hx
  · obtain ⟨cs, e1, e2, e3⟩ := h4 i x hx
    exact ⟨b, o, c, cs, hv, hb, h1, h2, e1, e2, e3⟩
theorem Rows.flat {enc : α → List Value} (h : Rows w B size (Flat enc) v l) (hk : ∀ j, j < B → w'.heap[j]? = w.heap[j]?) : Rows w' B size (Flat enc) v l := h.keep hk fun _ _ _ h => h
theorem Rows.flatMore {enc : α → List Value} (h : Rows w B size (Flat enc) v l) (hB : B ≤ B') : Rows w B' size (Flat enc) v l := h.more hB fun _ _ _ h => h

theorem Rows.reads {enc : α → List Value} (henc : ∀ x, (enc x).length = size) (h : Rows w B size (Flat enc) v l) : ∃ A c, v = .slice A l.length c ∧ Reads w B size A l.length (l.flatMap enc) := by
  have hl : (l.flatMap enc).length = l.length * size := by
    clear h
    induction l with
    | nil => simp
    | cons a r ih => rw [List.flatMap_cons, List.length_append, ih, henc, List.length_cons, Nat.succ_mul]; omega
  rcases h with ⟨rfl, A, c, rfl, hc⟩ | ⟨b, o, c, hv, hb, h1, h2, h3, h4⟩
  · exact ⟨A, c, rfl, by simp, fun h => absurd h (by simp)⟩
  · refine ⟨_, c, hv, hl, fun hp0 => ⟨_, rfl, hb, fun j u hj => ?_⟩⟩
    have hjl : j < l.length * size := by rw [← hl]; exact (List.getElem?_eq_some_iff.1 hj).1
    have hs : 0 < size := by
      rcases Nat.eq_zero_or_pos size with h0 | h0
      · subst h0; simp at hjl
      · exact h0
    have hi : j / size < l.length := Nat.div_lt_of_lt_mul (by rw [Nat.mul_comm]; exact hjl)
    obtain ⟨cs, e1, e2, e3⟩ := h4 (j / size) _ (List.getElem?_eq_getElem hi)
    have hdm : j / size * size + j % size = j := by rw [Nat.mul_comm]; exact Nat.div_add_mod j size
    have hget : (l.flatMap enc)[j / size * size + j % size]? = (enc l[j / size])[j % size]? := by
      have hm : j % size < size := Nat.mod_lt _ hs
      generalize j % size = m at hm
      generalize j / size = k at hi
      clear hj hjl hdm e3 e2 e1 h4 hl hv h3 h2 h1 hp0
      induction l generalizing k with
      | nil => simp at hi
      | cons a r ih =>
        rw [List.flatMap_cons]
        cases k with
        | zero => rw [Nat.zero_mul, Nat.zero_add, List.getElem?_append_left (by rw [henc]; exact hm)]; rfl
        | succ k =>
          rw [List.getElem?_append_right (by rw [henc, Nat.succ_mul]; omega), henc, show (k + 1) * size + m - size = k * size + m by rw [Nat.succ_mul]; omega]
          exact ih k (by simpa using hi)
    rw [hdm] at hget
    rw [hget] at hj
    have := e3 (j % size) u (by rw [e2]; exact hj)
    have e : (⟨b, o, none⟩ : Addr).add j = ⟨b, o + j, none⟩ := by unfold Addr.add; split <;> simp_all
    rw [e, ← hdm, ← Nat.add_assoc]; exact this
theorem Rows.of_sl {enc : α → List Value} {e : TypeId} {F : Nat → Prop} (henc : ∀ x, (enc x).length = size) (h : Sl w e size v l.length (l.flatMap enc) F) (hB : w.heap.size ≤ B) : Rows w B size (Flat enc) v l := by
  rcases h.2 with ⟨rfl, h0⟩ | ⟨g, off, cap, cur, rfl, hF, hb, hn, hm, hs, ht⟩
  · have : l = [] := List.eq_nil_of_length_eq_zero h0
    subst this
    exact .inl ⟨rfl, none, 0, rfl, by simp⟩
  · by_cases hl0 : l = []
    · subst hl0; exact .inl ⟨rfl, _, cap, rfl, hm⟩
    · refine .inr ⟨g, off, cap, rfl, Nat.lt_of_lt_of_le (lt_of_heap hb) hB, hn, hm, hl0, fun i x hx => ⟨enc x, henc x, rfl, fun j u hu => ?_⟩⟩
      have hil : i < l.length := (List.getElem?_eq_some_iff.1 hx).1
      have hjl : j < size := by rw [← henc x]; exact (List.getElem?_eq_some_iff.1 hu).1
      have hget : (l.flatMap enc)[i * size + j]? = (enc x)[j]? := by
        clear h ht hs hl0 hn hu
        induction l generalizing i with
        | nil => simp at hil
        | cons a r ih =>
          rw [List.flatMap_cons]
          cases i with
          | zero => rw [Nat.zero_mul, Nat.zero_add, List.getElem?_append_left (by rw [henc]; exact hjl)]; simp at hx; rw [hx]
          | succ k =>
            rw [List.getElem?_append_right (by rw [henc, Nat.succ_mul]; omega), henc, show (k + 1) * size + j - size = k * size + j by rw [Nat.succ_mul]; omega]
            exact ih k (by simpa using hx) (by simpa using hil)
      rw [cell_of_row w g _ _ _ _ hb]
      rw [← hget, ← ht, List.getElem?_take] at hu
      split at hu
      · rw [List.getElem?_drop] at hu
        rw [Nat.add_assoc]
        simpa using hu
      · cases hu
end

section
variable {K : Type} [DecidableEq K] {P : Program} {kt : TypeId} {L : List (K × Value)} {w : World} {b : Nat} {ops : Array Oper} {rest : List Oper} {o : Oper} {a : Act} {Q : Exit → Act → World → Prop}

theorem wpList_wanted (hw : Region.wanted o (yielded ops a.tmps) = true) (h : ∀ K : Act → World → Prop, (∀ a w, wpList P ops Q rest a w → K a w) → o.wp P a w K Q) : wpList P ops Q (o :: rest) a w :=
  wpList_step fun K hK => by rw [if_pos hw]; exact h K hK

theorem wpList_lookup_k (E : KeyEnc P kt K) (m x : Operand) (t et : TypeId) (hop : o.op = .lookup t m x false) (hw : Region.wanted o (yielded ops a.tmps) = true) (ht : P.underlying t = some (.map kt et)) (z : Value) (hz : ∀ w, (zeroValue et).run P w = .ok z w)
    (b : Nat) (k : K) (hm : a.eval m = .map (some b)) (hx : a.eval x = E.enc k) (h : KMap E.enc w b L) (hK : wpList P ops Q rest (a.put o.dst ((kget L k).getD z)) w) : wpList P ops Q (o :: rest) a w := by
  refine wpList_wanted hw fun K' hK' => ?_
  have hrun := run_lookup_kmap E ht (hz w) h k false
  unfold Oper.wp
  simp [execOp, hop, hm, hx, hrun, Result.andThen]
  exact hK' _ _ hK
theorem wpList_lookup_ok_k (E : KeyEnc P kt K) (m x : Operand) (t et : TypeId) (hop : o.op = .lookup t m x true) (hw : Region.wanted o (yielded ops a.tmps) = true) (ht : P.underlying t = some (.map kt et)) (z : Value) (hz : ∀ w, (zeroValue et).run P w = .ok z w)
    (b : Nat) (k : K) (hm : a.eval m = .map (some b)) (hx : a.eval x = E.enc k) (h : KMap E.enc w b L) (hK : wpList P ops Q rest (a.put o.dst (.tuple #[(kget L k).getD z, .bool (kget L k).isSome])) w) : wpList P ops Q (o :: rest) a w := by
  refine wpList_wanted hw fun K' hK' => ?_
  have hrun := run_lookup_kmap E ht (hz w) h k true
  unfold Oper.wp
  simp [execOp, hop, hm, hx, hrun, Result.andThen]
  exact hK' _ _ hK
theorem wpList_store_k (E : KeyEnc P kt K) (m x v : Operand) (t et : TypeId) (hop : o.op = .mapUpdate t m x v) (hw : Region.wanted o (yielded ops a.tmps) = true) (ht : P.underlying t = some (.map kt et))
    (b : Nat) (k : K) (u : Value) (hm : a.eval m = .map (some b)) (hx : a.eval x = E.enc k) (hv : a.eval v = u) (h : KMap E.enc w b L)
    (hK : ∀ w', KMap E.enc w' b (kset L k u) → Chg (fun j => j = b) w w' → wpList P ops Q rest (a.put o.dst undef) w') : wpList P ops Q (o :: rest) a w := by
  refine wpList_wanted hw fun K' hK' => ?_
  obtain ⟨w', hrun, h1, h2⟩ := run_store_kmap E ht h k u
  unfold Oper.wp
  simp [execOp, hop, hm, hx, hv, hrun, Result.andThen]
  exact hK' _ _ (hK w' h1 h2)
theorem wpList_delete_k (E : KeyEnc P kt K) (m x : Operand) (t et : TypeId) (ats : Array TypeId) (hop : o.op = Op.call { callee := Callee.builtin Builtin.delete, args := #[m, x], argTypes := ats }) (hat : ats[0]? = some t) (hw : Region.wanted o (yielded ops a.tmps) = true) (ht : P.underlying t = some (.map kt et))
    (b : Nat) (k : K) (hm : a.eval m = .map (some b)) (hx : a.eval x = E.enc k) (h : KMap E.enc w b L)
    (hK : ∀ w', KMap E.enc w' b (kdel L k) → Chg (fun j => j = b) w w' → wpList P ops Q rest (a.put o.dst (.tuple #[])) w') : wpList P ops Q (o :: rest) a w := by
  refine wpList_wanted hw fun K' hK' => ?_
  obtain ⟨w', hrun, h1, h2⟩ := run_delete_kmap E ht h k o.type ats hat
  unfold Oper.wp
  simp [execOp, hop, resolve, invoke, builtin, hm, hx, hrun, Result.andThen]
  exact hK' _ _ (hK w' h1 h2)
theorem wpList_len_k {enc : K → Value} (m : Operand) (t et kt' : TypeId) (ats : Array TypeId) (hop : o.op = Op.call { callee := Callee.builtin Builtin.len, args := #[m], argTypes := ats }) (hat : ats[0]? = some t) (hw : Region.wanted o (yielded ops a.tmps) = true) (ht : P.underlying t = some (.map kt' et))
    (b : Nat) (hm : a.eval m = .map (some b)) (h : KMap enc w b L)
    (hK : wpList P ops Q rest (a.put o.dst (.int .i64 L.length)) w) : wpList P ops Q (o :: rest) a w := by
  refine wpList_wanted hw fun K' hK' => ?_
  have hrun := run_len_kmap (P := P) ht h o.type ats hat
  unfold Oper.wp
  simp [execOp, hop, resolve, invoke, builtin, hm, hrun, Result.andThen]
  exact hK' _ _ hK
theorem wpList_mapEntry_k (E : KeyEnc P kt K) (m x : Operand) (t et : TypeId) (hop : o.op = .mapEntry t m x) (hw : Region.wanted o (yielded ops a.tmps) = true) (ht : P.underlying t = some (.map kt et)) (z : Value) (hz : ∀ w, (zeroValue et).run P w = .ok z w)
    (b : Nat) (k : K) (hm : a.eval m = .map (some b)) (hx : a.eval x = E.enc k) (h : KMap E.enc w b L)
    (hK : ∀ w' (s : Nat), Chg (fun j => j = b) w w' → KMap E.enc w' b (kset L k ((kget L k).getD z)) →
      (∀ (w1 : World) (v : Value) (ty : TypeId), w1.heap[b]? = w'.heap[b]? → ∃ w2, (Instr.entryStore ty (.map (some b)) (goInt s) v).run P w1 = .ok () w2 ∧ KMap E.enc w2 b (kset L k v) ∧ Chg (fun j => j = b) w1 w2) →
      wpList P ops Q rest (a.put o.dst (.tuple #[(kget L k).getD z, goInt s])) w') : wpList P ops Q (o :: rest) a w := by
  refine wpList_wanted hw fun K' hK' => ?_
  obtain ⟨w', s, hrun, h1, h2, h3⟩ := run_mapEntry_kmap E ht hz h k
  unfold Oper.wp
  simp [execOp, hop, hm, hx, hrun, Result.andThen]
  exact hK' _ _ (hK w' s h1 h2 h3)
theorem wpList_entryStore_k (m x v : Operand) (t : TypeId) (hop : o.op = .entryStore t m x v) (hw : Region.wanted o (yielded ops a.tmps) = true) {enc : K → Value} {L' : List (K × Value)}
    (b : Nat) (s : Value) (u : Value) (hm : a.eval m = .map (some b)) (hx : a.eval x = s) (hv : a.eval v = u)
    (h : ∃ w2, (Instr.entryStore t (.map (some b)) s u).run P w = .ok () w2 ∧ KMap enc w2 b L' ∧ Chg (fun j => j = b) w w2)
    (hK : ∀ w', KMap enc w' b L' → Chg (fun j => j = b) w w' → wpList P ops Q rest (a.put o.dst undef) w') : wpList P ops Q (o :: rest) a w := by
  refine wpList_wanted hw fun K' hK' => ?_
  obtain ⟨w', hrun, h1, h2⟩ := h
  unfold Oper.wp
  simp [execOp, hop, hm, hx, hv, hrun, Result.andThen]
  exact hK' _ _ (hK w' h1 h2)
theorem wpList_range_k {enc : K → Value} (m : Operand) (t et kt' : TypeId) (hop : o.op = .range t m) (hw : Region.wanted o (yielded ops a.tmps) = true) (ht : P.underlying t = some (.map kt' et))
    (b : Nat) (hm : a.eval m = .map (some b)) (h : KMap enc w b L)
    (hK : ∀ o', MIter enc (w.alloc o') w.heap.size b L L → wpList P ops Q rest (a.put o.dst (.pointer (some ⟨w.heap.size, 0, none⟩))) (w.alloc o')) : wpList P ops Q (o :: rest) a w := by
  refine wpList_wanted hw fun K' hK' => ?_
  obtain ⟨o', hrun, h1⟩ := run_range_kmap (P := P) ht h
  unfold Oper.wp
  simp [execOp, hop, hm, hrun, Result.andThen]
  exact hK' _ _ (hK o' h1)
theorem wpList_next_k {enc : K → Value} {rem : List (K × Value)} {r : Nat} (it : Operand) (hop : o.op = .next it false) (hw : Region.wanted o (yielded ops a.tmps) = true)
    (hit : a.eval it = .pointer (some ⟨r, 0, none⟩)) (h : MIter enc w r b L rem)
    (hDone : rem = [] → wpList P ops Q rest (a.put o.dst (.tuple #[.bool false])) w)
    (hMore : ∀ p ∈ rem, ∀ w', MIter enc w' r b L (kdel rem p.1) → Chg (fun j => j = r) w w' → w'.heap.size = w.heap.size → (Instr.entry (.pointer (some ⟨r, 0, none⟩))).run P w' = .ok (.tuple #[enc p.1, p.2]) w' →
      wpList P ops Q rest (a.put o.dst (.tuple #[.bool true, enc p.1, p.2])) w') : wpList P ops Q (o :: rest) a w := by
  refine wpList_wanted hw fun K' hK' => ?_
  unfold Oper.wp
  rcases run_next_kmap (P := P) h o.type with ⟨h0, hrun⟩ | ⟨p, hp, w', hrun, h1, h2, h3, h4⟩
  · simp [execOp, hop, hit, hrun, Result.andThen]
    exact hK' _ _ (hDone h0)
  · simp [execOp, hop, hit, hrun, Result.andThen]
    exact hK' _ _ (hMore p hp w' h1 h2 h3 h4)
end
end Go.Proofs.YtooigfkjdemnlaaGreatDoor

namespace Go.Proofs.YtooigfkjdemnlaaGreatDoor
open Go.RowKit Xw

def verC (v : HVer) : List Value := [.string v.key, .int .i64 v.frm, .int .i64 v.nth]
def opC (sv : Value) (o : HOpr) : List Value := [.int .i64 o.kind, .string o.ver.key, .int .i64 o.ver.frm, .int .i64 o.ver.nth, .bool o.dead, .string o.value, .string o.hi, sv, .int .u64 o.at_]
def txC (ov : Value) (x : HTx) : List Value := [.int .i64 x.iso, .int .i64 x.fate, .int .u64 x.bgn, .int .u64 x.fin, .int .i64 x.bi, .int .i64 x.bo, .int .i64 x.ei, .int .i64 x.eo, ov]
def wroteC (u : Wrote) : List Value := [.int .i64 u.op, .bool u.dead, .string u.value]
def instC (u : Inst) : List Value := [.int .i64 u.txn, .int .u64 u.fin, .bool u.dead]
def edgeC (e : Edge) : List Value := [.int .i64 e.frm, .int .i64 e.to, .int .i64 e.kind, .string e.key]
def strC (s : ByteArray) : List Value := [.string s]

def OpR (B : Nat) (w : World) (cs : List Value) (o : HOpr) : Prop := ∃ sv, cs = opC sv o ∧ Rows w B 3 (Flat verC) sv o.seen
def TxR (B : Nat) (w : World) (cs : List Value) (x : HTx) : Prop := ∃ ov, cs = txC ov x ∧ Rows w B 9 (OpR B) ov x.ops
def HistV (w : World) (B : Nat) (v : Value) (h : List HTx) : Prop := Rows w B 9 (TxR B) v h

def MapOf {α : Type} (w : World) (B mb size : Nat) (enc : α → List Value) (f : ByteArray → List α) : Prop :=
  mb < B ∧ ∃ L, KMap Value.string w mb L ∧ (∀ k v, (k, v) ∈ L → f k ≠ [] ∧ Rows w B size (Flat enc) v (f k)) ∧ ∀ k, f k ≠ [] → k ∈ L.map (·.1)

def WrR (B : Nat) (w : World) (cs : List Value) (x : HTx) : Prop := ∃ mb, cs = [.map (some mb)] ∧ MapOf w B mb 3 wroteC (writes x)

structure Led (w : World) (B lp : Nat) (h : List HTx) : Prop where
  ex : ∃ tv wv ob kv ty, w.heap[lp]? = some (.cells #[tv, wv, .map (some ob), kv] ty) ∧ HistV w B tv h ∧ Rows w B 1 (WrR B) wv h ∧ MapOf w B ob 3 instC (order h) ∧ Rows w B 1 (Flat strC) kv (keysOf h)
  lt : lp < B
  le : B ≤ w.heap.size

section
variable {w w' : World} {B B' lp : Nat} {h : List HTx} {v : Value}
theorem OpR.keep {cs : List Value} {o : HOpr} (hh : OpR B w cs o) (hk : ∀ j, j < B → w'.heap[j]? = w.heap[j]?) : OpR B w' cs o := let ⟨sv, e, r⟩ := hh; ⟨sv, e, r.flat hk⟩
theorem TxR.keep {cs : List Value} {x : HTx} (hh : TxR B w cs x) (hk : ∀ j, j < B → w'.heap[j]? = w.heap[j]?) : TxR B w' cs x := let ⟨ov, e, r⟩ := hh; ⟨ov, e, r.keep hk fun _ _ _ h => h.keep hk⟩
theorem HistV.keep (hh : HistV w B v h) (hk : ∀ j, j < B → w'.heap[j]? = w.heap[j]?) : HistV w' B v h := Rows.keep hh hk fun _ _ _ h => h.keep hk
theorem MapOf.keep {α : Type} {mb size : Nat} {enc : α → List Value} {f : ByteArray → List α} (hh : MapOf w B mb size enc f) (hk : ∀ j, j < B → w'.heap[j]? = w.heap[j]?) : MapOf w' B mb size enc f := by
  obtain ⟨hlt, L, h1, h2, h3⟩ := hh
  exact ⟨hlt, L, h1.keep (hk _ hlt), fun k v hm => ⟨(h2 k v hm).1, (h2 k v hm).2.flat hk⟩, h3⟩
theorem WrR.keep {cs : List Value} {x : HTx} (hh : WrR B w cs x) (hk : ∀ j, j < B → w'.heap[j]? = w.heap[j]?) : WrR B w' cs x := let ⟨mb, e, r⟩ := hh; ⟨mb, e, r.keep hk⟩
theorem Led.keep (hh : Led w B lp h) (hk : ∀ j, j < B → w'.heap[j]? = w.heap[j]?) (hz : w.heap.size ≤ w'.heap.size) : Led w' B lp h := by
  obtain ⟨⟨tv, wv, ob, kv, ty, h1, h2, h3, h4, h5⟩, hl, hle⟩ := hh
  exact ⟨⟨tv, wv, ob, kv, ty, (hk _ hl).trans h1, h2.keep hk, h3.keep hk fun _ _ _ h => h.keep hk, h4.keep hk, h5.flat hk⟩, hl, Nat.le_trans hle hz⟩
theorem Led.below {n : Nat} (hh : Led w B lp h) (hb : Below n w w') (hn : B ≤ n) : Led w' B lp h := hh.keep (fun j hj => hb.block j (Nat.lt_of_lt_of_le hj hn)) hb.size
theorem Led.chg {F : Nat → Prop} (hh : Led w B lp h) (hc : Chg F w w') (hF : ∀ j, j < B → ¬ F j) : Led w' B lp h := hh.keep (fun j hj => hc.block j (Nat.lt_of_lt_of_le hj hh.le) (hF j hj)) hc.size

theorem Led.drew (hh : Led w B lp h) : Led w.drew B lp h := hh.keep (fun _ _ => rfl) (Nat.le_refl _)
theorem MapOf.look {α : Type} {mb size : Nat} {enc : α → List Value} {f : ByteArray → List α} (hh : MapOf w B mb size enc f) : ∃ L, KMap Value.string w mb L ∧ ∀ k, Rows w B size (Flat enc) ((kget L k).getD (.slice none 0 0)) (f k) := by
  obtain ⟨hlt, L, h1, h2, h3⟩ := hh
  refine ⟨L, h1, fun k => ?_⟩
  unfold kget
  cases hf : L.find? (fun p => decide (p.1 = k)) with
  | none =>
    by_cases hk : f k = []
    · rw [hk]; exact Rows.nil _ (by simp) _
    · obtain ⟨p, hp, e⟩ := List.mem_map.1 (h3 k hk)
      have := List.find?_eq_none.1 hf p hp
      simp [e] at this
  | some p =>
    have hm := List.mem_of_find?_eq_some hf
    have hk : p.1 = k := by simpa using List.find?_some hf
    simpa [hk] using (h2 p.1 p.2 hm).2
end

section
variable {α : Type} {w wr : World} {B size : Nat} {enc : α → List Value} {v : Value} {l : List α} {i : Nat} {x : α} {a0 a1 a2 a3 : Value} {h : List HTx}
theorem Rows.get1 (hh : Rows w B 1 (Flat enc) v l) (hx : l[i]? = some x) (hk : ∀ j, j < B → wr.heap[j]? = w.heap[j]?) (he : enc x = [a0]) :
    ∃ b o c, v = .slice (some ⟨b, o, none⟩) l.length c ∧ b < B ∧ wr.cell? ⟨b, o + i, none⟩ = some a0 := by
  obtain ⟨b, o, c, cs, hv, hb, -, -, -, rfl, hc⟩ := hh.at_ hx
  rw [he] at hc
  exact ⟨b, o, c, hv, hb, (World.cell?_of_block (hk b hb)).trans (by simpa using hc 0 _ rfl)⟩
theorem Rows.get3 (hh : Rows w B 3 (Flat enc) v l) (hx : l[i]? = some x) (hk : ∀ j, j < B → wr.heap[j]? = w.heap[j]?) (he : enc x = [a0, a1, a2]) :
    ∃ b o c, v = .slice (some ⟨b, o, none⟩) l.length c ∧ b < B ∧ wr.cell? ⟨b, o + i * 3, none⟩ = some a0 ∧ wr.cell? ⟨b, o + i * 3 + 1, none⟩ = some a1 ∧ wr.cell? ⟨b, o + i * 3 + 2, none⟩ = some a2 := by
  obtain ⟨b, o, c, cs, hv, hb, -, -, -, rfl, hc⟩ := hh.at_ hx
  rw [he] at hc
  have hc' : ∀ j u, [a0, a1, a2][j]? = some u → wr.cell? ⟨b, o + i * 3 + j, none⟩ = some u := fun j u hu => (World.cell?_of_block (hk b hb)).trans (hc j u hu)
  exact ⟨b, o, c, hv, hb, by simpa using hc' 0 _ rfl, hc' 1 _ rfl, hc' 2 _ rfl⟩
theorem Rows.get4 (hh : Rows w B 4 (Flat enc) v l) (hx : l[i]? = some x) (hk : ∀ j, j < B → wr.heap[j]? = w.heap[j]?) (he : enc x = [a0, a1, a2, a3]) :
    ∃ b o c, v = .slice (some ⟨b, o, none⟩) l.length c ∧ b < B ∧ wr.cell? ⟨b, o + i * 4, none⟩ = some a0 ∧ wr.cell? ⟨b, o + i * 4 + 1, none⟩ = some a1 ∧ wr.cell? ⟨b, o + i * 4 + 2, none⟩ = some a2 ∧ wr.cell? ⟨b, o + i * 4 + 3, none⟩ = some a3 := by
  obtain ⟨b, o, c, cs, hv, hb, -, -, -, rfl, hc⟩ := hh.at_ hx
  rw [he] at hc
  have hc' : ∀ j u, [a0, a1, a2, a3][j]? = some u → wr.cell? ⟨b, o + i * 4 + j, none⟩ = some u := fun j u hu => (World.cell?_of_block (hk b hb)).trans (hc j u hu)
  exact ⟨b, o, c, hv, hb, by simpa using hc' 0 _ rfl, hc' 1 _ rfl, hc' 2 _ rfl, hc' 3 _ rfl⟩
structure TxAt (wr : World) (b p : Nat) (x : HTx) (ov : Value) : Prop where
  c0 : wr.cell? ⟨b, p, none⟩ = some (.int .i64 x.iso)
  c1 : wr.cell? ⟨b, p + 1, none⟩ = some (.int .i64 x.fate)
  c2 : wr.cell? ⟨b, p + 2, none⟩ = some (.int .u64 x.bgn)
  c3 : wr.cell? ⟨b, p + 3, none⟩ = some (.int .u64 x.fin)
  c4 : wr.cell? ⟨b, p + 4, none⟩ = some (.int .i64 x.bi)
  c5 : wr.cell? ⟨b, p + 5, none⟩ = some (.int .i64 x.bo)
  c6 : wr.cell? ⟨b, p + 6, none⟩ = some (.int .i64 x.ei)
  c7 : wr.cell? ⟨b, p + 7, none⟩ = some (.int .i64 x.eo)
  c8 : wr.cell? ⟨b, p + 8, none⟩ = some ov
structure OpAt (wr : World) (b p : Nat) (o : HOpr) (sv : Value) : Prop where
  c0 : wr.cell? ⟨b, p, none⟩ = some (.int .i64 o.kind)
  c1 : wr.cell? ⟨b, p + 1, none⟩ = some (.string o.ver.key)
  c2 : wr.cell? ⟨b, p + 2, none⟩ = some (.int .i64 o.ver.frm)
  c3 : wr.cell? ⟨b, p + 3, none⟩ = some (.int .i64 o.ver.nth)
  c4 : wr.cell? ⟨b, p + 4, none⟩ = some (.bool o.dead)
  c5 : wr.cell? ⟨b, p + 5, none⟩ = some (.string o.value)
  c6 : wr.cell? ⟨b, p + 6, none⟩ = some (.string o.hi)
  c7 : wr.cell? ⟨b, p + 7, none⟩ = some sv
  c8 : wr.cell? ⟨b, p + 8, none⟩ = some (.int .u64 o.at_)
theorem HistV.get {t : Nat} {x : HTx} (hh : HistV w B v h) (hx : h[t]? = some x) (hk : ∀ j, j < B → wr.heap[j]? = w.heap[j]?) :
    ∃ b o c ov, v = .slice (some ⟨b, o, none⟩) h.length c ∧ b < B ∧ TxAt wr b (o + t * 9) x ov ∧ Rows wr B 9 (OpR B) ov x.ops := by
  obtain ⟨b, o, c, cs, hv, hb, -, -, -, ⟨ov, rfl, hr⟩, hc⟩ := Rows.at_ hh hx
  have hc' : ∀ j u, (txC ov x)[j]? = some u → wr.cell? ⟨b, o + t * 9 + j, none⟩ = some u := fun j u hu => (World.cell?_of_block (hk b hb)).trans (hc j u hu)
  exact ⟨b, o, c, ov, hv, hb, ⟨hc' 0 _ rfl, hc' 1 _ rfl, hc' 2 _ rfl, hc' 3 _ rfl, hc' 4 _ rfl, hc' 5 _ rfl, hc' 6 _ rfl, hc' 7 _ rfl, hc' 8 _ rfl⟩, hr.keep hk fun _ _ _ h => h.keep hk⟩
theorem ops_get {ops : List HOpr} {i : Nat} {o : HOpr} (hh : Rows w B 9 (OpR B) v ops) (hx : ops[i]? = some o) (hk : ∀ j, j < B → wr.heap[j]? = w.heap[j]?) :
    ∃ b p c sv, v = .slice (some ⟨b, p, none⟩) ops.length c ∧ b < B ∧ OpAt wr b (p + i * 9) o sv ∧ Rows wr B 3 (Flat verC) sv o.seen := by
  obtain ⟨b, p, c, cs, hv, hb, -, -, -, ⟨sv, rfl, hr⟩, hc⟩ := Rows.at_ hh hx
  have hc' : ∀ j u, (opC sv o)[j]? = some u → wr.cell? ⟨b, p + i * 9 + j, none⟩ = some u := fun j u hu => (World.cell?_of_block (hk b hb)).trans (hc j u hu)
  exact ⟨b, p, c, sv, hv, hb, ⟨hc' 0 _ rfl, hc' 1 _ rfl, hc' 2 _ rfl, hc' 3 _ rfl, hc' 4 _ rfl, hc' 5 _ rfl, hc' 6 _ rfl, hc' 7 _ rfl, hc' 8 _ rfl⟩, hr.flat hk⟩
theorem wr_get {t : Nat} {x : HTx} (hh : Rows w B 1 (WrR B) v h) (hx : h[t]? = some x) (hk : ∀ j, j < B → wr.heap[j]? = w.heap[j]?) :
    ∃ b o c mb L, v = .slice (some ⟨b, o, none⟩) h.length c ∧ b < B ∧ wr.cell? ⟨b, o + t, none⟩ = some (.map (some mb)) ∧ mb < B ∧ KMap Value.string wr mb L ∧ ∀ k, Rows wr B 3 (Flat wroteC) ((kget L k).getD (.slice none 0 0)) (writes x k) := by
  obtain ⟨b, o, c, cs, hv, hb, -, -, -, ⟨mb, rfl, hm⟩, hc⟩ := hh.at_ hx
  obtain ⟨L, hL, hlk⟩ := (hm.keep hk).look
  exact ⟨b, o, c, mb, L, hv, hb, (World.cell?_of_block (hk b hb)).trans (by simpa using hc 0 _ rfl), hm.1, hL, hlk⟩
end

def allocL (w : World) : List Obj → World
  | [] => w
  | o :: r => allocL (w.alloc o) r
theorem allocL_size : ∀ (os : List Obj) (w : World), (allocL w os).heap.size = w.heap.size + os.length
  | [], w => rfl
  | o :: r, w => by rw [allocL, allocL_size r, World.size_alloc, List.length_cons]; omega
theorem allocL_below : ∀ (os : List Obj) (w : World) (n : Nat), n ≤ w.heap.size → Below n w (allocL w os)
  | [], w, n, h => Below.refl _ _
  | o :: r, w, n, h => ((Below.refl n w).alloc h o).trans (allocL_below r _ n (by rw [World.size_alloc]; omega))
theorem allocL_get : ∀ (os : List Obj) (w : World) (j : Nat) (o : Obj), os[j]? = some o → (allocL w os).heap[w.heap.size + j]? = some o
  | [], w, j, o, h => by simp at h
  | a :: r, w, 0, o, h => by
    simp at h; subst h
    exact ((allocL_below r (w.alloc a) (w.heap.size + 1) (by simp)).block w.heap.size (by omega)).trans (heap_alloc_new w a)
  | a :: r, w, j + 1, o, h => by
    have := allocL_get r (w.alloc a) j o (by simpa using h)
    rw [World.size_alloc] at this
    rw [show w.heap.size + (j + 1) = w.heap.size + 1 + j by omega]
    exact this
theorem keep_of {w w' : World} {n B : Nat} (hb : Below n w w') (hn : B ≤ n) : ∀ j, j < B → w'.heap[j]? = w.heap[j]? := fun j hj => hb.block j (Nat.lt_of_lt_of_le hj hn)
theorem Rows.to {α : Type} {w w' : World} {B B' n size : Nat} {enc : α → List Value} {v : Value} {l : List α} (h : Rows w B size (Flat enc) v l) (hb : Below n w w') (hn : B ≤ n) (hB : B ≤ B') : Rows w' B' size (Flat enc) v l := (h.flat (keep_of hb hn)).flatMore hB
theorem heap_al (w : World) (o : Obj) (i : Nat) : (w.alloc o).heap[i]? = if i = w.heap.size then some o else w.heap[i]? := by
  by_cases h : i = w.heap.size
  · subst h; rw [if_pos rfl]; exact heap_alloc_new w o
  · rw [if_neg h]
    rcases Nat.lt_or_ge i w.heap.size with h1 | h1
    · exact Below.heap_alloc w o i h1
    · rw [Array.getElem?_eq_none (by rw [World.size_alloc]; omega), Array.getElem?_eq_none h1]
theorem top_al (w : World) (o : Obj) {g : Nat} (h : g = w.heap.size) : (w.alloc o).heap[g]? = some o := by subst h; exact heap_alloc_new w o
theorem heap_drew (w : World) : w.drew.heap = w.heap := rfl
theorem bel1 (w : World) (a : Obj) : Below w.heap.size w (w.alloc a) := (Below.refl _ _).alloc (Nat.le_refl _) _
theorem bel2 (w : World) (a b : Obj) : Below w.heap.size w ((w.alloc a).alloc b) := (bel1 w a).alloc (by simp) _
theorem bel3 (w : World) (a b c : Obj) : Below w.heap.size w (((w.alloc a).alloc b).alloc c) := (bel2 w a b).alloc (by simp; omega) _
theorem bel4 (w : World) (a b c d : Obj) : Below w.heap.size w ((((w.alloc a).alloc b).alloc c).alloc d) := (bel3 w a b c).alloc (by simp; omega) _

theorem cells_of {w : World} {g : Nat} {cs : List Value} {t : TypeId} (h : w.heap[g]? = some (.cells cs.toArray t)) : (∀ i, w.cell? ⟨g, i, none⟩ = cs[i]?) ∧ ∀ i, w.frozen? ⟨g, i, none⟩ = false :=
  ⟨fun i => by rw [cell_of_row w g i _ t (0, 0) h]; simp, fun i => by simp [World.frozen?, h]⟩
section
variable {P : Program} {fn : Func} {R : Ending → World → Prop} {a : Act} {w : World} {t c ty g : Nat} {t0 : TypeId} {vs : List Value}
theorem run_cellvar (hs : ∃ fs, P.underlying ty = some (.struct fs)) (hz : (P.info? ty).map (·.size) = some vs.length) (hb : w.heap[g]? = some (.cells vs.toArray t0)) : (loadVar ty ⟨g, 0, none⟩).run P w = .ok (.agg vs.toArray) w := by
  obtain ⟨fs, hfs⟩ := hs
  obtain ⟨i, hi, hi2⟩ := Option.map_eq_some_iff.1 hz
  have h1 : (isAgg ty).run P w = .ok true w := by simp [isAgg, run_underlying hfs, Result.andThen]
  have h2 : (sizeOf ty).run P w = .ok vs.length w := by simp [sizeOf, typeInfo, hi, hi2]
  have h3 := run_loadCells_list (P := P) (w := w) ⟨g, 0, none⟩ vs (fun j v hj => by
    have e : (⟨g, 0, none⟩ : Addr).add j = ⟨g, j, none⟩ := by unfold Addr.add; split <;> simp_all
    rw [e, (cells_of hb).1 j]; exact hj)
  simp only [loadCells] at h3
  simp [loadVar, Sem.run_bind, h1, h2, h3, Result.andThen, loadCells]
theorem ret_tc (hres : fn.results = #[.tmp t, .cell c ty]) (hs : ∃ fs, P.underlying ty = some (.struct fs)) (hz : (P.info? ty).map (·.size) = some vs.length) (hd : a.defers = [])
    (hc : a.tmps.getD c undef = .pointer (some ⟨g, 0, none⟩)) (hb : w.heap[g]? = some (.cells vs.toArray t0)) (hR : R (.returned (.tuple #[a.tmps.getD t undef, .agg vs.toArray])) w) : bodyPost P fn R .ret a w := by
  have := run_cellvar hs hz hb
  have hc' : a.tmps[c]?.getD undef = .pointer (some ⟨g, 0, none⟩) := by simpa using hc
  exact bodyPost_ret (v := .tuple #[a.tmps.getD t undef, .agg vs.toArray]) (by simp [results, hres, hc', asAddr, Sem.run_bind, this, Result.andThen]) hd hR
theorem ret_ct (hres : fn.results = #[.cell c ty, .tmp t]) (hs : ∃ fs, P.underlying ty = some (.struct fs)) (hz : (P.info? ty).map (·.size) = some vs.length) (hd : a.defers = [])
    (hc : a.tmps.getD c undef = .pointer (some ⟨g, 0, none⟩)) (hb : w.heap[g]? = some (.cells vs.toArray t0)) (hR : R (.returned (.tuple #[.agg vs.toArray, a.tmps.getD t undef])) w) : bodyPost P fn R .ret a w := by
  have := run_cellvar hs hz hb
  have hc' : a.tmps[c]?.getD undef = .pointer (some ⟨g, 0, none⟩) := by simpa using hc
  exact bodyPost_ret (v := .tuple #[.agg vs.toArray, a.tmps.getD t undef]) (by simp [results, hres, hc', asAddr, Sem.run_bind, this, Result.andThen]) hd hR
theorem ret_c (hres : fn.results = #[.cell c ty]) (hs : ∃ fs, P.underlying ty = some (.struct fs)) (hz : (P.info? ty).map (·.size) = some vs.length) (hd : a.defers = [])
    (hc : a.tmps.getD c undef = .pointer (some ⟨g, 0, none⟩)) (hb : w.heap[g]? = some (.cells vs.toArray t0)) (hR : R (.returned (.agg vs.toArray)) w) : bodyPost P fn R .ret a w := by
  have := run_cellvar hs hz hb
  have hc' : a.tmps[c]?.getD undef = .pointer (some ⟨g, 0, none⟩) := by simpa using hc
  exact bodyPost_ret (v := .agg vs.toArray) (by simp [results, hres, hc', asAddr, Sem.run_bind, this, Result.andThen]) hd hR
end
end Go.Proofs.YtooigfkjdemnlaaGreatDoor

namespace Go.Proofs.YtooigfkjdemnlaaGreatDoor
open Go.RowKit Xw

def RowI {α : Type} (R : (Nat → Prop) → World → List Value → α → Prop) (C : Nat → Prop) (w : World) (e : TypeId) (size : Nat) (v : Value) (l : List α) (F : Nat → Prop) : Prop :=
  ∃ css : List (List Value), Sl w e size v l.length css.flatten F ∧ css.length = l.length ∧ (∀ cs ∈ css, cs.length = size) ∧ ∀ (i : Nat) (cs : List Value) (x : α), css[i]? = some cs → l[i]? = some x → R C w cs x
def OpI (tv : TypeId) (C : Nat → Prop) (w : World) (cs : List Value) (o : HOpr) : Prop := ∃ sv F, cs = opC sv o ∧ Sl w tv 3 sv o.seen.length (o.seen.flatMap verC) F ∧ ∀ j, F j → C j
def TxI (tv to : TypeId) (C : Nat → Prop) (w : World) (cs : List Value) (x : HTx) : Prop := ∃ ov F, cs = txC ov x ∧ RowI (OpI tv) C w to 9 ov x.ops F ∧ ∀ j, F j → C j
section
variable {α : Type} {R : (Nat → Prop) → World → List Value → α → Prop} {C C' F F' G : Nat → Prop} {w w' : World} {e : TypeId} {size : Nat} {v : Value} {l : List α}
theorem RowI.nil : RowI R C w e size (.slice none 0 0) ([] : List α) F := ⟨[], Sl.nil _ _ _ _, rfl, by simp, by simp⟩
theorem RowI.shape (h : RowI R C w e size v l F) : ∃ A c, v = .slice A l.length c ∧ c ≤ maxLen ∧ l.length ≤ c := h.choose_spec.1.shape
theorem RowI.keep (h : RowI R C w e size v l F) (hk : ∀ j, j < w.heap.size → F j → w'.heap[j]? = w.heap[j]?) (hR : ∀ cs x, R C w cs x → R C' w' cs x) : RowI R C' w' e size v l F := by
  obtain ⟨css, h1, h2, h3, h4⟩ := h
  exact ⟨css, h1.keep hk, h2, h3, fun i cs x hc hx => hR cs x (h4 i cs x hc hx)⟩
theorem RowI.mono (h : RowI R C w e size v l F) (hF : ∀ j, F j → F' j) : RowI R C w e size v l F' := by
  obtain ⟨css, h1, h2, h3, h4⟩ := h
  exact ⟨css, h1.mono (fun j _ => hF j), h2, h3, h4⟩
theorem RowI.snoc {cs : List Value} {x : α} {v' : Value} (h2 : ∀ css : List (List Value), Sl w e size v l.length css.flatten F → Sl w' e size v' (l.length + 1) (css.flatten ++ cs) F') (h : RowI R C w e size v l F)
    (hR : ∀ cs x, R C w cs x → R C' w' cs x) (hcs : cs.length = size) (hx : R C' w' cs x) : RowI R C' w' e size v' (l ++ [x]) F' := by
  obtain ⟨css, h1, h2', h3, h4⟩ := h
  refine ⟨css ++ [cs], ?_, by simp [h2'], ?_, ?_⟩
  · have := h2 css h1
    simpa using this
  · intro c hc
    rcases List.mem_append.1 hc with h5 | h5
    · exact h3 c h5
    · simp at h5; subst h5; exact hcs
  · intro i c y hc hy
    by_cases hi : i < l.length
    · rw [List.getElem?_append_left (by omega)] at hc hy
      exact hR _ _ (h4 i c y hc hy)
    · have hil := (List.getElem?_eq_some_iff.1 hy).1
      simp at hil
      rw [List.getElem?_append_right (by omega)] at hc hy
      rw [show i - css.length = 0 by omega] at hc
      rw [show i - l.length = 0 by omega] at hy
      cases hc
      cases hy
      exact hx
theorem flatten_at {css : List (List Value)} (h3 : ∀ cs ∈ css, cs.length = size) : ∀ {i : Nat} {cs : List Value}, css[i]? = some cs → ∀ j, j < size → css.flatten[i * size + j]? = cs[j]? := by
  induction css with
  | nil => intro i cs h; simp at h
  | cons a r ih =>
    intro i cs h j hj
    have ha := h3 a (by simp)
    cases i with
    | zero =>
      simp at h
      subst h
      rw [Nat.zero_mul, Nat.zero_add, List.flatten_cons, List.getElem?_append_left (by omega)]
    | succ i =>
      rw [List.flatten_cons, List.getElem?_append_right (by rw [ha, Nat.succ_mul]; omega), ha, show (i + 1) * size + j - size = i * size + j by rw [Nat.succ_mul]; omega]
      exact ih (fun cs hc => h3 cs (List.mem_cons_of_mem _ hc)) (by simpa using h) j hj
theorem RowI.rows {R' : World → List Value → α → Prop} {B : Nat} (h : RowI R C w e size v l F) (hF : ∀ j, F j → j < B) (hR : ∀ cs x, R C w cs x → R' w cs x) : Rows w B size R' v l := by
  obtain ⟨css, h1, h2, h3, h4⟩ := h
  have hcopy := h1
  rcases h1.2 with ⟨rfl, h0⟩ | ⟨g, off, cap, cur, rfl, hFg, hb, hn, hm, hs, ht⟩
  · obtain rfl : l = [] := List.eq_nil_of_length_eq_zero h0
    exact .inl ⟨rfl, _, _, rfl, by simp⟩
  · rcases Nat.eq_zero_or_pos l.length with h0 | hpos
    · obtain rfl : l = [] := List.eq_nil_of_length_eq_zero h0
      exact .inl ⟨rfl, _, _, rfl, hm⟩
    · refine .inr ⟨g, off, cap, rfl, hF g hFg, hn, hm, fun e => by subst e; simp at hpos, fun i x hx => ?_⟩
      have hil := (List.getElem?_eq_some_iff.1 hx).1
      have hc := List.getElem?_eq_getElem (show i < css.length by omega)
      have hsz := h3 _ (List.getElem_mem (show i < css.length by omega))
      refine ⟨css[i]'(by omega), hsz, hR _ _ (h4 i _ x hc hx), fun j u hj => ?_⟩
      have hjl := (List.getElem?_eq_some_iff.1 hj).1
      have hf := flatten_at h3 hc j (by omega)
      rw [hj, ← ht, List.getElem?_take] at hf
      split at hf
      · rw [List.getElem?_drop] at hf
        rw [cell_of_row w g _ _ _ _ hb]
        simpa [Nat.add_assoc] using hf
      · cases hf
end
section
variable {tv to : TypeId} {C C' : Nat → Prop} {w w' : World}
theorem OpI.keep {cs : List Value} {o : HOpr} (h : OpI tv C w cs o) (hk : ∀ j, j < w.heap.size → C j → w'.heap[j]? = w.heap[j]?) (hC : ∀ j, j < w.heap.size → C j → C' j) : OpI tv C' w' cs o := by
  obtain ⟨sv, F, h1, h2, h3⟩ := h
  exact ⟨sv, fun j => F j ∧ j < w.heap.size, h1, (h2.mono (fun j hj hF => ⟨hF, hj⟩)).keep (fun j hj hF => hk j hj (h3 j hF.1)), fun j hF => hC j hF.2 (h3 j hF.1)⟩
theorem TxI.keep {cs : List Value} {x : HTx} (h : TxI tv to C w cs x) (hk : ∀ j, j < w.heap.size → C j → w'.heap[j]? = w.heap[j]?) (hC : ∀ j, j < w.heap.size → C j → C' j) : TxI tv to C' w' cs x := by
  obtain ⟨ov, F, h1, h2, h3⟩ := h
  obtain ⟨css, k1, k2, k3, k4⟩ := h2
  refine ⟨ov, fun j => F j ∧ j < w.heap.size, h1, ?_, fun j hF => hC j hF.2 (h3 j hF.1)⟩
  exact ⟨css, (k1.mono (fun j hj hF => ⟨hF, hj⟩)).keep (fun j hj hF => hk j hj (h3 j hF.1)), k2, k3, fun i cs x hc hx => (k4 i cs x hc hx).keep hk hC⟩
theorem OpI.opR {cs : List Value} {o : HOpr} {B : Nat} (h : OpI tv C w cs o) (hC : ∀ j, C j → j < B) : OpR B w cs o := by
  obtain ⟨sv, F, h1, h2, h3⟩ := h
  refine ⟨sv, h1, ?_⟩
  have hh : RowI (fun _ _ cs (x : HVer) => cs = verC x) C w tv 3 sv o.seen F := by
    refine ⟨o.seen.map verC, by rw [List.flatMap_def] at h2; exact h2, by simp, fun cs hc => ?_, fun i cs x hc hx => ?_⟩
    · obtain ⟨x, _, rfl⟩ := List.mem_map.1 hc; rfl
    · rw [List.getElem?_map, hx] at hc; cases hc; rfl
  exact hh.rows (fun j hj => hC j (h3 j hj)) (fun _ _ h => h)
theorem TxI.txR {cs : List Value} {x : HTx} {B : Nat} (h : TxI tv to C w cs x) (hC : ∀ j, C j → j < B) : TxR B w cs x := by
  obtain ⟨ov, F, h1, h2, h3⟩ := h
  exact ⟨ov, h1, h2.rows (fun j hj => hC j (h3 j hj)) (fun _ _ h => h.opR hC)⟩
end
end Go.Proofs.YtooigfkjdemnlaaGreatDoor

namespace Go.Proofs.YtooigfkjdemnlaaGreatDoor

inductive Way (es : List Edge) (m : Edge → Bool) (a : Int) : Int → Prop
  | start : Way es m a a
  | step {e : Edge} : Way es m a e.frm → e ∈ es → m e = true → Way es m a e.to

def visited (a : Int) (cs : List Edge) (x : Int) : Prop := x = a ∨ x ∈ cs.map (·.to)
structure Bfs (es : List Edge) (m : Edge → Bool) (a : Int) (cs : List Edge) (ln dn : List Int) : Prop where
  mem : ∀ e ∈ cs, e ∈ es ∧ m e = true ∧ e.to ≠ a
  nd : (cs.map (·.to)).Nodup
  ord : ∀ (i : Nat) (e : Edge), cs[i]? = some e → e.frm = a ∨ ∃ (j : Nat) (e' : Edge), j < i ∧ cs[j]? = some e' ∧ e'.to = e.frm
  vis : ∀ x, visited a cs x ↔ (x ∈ dn ∨ x ∈ ln)
  cl : ∀ x ∈ dn, ∀ e ∈ es, e.frm = x → m e = true → visited a cs e.to
structure BfsI (es : List Edge) (m : Edge → Bool) (a : Int) (cs : List Edge) (ln dn : List Int) (t : Int) (s : Nat) : Prop where
  mem : ∀ e ∈ cs, e ∈ es ∧ m e = true ∧ e.to ≠ a
  nd : (cs.map (·.to)).Nodup
  ord : ∀ (i : Nat) (e : Edge), cs[i]? = some e → e.frm = a ∨ ∃ (j : Nat) (e' : Edge), j < i ∧ cs[j]? = some e' ∧ e'.to = e.frm
  vis : ∀ x, visited a cs x ↔ (x ∈ dn ∨ x = t ∨ x ∈ ln)
  cl : ∀ x ∈ dn, ∀ e ∈ es, e.frm = x → m e = true → visited a cs e.to
  clt : ∀ (j : Nat) (e : Edge), j < s → (es.filter fun e => decide (e.frm = t))[j]? = some e → m e = true → visited a cs e.to
variable {es : List Edge} {m : Edge → Bool} {a t : Int} {cs : List Edge} {ln dn : List Int} {s : Nat}
theorem Bfs.start (es : List Edge) (m : Edge → Bool) (a : Int) : Bfs es m a [] [a] [] := ⟨by simp, by simp, by simp, by simp [visited], by simp⟩
theorem Bfs.pop (h : Bfs es m a cs (t :: ln) dn) : BfsI es m a cs ln dn t 0 := ⟨h.mem, h.nd, h.ord, fun x => by rw [h.vis]; simp, h.cl, fun j e hj => absurd hj (by omega)⟩
theorem BfsI.skip {e : Edge} (h : BfsI es m a cs ln dn t s) (he : (es.filter fun e => decide (e.frm = t))[s]? = some e) (hs : visited a cs e.to ∨ m e = false) : BfsI es m a cs ln dn t (s + 1) :=
  ⟨h.mem, h.nd, h.ord, h.vis, h.cl, fun j e' hj he' hm => by
    by_cases ej : j = s
    · subst ej
      rw [he] at he'; cases he'
      rcases hs with h1 | h1
      · exact h1
      · rw [hm] at h1; cases h1
    · exact h.clt j e' (by omega) he' hm⟩
theorem visited_snoc {e : Edge} {x : Int} : visited a (cs ++ [e]) x ↔ visited a cs x ∨ x = e.to := by
  unfold visited
  simp only [List.map_append, List.map_cons, List.map_nil, List.mem_append, List.mem_singleton]
  constructor
  · rintro (h | h | h)
    · exact .inl (.inl h)
    · exact .inl (.inr h)
    · exact .inr h
  · rintro ((h | h) | h)
    · exact .inl h
    · exact .inr (.inl h)
    · exact .inr (.inr h)
theorem BfsI.take {e : Edge} (h : BfsI es m a cs ln dn t s) (he : (es.filter fun e => decide (e.frm = t))[s]? = some e) (hv : ¬ visited a cs e.to) (hm : m e = true) : BfsI es m a (cs ++ [e]) (ln ++ [e.to]) dn t (s + 1) := by
  have hmem := List.mem_of_getElem? he
  rw [List.mem_filter] at hmem
  have hft : e.frm = t := by simpa using hmem.2
  have hmono : ∀ x, visited a cs x → visited a (cs ++ [e]) x := fun x hx => visited_snoc.2 (.inl hx)
  refine ⟨fun e' he' => ?_, ?_, fun i e' hi => ?_, fun x => ?_, fun x hx e' he' hf hm' => hmono _ (h.cl x hx e' he' hf hm'), fun j e' hj he' hm' => ?_⟩
  · rcases List.mem_append.1 he' with h1 | h1
    · exact h.mem e' h1
    · simp at h1; subst h1
      exact ⟨hmem.1, hm, fun h2 => hv (.inl h2)⟩
  · rw [List.map_append, List.nodup_append]
    refine ⟨h.nd, by simp, fun x hx y hy => ?_⟩
    simp at hy
    subst hy
    rintro rfl
    exact hv (.inr hx)
  · rcases Nat.lt_or_ge i cs.length with hlt | hge
    · rw [List.getElem?_append_left hlt] at hi
      rcases h.ord i e' hi with h1 | ⟨j, e2, h2, h3, h4⟩
      · exact .inl h1
      · exact .inr ⟨j, e2, h2, by rw [List.getElem?_append_left (by omega)]; exact h3, h4⟩
    · rw [List.getElem?_append_right hge] at hi
      have : i = cs.length := by
        rcases Nat.eq_zero_or_pos (i - cs.length) with h0 | h0
        · omega
        · rw [List.getElem?_eq_none (by simp; omega)] at hi; cases hi
      subst this
      simp at hi
      subst hi
      have hvt : visited a cs e.frm := (h.vis _).2 (.inr (.inl hft))
      rcases hvt with h1 | h1
      · exact .inl h1
      · obtain ⟨e2, h2, h3⟩ := List.mem_map.1 h1
        obtain ⟨j, hj⟩ := List.mem_iff_getElem?.1 h2
        exact .inr ⟨j, e2, (List.getElem?_eq_some_iff.1 hj).1, by rw [List.getElem?_append_left (List.getElem?_eq_some_iff.1 hj).1]; exact hj, h3⟩
  · rw [visited_snoc, h.vis, List.mem_append, List.mem_singleton]
    constructor
    · rintro ((h1 | h1 | h1) | h1)
      · exact .inl h1
      · exact .inr (.inl h1)
      · exact .inr (.inr (.inl h1))
      · exact .inr (.inr (.inr h1))
    · rintro (h1 | h1 | h1 | h1)
      · exact .inl (.inl h1)
      · exact .inl (.inr (.inl h1))
      · exact .inl (.inr (.inr h1))
      · exact .inr h1
  · by_cases ej : j = s
    · subst ej
      rw [he] at he'; cases he'
      exact visited_snoc.2 (.inr rfl)
    · exact hmono _ (h.clt j e' (by omega) he' hm')
theorem BfsI.done (h : BfsI es m a cs ln dn t (es.filter fun e => decide (e.frm = t)).length) : Bfs es m a cs ln (t :: dn) := by
  refine ⟨h.mem, h.nd, h.ord, fun x => ?_, fun x hx e he hf hm => ?_⟩
  · rw [h.vis]
    simp only [List.mem_cons]
    constructor
    · rintro (h1 | h1 | h1)
      · exact .inl (.inr h1)
      · exact .inl (.inl h1)
      · exact .inr h1
    · rintro ((h1 | h1) | h1)
      · exact .inr (.inl h1)
      · exact .inl h1
      · exact .inr (.inr h1)
  · rcases List.mem_cons.1 hx with h1 | h1
    · subst h1
      have hmem : e ∈ es.filter fun e => decide (e.frm = x) := List.mem_filter.2 ⟨he, by simp [hf]⟩
      obtain ⟨j, hj⟩ := List.mem_iff_getElem?.1 hmem
      exact h.clt j e (List.getElem?_eq_some_iff.1 hj).1 hj hm
    · exact h.cl x h1 e he hf hm
theorem Bfs.all (h : Bfs es m a cs [] dn) (b : Int) : visited a cs b ↔ Way es m a b := by
  constructor
  · have key : ∀ (i : Nat) (e : Edge), cs[i]? = some e → Way es m a e.to := by
      intro i
      induction i using Nat.strongRecOn with
      | _ i ih =>
        intro e he
        have hm := h.mem e (List.mem_of_getElem? he)
        refine Way.step ?_ hm.1 hm.2.1
        rcases h.ord i e he with h1 | ⟨j, e', h1, h2, h3⟩
        · rw [h1]; exact Way.start
        · rw [← h3]; exact ih j h1 e' h2
    rintro (rfl | h1)
    · exact Way.start
    · obtain ⟨e, h2, rfl⟩ := List.mem_map.1 h1
      obtain ⟨i, hi⟩ := List.mem_iff_getElem?.1 h2
      exact key i e hi
  · intro hw
    induction hw with
    | start => exact .inl rfl
    | step hw he hm ih =>
      rename_i e
      have := (h.vis e.frm).1 ih
      rcases this with h1 | h1
      · exact h.cl _ h1 e he rfl hm
      · cases h1
theorem BfsI.nodup (h : BfsI es m a cs ln dn t s) : cs.Nodup := List.Pairwise.of_map (fun x => x.to) (fun a b hab e => hab (by rw [e])) h.nd
end Go.Proofs.YtooigfkjdemnlaaGreatDoor
