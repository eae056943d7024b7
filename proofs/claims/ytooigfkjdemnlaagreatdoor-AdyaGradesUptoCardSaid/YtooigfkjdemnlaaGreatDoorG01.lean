/- Own texts of this claim, joined in build order: Chg, Xw, Sl, Pm, Pm2. -/
import Derived.Below
import Derived.Laws.OwnMore
import Derived.Deep.AppendLies
import Derived.Deep.Draws
import Derived.Laws.Rows
import Derived.Maps.AppendAt
import Derived.RegionTactic
import Derived.OwnWalk
import Derived.WalkSmall
import Derived.Deep.Slices
import Derived.Deep.Fields
import Derived.ChangeSame
import Derived.Lib.SmallJoins
import Derived.Deep.AppendSrc
import GoSem.Op.String
set_option linter.all false
namespace Go.Proofs.YtooigfkjdemnlaaGreatDoor
open Go.RowKit

structure Chg (F : Nat → Prop) (w w' : World) : Prop where
  tape : w'.tape = w.tape
  os : w'.os = w.os
  out : w'.output = w.output
  size : w.heap.size ≤ w'.heap.size
  block : ∀ j, j < w.heap.size → ¬ F j → w'.heap[j]? = w.heap[j]?

namespace Chg
variable {F G : Nat → Prop} {w w1 w2 : World}
theorem refl (F : Nat → Prop) (w : World) : Chg F w w := ⟨rfl, rfl, rfl, Nat.le_refl _, fun _ _ _ => rfl⟩
theorem mono (h : Chg F w w1) (hg : ∀ j, j < w.heap.size → F j → G j) : Chg G w w1 :=
  ⟨h.tape, h.os, h.out, h.size, fun j hj hn => h.block j hj (fun hf => hn (hg j hj hf))⟩
theorem trans (h : Chg F w w1) (h' : Chg G w1 w2) (hg : ∀ j, j < w.heap.size → G j → F j) : Chg F w w2 :=
  ⟨h'.tape.trans h.tape, h'.os.trans h.os, h'.out.trans h.out, Nat.le_trans h.size h'.size,
    fun j hj hn => (h'.block j (Nat.lt_of_lt_of_le hj h.size) (fun hf => hn (hg j hj hf))).trans (h.block j hj hn)⟩
theorem drew (h : Chg F w w1) : Chg F w w1.drew := ⟨h.tape, h.os, h.out, h.size, h.block⟩
theorem drewN (h : Chg F w w1) (n : Nat) : Chg F w (w1.drewN n) := ⟨h.tape, h.os, h.out, h.size, h.block⟩
theorem alloc (h : Chg F w w1) (o : Obj) : Chg F w (w1.alloc o) :=
  ⟨h.tape, h.os, h.out, by rw [World.size_alloc]; exact Nat.le_succ_of_le h.size,
    fun j hj hn => (Below.heap_alloc w1 o j (Nat.lt_of_lt_of_le hj h.size)).trans (h.block j hj hn)⟩
theorem setCell (h : Chg F w w1) (p : Addr) (v : Value) (hp : p.block < w.heap.size → F p.block) : Chg F w (w1.setCell p v) :=
  ⟨h.tape, h.os, h.out, by rw [World.setCell]; simpa using h.size,
    fun j hj hn => (Below.heap_setCell w1 p v j (fun e => hn (by subst e; exact hp hj))).trans (h.block j hj hn)⟩
theorem of_below {B : Nat} (h : Below B w w1) : Chg (fun j => B ≤ j) w w1 :=
  ⟨h.tape, h.os, h.output, h.size, fun j _ hn => h.block j (Nat.lt_of_not_le hn)⟩
theorem below {B : Nat} (h : Chg F w w1) (hF : ∀ j, F j → B ≤ j) (hB : B ≤ w.heap.size) : Below B w w1 :=
  ⟨h.os, h.tape, h.out, h.size, fun j hj => h.block j (Nat.lt_of_lt_of_le hj hB) (fun hf => Nat.not_le_of_lt hj (hF j hf))⟩
theorem of_grown {r : Option Nat} (h : w.grownBy w1 r) : Chg (fun j => r = some j) w w1 :=
  ⟨h.tape, h.os, h.output, h.size, fun j hj hn => h.block j hj (fun e => hn e.symm)⟩
theorem none (h : Chg (fun _ => False) w w1) : Chg F w w1 := h.mono fun _ _ hf => hf.elim
end Chg

def From (F : Nat → Prop) (w w' : World) (F' : Nat → Prop) : Prop := ∀ j, F' j → F j ∨ (w.heap.size ≤ j ∧ j < w'.heap.size)

theorem From.refl (F : Nat → Prop) (w w' : World) : From F w w' F := fun _ h => .inl h
theorem From.trans {F F1 F2 : Nat → Prop} {w w1 w2 : World} (h : From F w w1 F1) (h' : From F1 w1 w2 F2) (s : w.heap.size ≤ w1.heap.size) (s2 : w1.heap.size ≤ w2.heap.size) : From F w w2 F2 := fun j hj => by
  rcases h' j hj with h1 | ⟨h1, h2⟩
  · rcases h j h1 with h3 | ⟨h3, h4⟩
    · exact .inl h3
    · exact .inr ⟨h3, Nat.lt_of_lt_of_le h4 s2⟩
  · exact .inr ⟨Nat.le_trans s h1, h2⟩

theorem heap_setCell_same {w : World} {g i : Nat} {cs : Array Value} {t : TypeId} {fz : Nat × Nat} {v : Value} (h : w.heap[g]? = some (.cells cs t fz)) :
    (w.setCell ⟨g, i, none⟩ v).heap[g]? = some (.cells (cs.setIfInBounds i v) t fz) := by
  have hlt : g < w.heap.size := by
    rcases Nat.lt_or_ge g w.heap.size with hlt | hge
    · exact hlt
    · rw [Array.getElem?_eq_none hge] at h; cases h
  simp only [World.setCell, Array.getElem?_modify, if_true]
  rw [h]
  rfl

theorem lt_of_heap {w : World} {g : Nat} {o : Obj} (h : w.heap[g]? = some o) : g < w.heap.size := by
  rcases Nat.lt_or_ge g w.heap.size with hlt | hge
  · exact hlt
  · rw [Array.getElem?_eq_none hge] at h; cases h
end Go.Proofs.YtooigfkjdemnlaaGreatDoor

namespace Go.Proofs.YtooigfkjdemnlaaGreatDoor.Xw
open Go.RowKit

theorem block_of_add (a : Addr) (n : Nat) : (a.add n).block = a.block := by unfold Addr.add; split <;> rfl
theorem add_of_add (a : Addr) (i j : Nat) : (a.add i).add j = a.add (i + j) := by
  unfold Addr.add
  by_cases hi : i = 0 <;> by_cases hj : j = 0 <;> simp [hi, hj, Nat.add_assoc]

def Reads (w : World) (B size : Nat) (A : Option Addr) (n : Nat) (xs : List Value) : Prop :=
  xs.length = n * size ∧ (0 < n → ∃ ad, A = some ad ∧ ad.block < B ∧ ∀ j u, xs[j]? = some u → w.cell? (ad.add j) = some u)

section
variable {w w' : World} {B B' size n : Nat} {A : Option Addr} {xs : List Value}
theorem Reads.none_ : Reads w B size A 0 [] := ⟨by simp, fun h => absurd h (by omega)⟩
theorem Reads.at_ {k : Nat} (h : Reads w B 1 A n xs) (hk : k < n) : ∃ ad u, A = some ad ∧ ad.block < B ∧ xs[k]? = some u ∧ w.cell? (ad.add k) = some u := by
  obtain ⟨ad, e, hb, hc⟩ := h.2 (by omega)
  have hl : k < xs.length := by have := h.1; omega
  exact ⟨ad, xs[k], e, hb, List.getElem?_eq_getElem hl, hc k _ (List.getElem?_eq_getElem hl)⟩
theorem Reads.keep (h : Reads w B size A n xs) (hk : ∀ p : Addr, p.block < B → w'.cell? p = w.cell? p) : Reads w' B size A n xs :=
  ⟨h.1, fun hn => by
    obtain ⟨ad, e, hb, hc⟩ := h.2 hn
    exact ⟨ad, e, hb, fun j u hu => (hk _ (by rw [block_of_add]; exact hb)).trans (hc j u hu)⟩⟩
theorem Reads.more (h : Reads w B size A n xs) (hB : B ≤ B') : Reads w B' size A n xs :=
  ⟨h.1, fun hn => by
    obtain ⟨ad, e, hb, hc⟩ := h.2 hn
    exact ⟨ad, e, by omega, hc⟩⟩
theorem Reads.below (h : Reads w B size A n xs) (hb : Below B w w') : Reads w' B size A n xs := h.keep fun _ hp => hb.cell hp
theorem Reads.drew (h : Reads w B size A n xs) : Reads w.drew B size A n xs := h
theorem Reads.drewN (h : Reads w B size A n xs) (k : Nat) : Reads (w.drewN k) B size A n xs := h
theorem Reads.alloc (h : Reads w B size A n xs) (hB : B ≤ w.heap.size) (o : Obj) : Reads (w.alloc o) B size A n xs := h.keep fun p hp => World.cell?_alloc_lt w o p (by omega)
theorem Reads.setCell (h : Reads w B size A n xs) {p : Addr} (hB : B ≤ p.block) (u : Value) : Reads (w.setCell p u) B size A n xs :=
  h.keep fun q hq => World.cell?_setCell_other w p q u (fun e => by subst e; omega)
theorem Reads.grown (h : Reads w B size A n xs) {row : Option Nat} (hg : w.grownBy w' row) (hB : B ≤ w.heap.size) (hr : ∀ g, row = some g → B ≤ g) : Reads w' B size A n xs :=
  h.keep fun p hp => World.cell?_of_block (hg.block p.block (by omega) (fun e => by have := hr _ e.symm; omega))
theorem Reads.cut (h : Reads w B size A n xs) {k cap : Nat} (hk : k ≤ n) (hc : n ≤ cap) :
    Reads w B size (if cap = k then A else A.map (·.add (k * size))) (n - k) (xs.drop (k * size)) := by
  refine ⟨by rw [List.length_drop, h.1, Nat.sub_mul], fun hn => ?_⟩
  obtain ⟨ad, rfl, hb, hcell⟩ := h.2 (by omega)
  rw [if_neg (by omega)]
  refine ⟨ad.add (k * size), rfl, by rw [block_of_add]; exact hb, fun j u hu => ?_⟩
  rw [add_of_add]
  exact hcell _ u (by rw [← hu, List.getElem?_drop])
theorem Reads.of_own {base : Nat} {e : TypeId} {c : Nat} (h : w.ownsRow base e size (.slice A n c) n xs) : Reads w w.heap.size size A n xs := by
  refine ⟨h.1, fun hn => ?_⟩
  obtain ⟨g, cap, hv, _, hlt⟩ := h.form hn
  have hA : A = some ⟨g, 0, none⟩ := by injection hv
  subst hA
  exact ⟨_, rfl, hlt, h.cells (g := g) rfl⟩
end

def Blk (w : World) (g : Nat) (t : TypeId) (cs : Array Value) : Prop := w.heap[g]? = some (.cells cs t (0, 0))

section
variable {w w' : World} {g : Nat} {t : TypeId} {cs : Array Value}
theorem Blk.lt (h : Blk w g t cs) : g < w.heap.size := by
  rcases Nat.lt_or_ge g w.heap.size with hlt | hge
  · exact hlt
  · unfold Blk at h; rw [Array.getElem?_eq_none hge] at h; cases h
theorem Blk.cell (h : Blk w g t cs) (i : Nat) : w.cell? ⟨g, i, none⟩ = cs[i]? := cell_of_row w g i cs t (0, 0) h
theorem Blk.frozen (h : Blk w g t cs) (i : Nat) : w.frozen? ⟨g, i, none⟩ = false := by
  unfold Blk at h
  simp [World.frozen?, h]
theorem Blk.new (w : World) (t : TypeId) (cs : Array Value) : Blk (w.alloc (.cells cs t)) w.heap.size t cs := heap_alloc_new w _
theorem Blk.drew (h : Blk w g t cs) : Blk w.drew g t cs := h
theorem Blk.drewN (h : Blk w g t cs) (n : Nat) : Blk (w.drewN n) g t cs := h
theorem Blk.alloc (h : Blk w g t cs) (o : Obj) : Blk (w.alloc o) g t cs := (Below.heap_alloc w o g h.lt).trans h
theorem Blk.set_ (h : Blk w g t cs) (i : Nat) (u : Value) : Blk (w.setCell ⟨g, i, none⟩ u) g t (cs.setIfInBounds i u) := by
  unfold Blk at h ⊢
  simp [World.setCell, Array.getElem?_modify, h]
theorem Blk.far (h : Blk w g t cs) {p : Addr} (hp : g ≠ p.block) (u : Value) : Blk (w.setCell p u) g t cs := (Below.heap_setCell w p u g hp).trans h
theorem Blk.below {B : Nat} (h : Blk w g t cs) (hb : Below B w w') (hg : g < B) : Blk w' g t cs := (hb.block g hg).trans h
theorem Blk.grown {row : Option Nat} (h : Blk w g t cs) (hb : w.grownBy w' row) (hg : some g ≠ row) : Blk w' g t cs := (hb.block g h.lt hg).trans h
theorem Blk.ne_ {g' : Nat} {t' : TypeId} {cs' : Array Value} (h : Blk w g t cs) (h' : Blk w g' t' cs') (hne : t ≠ t') : g ≠ g' := by
  rintro rfl
  unfold Blk at h h'
  rw [h] at h'
  injection h' with h'
  injection h' with _ ht
  exact hne ht
theorem own_blk_ne {base : Nat} {e : TypeId} {size n : Nat} {v : Value} {xs : List Value} (h : w.ownsRow base e size v n xs) (hg : Blk w g t cs) (hne : e ≠ t) : v.ownBlock ≠ some g := by
  rcases h.2 with ⟨rfl, _⟩ | ⟨g', cap, cur, rfl, _, hh, _⟩
  · simp [Value.ownBlock]
  · intro he
    have : g' = g := by simpa [Value.ownBlock] using he
    subst this
    exact Blk.ne_ (t := e) hh hg hne rfl
end

section
variable {P : Program} (w : World)

theorem run_append_of_nil (base : Nat) (t ty e : TypeId) (i : TypeInfo) (size : Nat) (ht : P.underlying t = some (.slice e)) (hi : P.info? e = some i)
    (v : Value) (n : Nat) (xs : List Value) (hown : w.ownsRow base e size v n xs) (c : Nat) : (Builtin.append_ #[t, t] ty #[v, .slice none 0 c]).run P w = .ok v w := by
  rcases hown.2 with ⟨rfl, rfl⟩ | ⟨g, cap, cur, rfl, _, _, hnc, _⟩
  · simp [Builtin.append_, run_underlying ht, sizeOf, typeInfo, hi, Builtin.lenOf, Builtin.firstCells]
  · simp [Builtin.append_, run_underlying ht, sizeOf, typeInfo, hi, Builtin.lenOf, Builtin.firstCells, hnc, storeCells]

theorem run_append_any (base : Nat) (t ty e : TypeId) (i : TypeInfo) (z : Value) (size bytes : Nat) (ht : P.underlying t = some (.slice e)) (hi : P.info? e = some i) (hz : i.zero = some z)
    (hsize : i.size = size) (hby : i.bytes = bytes) (hzs : z.cells.size = size) (hsz : 0 < size)
    (v : Value) (n : Nat) (xs : List Value) (hown : w.ownsRow base e size v n xs)
    (B : Nat) (A : Option Addr) (m c : Nat) (news : List Value) (hr : Reads w B size A m news) (h1 : ∀ u ∈ news, u.oneCell' = true)
    (h63 : n + m ≤ maxLen) (hbytes : (n + m) * bytes ≤ 140737488355328) (hbase : base ≤ w.heap.size) :
    ∃ v' w', (Builtin.append_ #[t, t] ty #[v, .slice A m c]).run P w = .ok v' w' ∧ w'.ownsRow base e size v' (n + m) (xs ++ news) ∧ w.grownBy w' v.ownBlock ∧
      (v'.ownBlock = v.ownBlock ∨ v'.ownBlock = some w.heap.size) := by
  rcases A with _ | ad
  · have hm : m = 0 := by
      rcases Nat.eq_zero_or_pos m with h0 | h0
      · exact h0
      · obtain ⟨ad, h, _⟩ := hr.2 h0
        cases h
    subst hm
    have hn : news = [] := List.eq_nil_of_length_eq_zero (by simpa using hr.1)
    subst hn
    exact ⟨v, w, run_append_of_nil w base t ty e i size ht hi v n xs hown c, by simpa using hown, World.grownBy.refl w _, .inl rfl⟩
  · have hcells : ∀ j u, news[j]? = some u → w.cell? (ad.add j) = some u := by
      intro j u hu
      rcases Nat.eq_zero_or_pos m with h0 | h0
      · subst h0
        have hn : news = [] := List.eq_nil_of_length_eq_zero (by simpa using hr.1)
        subst hn
        simp at hu
      · obtain ⟨ad', h, _, hc⟩ := hr.2 h0
        injection h with h
        subst h
        exact hc j u hu
    obtain ⟨v', w', hrun, h2, h3, _, h5⟩ := run_append_own_at (P := P) w base t ty e i z size bytes ht hi hz hsize hby hzs hsz v n xs hown ad m c news hr.1 hcells h1 h63 hbytes hbase
    exact ⟨v', w', hrun, h2, h3, h5⟩

theorem wp_append_any {o : Oper} {a : Act} {K : Act → World → Prop} {Q : Exit → Act → World → Prop} (s x : Operand) (t : TypeId)
    (ho : o.op = .call { callee := .builtin .append, args := #[s, x], argTypes := #[t, t] })
    (base : Nat) (e : TypeId) (i : TypeInfo) (z : Value) (size bytes : Nat) (ht : P.underlying t = some (.slice e)) (hi : P.info? e = some i) (hz : i.zero = some z)
    (hsize : i.size = size) (hby : i.bytes = bytes) (hzs : z.cells.size = size) (hsz : 0 < size)
    (v : Value) (n : Nat) (xs : List Value) (hs : a.eval s = v) (hown : w.ownsRow base e size v n xs)
    (B : Nat) (A : Option Addr) (m c : Nat) (news : List Value) (hx : a.eval x = .slice A m c) (hr : Reads w B size A m news) (h1 : ∀ u ∈ news, u.oneCell' = true)
    (h63 : n + m ≤ maxLen) (hbytes : (n + m) * bytes ≤ 140737488355328) (hbase : base ≤ w.heap.size)
    (h : ∀ v' w', w'.ownsRow base e size v' (n + m) (xs ++ news) → w.grownBy w' v.ownBlock → (v'.ownBlock = v.ownBlock ∨ v'.ownBlock = some w.heap.size) → K (a.put o.dst v') w') : o.wp P a w K Q := by
  obtain ⟨v', w', hrun, h2, h3, h4⟩ := run_append_any (P := P) w base t o.type e i z size bytes ht hi hz hsize hby hzs hsz v n xs hown B A m c news hr h1 h63 hbytes hbase
  unfold Oper.wp execOp
  simp only [ho, resolve, invoke, builtin, Sem.run_bind, Sem.run_pure, Result.andThen_ok, List.map_toArray, List.map_cons, List.map_nil, hs, hx, hrun]
  exact h v' w' h2 h3 h4

theorem wpList_append_any {ops : Array Oper} {rest : List Oper} {o : Oper} {a : Act} {Q : Exit → Act → World → Prop} (hgd : o.guard = none) (s x : Operand) (t : TypeId)
    (ho : o.op = .call { callee := .builtin .append, args := #[s, x], argTypes := #[t, t] })
    (base : Nat) (e : TypeId) (i : TypeInfo) (z : Value) (size bytes : Nat) (ht : P.underlying t = some (.slice e)) (hi : P.info? e = some i) (hz : i.zero = some z)
    (hsize : i.size = size) (hby : i.bytes = bytes) (hzs : z.cells.size = size) (hsz : 0 < size)
    (v : Value) (n : Nat) (xs : List Value) (hs : a.eval s = v) (hown : w.ownsRow base e size v n xs)
    (B : Nat) (A : Option Addr) (m c : Nat) (news : List Value) (hx : a.eval x = .slice A m c) (hr : Reads w B size A m news) (h1 : ∀ u ∈ news, u.oneCell' = true)
    (h63 : n + m ≤ maxLen) (hbytes : (n + m) * bytes ≤ 140737488355328) (hbase : base ≤ w.heap.size)
    (h : ∀ v' w', w'.ownsRow base e size v' (n + m) (xs ++ news) → w.grownBy w' v.ownBlock → (v'.ownBlock = v.ownBlock ∨ v'.ownBlock = some w.heap.size) → wpList P ops Q rest (a.put o.dst v') w') : wpList P ops Q (o :: rest) a w :=
  wpList_plain hgd fun _ hK => wp_append_any w s x t ho base e i z size bytes ht hi hz hsize hby hzs hsz v n xs hs hown B A m c news hx hr h1 h63 hbytes hbase fun v' w' h2 h3 h4 => hK _ _ (h v' w' h2 h3 h4)

theorem step_append_any {ops : Array Oper} {o : Oper} {a : Act} {K : Act → World → Prop} {Q : Exit → Act → World → Prop} {E : Prop} (hgd : o.guard = none) (s x : Operand) (t : TypeId)
    (ho : o.op = .call { callee := .builtin .append, args := #[s, x], argTypes := #[t, t] })
    (base : Nat) (e : TypeId) (i : TypeInfo) (z : Value) (size bytes : Nat) (ht : P.underlying t = some (.slice e)) (hi : P.info? e = some i) (hz : i.zero = some z)
    (hsize : i.size = size) (hby : i.bytes = bytes) (hzs : z.cells.size = size) (hsz : 0 < size)
    (v : Value) (n : Nat) (xs : List Value) (hs : a.eval s = v) (hown : w.ownsRow base e size v n xs)
    (B : Nat) (A : Option Addr) (m c : Nat) (news : List Value) (hx : a.eval x = .slice A m c) (hr : Reads w B size A m news) (h1 : ∀ u ∈ news, u.oneCell' = true)
    (h63 : n + m ≤ maxLen) (hbytes : (n + m) * bytes ≤ 140737488355328) (hbase : base ≤ w.heap.size)
    (h : ∀ v' w', w'.ownsRow base e size v' (n + m) (xs ++ news) → w.grownBy w' v.ownBlock → (v'.ownBlock = v.ownBlock ∨ v'.ownBlock = some w.heap.size) → K (a.put o.dst v') w') :
    if Region.wanted o (yielded ops a.tmps) = true then Oper.wp P o a w K Q else E := by
  have hw : Region.wanted o (yielded ops a.tmps) = true := by simp [Region.wanted, hgd]
  rw [if_pos hw]
  exact wp_append_any w s x t ho base e i z size bytes ht hi hz hsize hby hzs hsz v n xs hs hown B A m c news hx hr h1 h63 hbytes hbase h
end

end Go.Proofs.YtooigfkjdemnlaaGreatDoor.Xw
namespace Go.Proofs.YtooigfkjdemnlaaGreatDoor.Xs
open Go.Joins Go.ChangeShapes Go.WideShapes Go.RowKit Go.Deep

section
variable {H : Type} {enc : TypeId × Value → H} {P : Program} {w : World} {base : Nat} {spare : Nat → Bool} {held : Bool}
theorem open_slice_fields {t e : TypeId} {fs : Array Field} {fuel : Nat} {cs : List Value} {x : DataW H × List MemPlace} (ht : P.underlying t = some (.slice e)) (he : P.underlying e = some (.struct fs))
    (hone : oneCellFields P fs = true) (hC : P.cellsOf e = fs.size) (h : DataW.trod enc P w base spare held fuel t cs = some x) :
    (cs = [.slice none 0 0] ∧ x = (.nil, [])) ∨
    ∃ (a : Addr) (len cap m : Nat) (D : Nat → DataW H) (Pl : Nat → List MemPlace), cs = [.slice (some a) len cap] ∧ base ≤ a.block ∧ len ≤ cap ∧ cap ≤ maxLen ∧ m = (if spare a.block then cap else len) ∧
      x = (.slice ((List.range len).map D) ((List.range (m - len)).map fun j => D (len + j)), MemPlace.row a (m * fs.size) ++ (List.range m).flatMap Pl) ∧
      ∀ i, i < m → ∃ (ys : List (DataW H × List MemPlace)) (n : Nat), D i = .agg (ys.map (·.1)) ∧ Pl i = ys.flatMap (·.2) ∧ ys.length = fs.size ∧
        ∀ (j : Nat) (f : Field), fs[j]? = some f → ∃ (v : Value) (y : DataW H × List MemPlace), w.cell? (a.add (i * fs.size + j)) = some v ∧ ys[j]? = some y ∧ DataW.trod enc P w base spare held n f.type [v] = some y := by
  rcases open_slice ht h with h0 | ⟨a, len, cap, m, n, D, Pl, hcs, hb, hl, hm, hmm, hx, hi⟩
  · exact .inl h0
  · refine .inr ⟨a, len, cap, m, D, Pl, hcs, hb, hl, hm, hmm, by rw [hC] at hx; exact hx, fun i him => ?_⟩
    obtain ⟨cs', hc, ht'⟩ := hi i him
    rw [hC] at hc
    obtain ⟨ys, n', hn', hy, hlen, hyl, hf⟩ := DataW.trod_struct he ht'
    obtain ⟨_, hcl, hat⟩ := World.cells?_some hc
    simp only [Prod.mk.injEq] at hy
    refine ⟨ys, n', hy.1, hy.2, hyl, fun j f hj => ?_⟩
    obtain ⟨ho, hk⟩ := hone_of hone j f hj
    have hjl : j < fs.size := (Array.getElem?_eq_some_iff.1 hj).1
    have hcell := hat j hjl
    have hv : cs'[j]? = some (cs'[j]'(by omega)) := List.getElem?_eq_getElem (by omega)
    have h1 := hf j f hj
    rw [ho, hk] at h1
    have hone' : (cs'.drop j).take 1 = [cs'[j]'(by omega)] := by
      rw [List.drop_eq_getElem_cons (by omega)]
      rfl
    rw [hone'] at h1
    have hys : ys[j]? = some (ys[j]'(by omega)) := List.getElem?_eq_getElem (by omega)
    refine ⟨_, _, ?_, hys, h1.trans hys⟩
    rw [← Go.Deep.add_add, hcell, hv]
end

section
variable {H : Type} {enc : TypeId × Value → H} {P : Program} {w : World} {base : Nat} {spare : Nat → Bool} {held : Bool}
theorem open_agg5 {r : Reach} {b0 : Nat} {t : TypeId} {f0 f1 f2 f3 f4 : Field} {v : Value} {d : DataW H} {p : List MemPlace} (hs : P.underlying t = some (.struct #[f0, f1, f2, f3, f4])) (hone : oneCellFields P #[f0, f1, f2, f3, f4] = true) (hC : P.cellsOf t = 5)
    (hv : Value.okWide P w r b0 t v) (h : DataW.Trod enc P w base spare held t v d p) :
    ∃ (v0 v1 v2 v3 v4 : Value) (y0 y1 y2 y3 y4 : DataW H × List MemPlace) (n : Nat), v = .agg #[v0, v1, v2, v3, v4] ∧ d = .agg [y0.1, y1.1, y2.1, y3.1, y4.1] ∧ p = y0.2 ++ (y1.2 ++ (y2.2 ++ (y3.2 ++ y4.2))) ∧
      DataW.trod enc P w base spare held n f0.type [v0] = some y0 ∧ DataW.trod enc P w base spare held n f1.type [v1] = some y1 ∧ DataW.trod enc P w base spare held n f2.type [v2] = some y2 ∧ DataW.trod enc P w base spare held n f3.type [v3] = some y3 ∧ DataW.trod enc P w base spare held n f4.type [v4] = some y4 := by
  obtain ⟨cs, rfl, hsz⟩ := okWide_struct hs hv
  obtain ⟨l⟩ := cs
  match l, hsz.trans hC with
  | [c0, c1, c2, c3, c4], _ =>
    obtain ⟨fuel, hf⟩ := h
    obtain ⟨xs, n, _, hx, _, hlen, hg⟩ := DataW.trod_struct hs hf
    obtain ⟨o0, k0⟩ := hone_of hone 0 f0 rfl
    obtain ⟨o1, k1⟩ := hone_of hone 1 f1 rfl
    obtain ⟨o2, k2⟩ := hone_of hone 2 f2 rfl
    obtain ⟨o3, k3⟩ := hone_of hone 3 f3 rfl
    obtain ⟨o4, k4⟩ := hone_of hone 4 f4 rfl
    match xs, hlen with
    | [y0, y1, y2, y3, y4], _ =>
      simp only [Prod.mk.injEq] at hx
      exact ⟨c0, c1, c2, c3, c4, y0, y1, y2, y3, y4, n, rfl, by simpa using hx.1, by simpa using hx.2, by simpa [Value.cells, o0, k0] using hg 0 f0 rfl, by simpa [Value.cells, o1, k1] using hg 1 f1 rfl, by simpa [Value.cells, o2, k2] using hg 2 f2 rfl, by simpa [Value.cells, o3, k3] using hg 3 f3 rfl, by simpa [Value.cells, o4, k4] using hg 4 f4 rfl⟩

theorem open_agg6 {r : Reach} {b0 : Nat} {t : TypeId} {f0 f1 f2 f3 f4 f5 : Field} {v : Value} {d : DataW H} {p : List MemPlace} (hs : P.underlying t = some (.struct #[f0, f1, f2, f3, f4, f5])) (hone : oneCellFields P #[f0, f1, f2, f3, f4, f5] = true) (hC : P.cellsOf t = 6)
    (hv : Value.okWide P w r b0 t v) (h : DataW.Trod enc P w base spare held t v d p) :
    ∃ (v0 v1 v2 v3 v4 v5 : Value) (y0 y1 y2 y3 y4 y5 : DataW H × List MemPlace) (n : Nat), v = .agg #[v0, v1, v2, v3, v4, v5] ∧ d = .agg [y0.1, y1.1, y2.1, y3.1, y4.1, y5.1] ∧ p = y0.2 ++ (y1.2 ++ (y2.2 ++ (y3.2 ++ (y4.2 ++ y5.2)))) ∧
      DataW.trod enc P w base spare held n f0.type [v0] = some y0 ∧ DataW.trod enc P w base spare held n f1.type [v1] = some y1 ∧ DataW.trod enc P w base spare held n f2.type [v2] = some y2 ∧ DataW.trod enc P w base spare held n f3.type [v3] = some y3 ∧ DataW.trod enc P w base spare held n f4.type [v4] = some y4 ∧ DataW.trod enc P w base spare held n f5.type [v5] = some y5 := by
  obtain ⟨cs, rfl, hsz⟩ := okWide_struct hs hv
  obtain ⟨l⟩ := cs
  match l, hsz.trans hC with
  | [c0, c1, c2, c3, c4, c5], _ =>
    obtain ⟨fuel, hf⟩ := h
    obtain ⟨xs, n, _, hx, _, hlen, hg⟩ := DataW.trod_struct hs hf
    obtain ⟨o0, k0⟩ := hone_of hone 0 f0 rfl
    obtain ⟨o1, k1⟩ := hone_of hone 1 f1 rfl
    obtain ⟨o2, k2⟩ := hone_of hone 2 f2 rfl
    obtain ⟨o3, k3⟩ := hone_of hone 3 f3 rfl
    obtain ⟨o4, k4⟩ := hone_of hone 4 f4 rfl
    obtain ⟨o5, k5⟩ := hone_of hone 5 f5 rfl
    match xs, hlen with
    | [y0, y1, y2, y3, y4, y5], _ =>
      simp only [Prod.mk.injEq] at hx
      exact ⟨c0, c1, c2, c3, c4, c5, y0, y1, y2, y3, y4, y5, n, rfl, by simpa using hx.1, by simpa using hx.2, by simpa [Value.cells, o0, k0] using hg 0 f0 rfl, by simpa [Value.cells, o1, k1] using hg 1 f1 rfl, by simpa [Value.cells, o2, k2] using hg 2 f2 rfl, by simpa [Value.cells, o3, k3] using hg 3 f3 rfl, by simpa [Value.cells, o4, k4] using hg 4 f4 rfl, by simpa [Value.cells, o5, k5] using hg 5 f5 rfl⟩
end

end Go.Proofs.YtooigfkjdemnlaaGreatDoor.Xs

namespace Go.Proofs.YtooigfkjdemnlaaGreatDoor
open Go.RowKit Xw

def Sl (w : World) (e : TypeId) (size : Nat) (v : Value) (n : Nat) (xs : List Value) (F : Nat → Prop) : Prop :=
  xs.length = n * size ∧ ((v = .slice none 0 0 ∧ n = 0) ∨
    ∃ g off cap cur, v = .slice (some ⟨g, off, none⟩) n cap ∧ F g ∧ w.heap[g]? = some (.cells cur e (0, 0)) ∧ n ≤ cap ∧ cap ≤ maxLen ∧ off + cap * size ≤ cur.size ∧ (cur.toList.drop off).take (n * size) = xs)

section
variable {w w' : World} {e : TypeId} {size n : Nat} {v : Value} {xs : List Value} {F G : Nat → Prop}

theorem Sl.nil (w : World) (e : TypeId) (size : Nat) (F : Nat → Prop) : Sl w e size (.slice none 0 0) 0 [] F := ⟨by simp, .inl ⟨rfl, rfl⟩⟩
theorem Sl.len (h : Sl w e size v n xs F) : xs.length = n * size := h.1
theorem Sl.mono (h : Sl w e size v n xs F) (hg : ∀ j, j < w.heap.size → F j → G j) : Sl w e size v n xs G :=
  ⟨h.1, h.2.imp id fun ⟨g, off, cap, cur, hv, hF, hb, r⟩ => ⟨g, off, cap, cur, hv, hg g (lt_of_heap hb) hF, hb, r⟩⟩
theorem Sl.keep (h : Sl w e size v n xs F) (hk : ∀ j, j < w.heap.size → F j → w'.heap[j]? = w.heap[j]?) : Sl w' e size v n xs F :=
  ⟨h.1, h.2.imp id fun ⟨g, off, cap, cur, hv, hF, hb, r⟩ => ⟨g, off, cap, cur, hv, hF, (hk g (lt_of_heap hb) hF).trans hb, r⟩⟩
theorem Sl.chg (h : Sl w e size v n xs F) (hc : Chg G w w') (hd : ∀ j, F j → ¬ G j) : Sl w' e size v n xs F := h.keep fun j hj hF => hc.block j hj (hd j hF)
theorem Sl.shape (h : Sl w e size v n xs F) : ∃ A c, v = .slice A n c ∧ c ≤ maxLen ∧ n ≤ c := by
  rcases h.2 with ⟨rfl, rfl⟩ | ⟨g, off, cap, cur, rfl, _, _, hn, hm, _⟩
  · exact ⟨_, _, rfl, by simp [maxLen], Nat.le_refl _⟩
  · exact ⟨_, _, rfl, hm, hn⟩
theorem Sl.cells {A : Option Addr} {c : Nat} (h : Sl w e size (.slice A n c) n xs F) : Reads w w.heap.size size A n xs := by
  refine ⟨h.1, fun hpos => ?_⟩
  rcases h.2 with ⟨_, h0⟩ | ⟨g, off, cap, cur, hv, _, hb, hn, _, hs, ht⟩
  · omega
  · cases hv
    refine ⟨_, rfl, lt_of_heap hb, fun j u hj => ?_⟩
    have e1 : (⟨g, off, none⟩ : Addr).add j = ⟨g, off + j, none⟩ := by unfold Addr.add; split <;> simp_all
    rw [e1, cell_of_row w g _ _ _ _ hb]
    rw [← ht, List.getElem?_take] at hj
    split at hj
    · rw [List.getElem?_drop] at hj
      simpa using hj
    · cases hj
theorem Sl.of_block {g : Nat} {cur : Array Value} (hb : w.heap[g]? = some (.cells cur e (0, 0))) (hF : F g) (hn : cur.size = n * size) (hm : n ≤ maxLen) : Sl w e size (.slice (some ⟨g, 0, none⟩) n n) n cur.toList F :=
  ⟨by simpa using hn, .inr ⟨g, 0, n, cur, rfl, hF, hb, Nat.le_refl _, hm, by omega, by rw [← hn, List.drop_zero, ← Array.length_toList, List.take_length]⟩⟩
theorem Sl.cut {A : Option Addr} {c k c' : Nat} (h : Sl w e size (.slice A n c) n xs F) (hk : k ≤ n) (hc : c' ≤ c) (hkc : k ≤ c') (hA : A ≠ none) : Sl w e size (.slice A k c') k (xs.take (k * size)) F := by
  have hle : k * size ≤ n * size := Nat.mul_le_mul_right _ hk
  refine ⟨by rw [List.length_take, h.1]; omega, ?_⟩
  rcases h.2 with ⟨hv, h0⟩ | ⟨g, off, cap, cur, hv, hF, hb, hn, hm, hs, ht⟩
  · cases hv; exact absurd rfl hA
  · cases hv
    have : c' * size ≤ c * size := Nat.mul_le_mul_right _ hc
    refine .inr ⟨g, off, c', cur, rfl, hF, hb, hkc, Nat.le_trans hc hm, by omega, ?_⟩
    rw [← ht, List.take_take, Nat.min_eq_left hle]
end

theorem take_set_succ {α : Type} (l : List α) (o : Nat) (v : α) (h : o < l.length) : (l.set o v).take (o + 1) = l.take o ++ [v] := by
  rw [List.take_set, List.take_succ_eq_append_getElem h, List.set_append_right _ _ (by rw [List.length_take]; omega)]
  simp [Nat.min_eq_left (Nat.le_of_lt h)]

theorem setCells_heap (g : Nat) (e : TypeId) (fz : Nat × Nat) : ∀ (vs : List Value) (o : Nat) (w : World) (cur : Array Value), w.heap[g]? = some (.cells cur e fz) → o + vs.length ≤ cur.size →
    ∃ cur', (w.setCells g o vs).heap[g]? = some (.cells cur' e fz) ∧ cur'.toList = cur.toList.take o ++ vs ++ cur.toList.drop (o + vs.length) ∧ Chg (fun j => j = g) w (w.setCells g o vs)
  | [], o, w, cur, h, hs => ⟨cur, h, by simp, Chg.refl _ _⟩
  | v :: r, o, w, cur, h, hs => by
    simp only [List.length_cons] at hs
    have h1 := heap_setCell_same (i := o) (v := v) h
    obtain ⟨cur', h2, h3, h4⟩ := setCells_heap g e fz r (o + 1) (w.setCell ⟨g, o, none⟩ v) (cur.setIfInBounds o v) h1 (by simp; omega)
    refine ⟨cur', h2, ?_, ?_⟩
    · rw [h3, Array.toList_setIfInBounds, take_set_succ _ _ _ (by simp; omega), List.drop_set_of_lt (by omega)]
      simp only [List.length_cons, List.append_assoc, List.singleton_append]
      rw [show o + 1 + r.length = o + (r.length + 1) by omega]
    · exact (Chg.setCell (F := fun j => j = g) (Chg.refl _ _) ⟨g, o, none⟩ v (fun _ => rfl)).trans h4 (fun _ _ h => h)

section
variable {P : Program} (w : World)

theorem run_append_sl (t ty e : TypeId) (i : TypeInfo) (z : Value) (size bytes : Nat) (ht : P.underlying t = some (.slice e)) (hi : P.info? e = some i) (hz : i.zero = some z)
    (hsize : i.size = size) (hby : i.bytes = bytes) (hzs : z.cells.size = size) (hsz : 0 < size)
    (v : Value) (n : Nat) (xs : List Value) (F : Nat → Prop) (hown : Sl w e size v n xs F)
    (B : Nat) (A : Option Addr) (m c : Nat) (news : List Value) (hr : Reads w B size A m news) (h1 : ∀ u ∈ news, u.oneCell' = true)
    (h63 : n + m ≤ maxLen) (hbytes : (n + m) * bytes ≤ 140737488355328) :
    ∃ v' w' F', (Builtin.append_ #[t, t] ty #[v, .slice A m c]).run P w = .ok v' w' ∧ Sl w' e size v' (n + m) (xs ++ news) F' ∧ Chg F w w' ∧ From F w w' F' ∧ (0 < n + m → v' ≠ .slice none 0 0) := by
  subst hsize
  subst hby
  have hsmall : n + m ≤ 9223372036854775807 := by simp only [maxLen] at h63; omega
  have hlen : (xs ++ news).length = (n + m) * i.size := by rw [List.length_append, hown.1, hr.1, Nat.add_mul]
  have hsrc : Src P i.size t (.slice A m c) m news w := by
    rcases A with _ | ad
    · have hm : m = 0 := by
        rcases Nat.eq_zero_or_pos m with h0 | h0
        · exact h0
        · obtain ⟨ad, h, _⟩ := hr.2 h0; cases h
      subst hm
      have hn : news = [] := List.eq_nil_of_length_eq_zero (by simpa using hr.1)
      subst hn
      exact Src.ofNil w ht c
    · refine Src.ofSlice w ht ad m c news hr.1 ?_ h1
      intro j u hu
      rcases Nat.eq_zero_or_pos m with h0 | h0
      · subst h0
        have hn : news = [] := List.eq_nil_of_length_eq_zero (by simpa using hr.1)
        subst hn; simp at hu
      · obtain ⟨ad', h, _, hc⟩ := hr.2 h0
        injection h with h; subst h
        exact hc j u hu
  have grown : ∀ (old : Nat), old < n + m →
      Sl (w.drew.alloc (.cells ((xs ++ news).toArray ++ Builtin.zeroCells z.cells (grownCap w (n + m) old e - (n + m))) e)) e i.size
        (.slice (some ⟨w.heap.size, 0, none⟩) (n + m) (grownCap w (n + m) old e)) (n + m) (xs ++ news) (fun j => j = w.heap.size) := by
    intro old ho
    have hge := grownCap_ge w (n + m) old e
    have hcm : grownCap w (n + m) old e ≤ maxLen := grownCap_le_maxLen w (n + m) old e h63
    refine ⟨hlen, .inr ⟨w.heap.size, 0, _, _, rfl, rfl, heap_alloc_new w.drew _, hge, hcm, ?_, ?_⟩⟩
    · simp only [Array.size_append, List.size_toArray, size_zeroCells, hzs, hlen, ← Nat.add_mul, Nat.zero_add]
      refine Nat.le_of_eq ?_
      congr 1
      omega
    · simp only [Array.toList_append, List.drop_zero]
      rw [← hlen]
      exact List.take_left
  have chg : ∀ o : Obj, Chg F w (w.drew.alloc o) := fun o => ((Chg.refl F w).drew).alloc o
  have frm : ∀ o : Obj, From F w (w.drew.alloc o) (fun j => j = w.heap.size) := fun o j hj => .inr ⟨Nat.le_of_eq hj.symm, by rw [World.size_alloc, hj]; exact Nat.lt_succ_self _⟩
  rcases hown.2 with ⟨rfl, rfl⟩ | ⟨g, off, cap, cur, rfl, hF, hg, hnc, hcm, hcs, htake⟩
  · have hx : xs = [] := List.eq_nil_of_length_eq_zero (by simpa using hown.1)
    subst hx
    by_cases hm : m = 0
    · subst hm
      have hn : news = [] := List.eq_nil_of_length_eq_zero (by simpa using hr.1)
      subst hn
      refine ⟨.slice none 0 0, w, F, ?_, by simpa using hown, Chg.refl _ _, From.refl _ _ _, fun h => absurd h (by omega)⟩
      rcases A with _ | ad <;>
        simp [Builtin.append_, run_underlying ht, sizeOf, typeInfo, hi, Builtin.lenOf, Builtin.firstCells, loadCells, loadCellsFrom]
    · have hrun := run_append_grow_src (P := P) w t t ty e i z ht hi hz none 0 0 [] (run_firstCells_none w.drew i.size 0 0 0) (.slice A m c) m news hsrc (by omega) (by omega) (growslice_fits (by omega) hbytes)
      have hgr := grown 0 (by omega)
      refine ⟨_, _, _, hrun, ?_, chg _, frm _, fun _ h => by cases h⟩
      simpa using hgr
  · by_cases hroom : n + m ≤ cap
    · have hcap : (n + m) * i.size ≤ cap * i.size := Nat.mul_le_mul_right _ hroom
      rw [Nat.add_mul] at hcap
      have hfit : off + n * i.size + news.length ≤ cur.size := by rw [hr.1]; omega
      have hrun := run_append_room_src (P := P) w t t ty e i ht hi g off n cap (.slice A m c) m news hsrc hroom
        (fun j hj => by rw [cell_of_row w g _ _ _ _ hg]; simp; omega) (fun j hj => by simp [World.frozen?, hg])
      obtain ⟨cur', hh, hl, hc⟩ := setCells_heap g e (0, 0) news (off + n * i.size) w cur hg hfit
      refine ⟨_, _, F, hrun, ⟨hlen, .inr ⟨g, off, cap, cur', rfl, hF, hh, hroom, hcm, ?_, ?_⟩⟩, hc.mono (fun j _ hj => by subst hj; exact hF), From.refl _ _ _, fun _ h => by cases h⟩
      · have : cur'.size = cur.size := by
          have := congrArg List.length hl
          simp at this
          omega
        omega
      · rw [hl, List.append_assoc, List.drop_append_of_le_length (by simp; omega), List.drop_take, show off + n * i.size - off = n * i.size by omega, htake, ← List.append_assoc, ← hlen]
        exact List.take_left
    · have hold : (Builtin.firstCells i.size n (.slice (some ⟨g, off, none⟩) n cap)).run P w.drew = .ok xs.toArray w.drew := by
        refine run_firstCells_some w.drew i.size n _ n cap xs hown.1 ?_
        intro j u hj
        have e1 : (⟨g, off, none⟩ : Addr).add j = ⟨g, off + j, none⟩ := by unfold Addr.add; split <;> simp_all
        rw [e1]
        show w.cell? _ = _
        rw [cell_of_row w g _ _ _ _ hg]
        rw [← htake, List.getElem?_take] at hj
        split at hj
        · rw [List.getElem?_drop] at hj; simpa using hj
        · cases hj
      have hrun := run_append_grow_src (P := P) w t t ty e i z ht hi hz (some ⟨g, off, none⟩) n cap xs hold (.slice A m c) m news hsrc (by omega) (by omega) (growslice_fits (by omega) hbytes)
      have hgr := grown cap (by omega)
      refine ⟨_, _, _, hrun, ?_, chg _, frm _, fun _ h => by cases h⟩
      simpa using hgr

theorem wp_append_sl {o : Oper} {a : Act} {K : Act → World → Prop} {Q : Exit → Act → World → Prop} (s x : Operand) (t : TypeId)
    (ho : o.op = .call { callee := .builtin .append, args := #[s, x], argTypes := #[t, t] })
    (e : TypeId) (i : TypeInfo) (z : Value) (size bytes : Nat) (ht : P.underlying t = some (.slice e)) (hi : P.info? e = some i) (hz : i.zero = some z)
    (hsize : i.size = size) (hby : i.bytes = bytes) (hzs : z.cells.size = size) (hsz : 0 < size)
    (v : Value) (n : Nat) (xs : List Value) (F : Nat → Prop) (hs : a.eval s = v) (hown : Sl w e size v n xs F)
    (B : Nat) (A : Option Addr) (m c : Nat) (news : List Value) (hx : a.eval x = .slice A m c) (hr : Reads w B size A m news) (h1 : ∀ u ∈ news, u.oneCell' = true)
    (h63 : n + m ≤ maxLen) (hbytes : (n + m) * bytes ≤ 140737488355328)
    (h : ∀ v' w' F', Sl w' e size v' (n + m) (xs ++ news) F' → Chg F w w' → From F w w' F' → (0 < n + m → v' ≠ .slice none 0 0) → K (a.put o.dst v') w') : o.wp P a w K Q := by
  obtain ⟨v', w', F', hrun, h2, h3, h4, h5⟩ := run_append_sl (P := P) w t o.type e i z size bytes ht hi hz hsize hby hzs hsz v n xs F hown B A m c news hr h1 h63 hbytes
  unfold Oper.wp execOp
  simp only [ho, resolve, invoke, builtin, Sem.run_bind, Sem.run_pure, Result.andThen_ok, List.map_toArray, List.map_cons, List.map_nil, hs, hx, hrun]
  exact h v' w' F' h2 h3 h4 h5

theorem wpList_append_sl {ops : Array Oper} {rest : List Oper} {o : Oper} {a : Act} {Q : Exit → Act → World → Prop} (hgd : o.guard = none) (s x : Operand) (t : TypeId)
    (ho : o.op = .call { callee := .builtin .append, args := #[s, x], argTypes := #[t, t] })
    (e : TypeId) (i : TypeInfo) (z : Value) (size bytes : Nat) (ht : P.underlying t = some (.slice e)) (hi : P.info? e = some i) (hz : i.zero = some z)
    (hsize : i.size = size) (hby : i.bytes = bytes) (hzs : z.cells.size = size) (hsz : 0 < size)
    (v : Value) (n : Nat) (xs : List Value) (F : Nat → Prop) (hs : a.eval s = v) (hown : Sl w e size v n xs F)
    (B : Nat) (A : Option Addr) (m c : Nat) (news : List Value) (hx : a.eval x = .slice A m c) (hr : Reads w B size A m news) (h1 : ∀ u ∈ news, u.oneCell' = true)
    (h63 : n + m ≤ maxLen) (hbytes : (n + m) * bytes ≤ 140737488355328)
    (h : ∀ v' w' F', Sl w' e size v' (n + m) (xs ++ news) F' → Chg F w w' → From F w w' F' → (0 < n + m → v' ≠ .slice none 0 0) → wpList P ops Q rest (a.put o.dst v') w') : wpList P ops Q (o :: rest) a w :=
  wpList_plain hgd fun _ hK => wp_append_sl w s x t ho e i z size bytes ht hi hz hsize hby hzs hsz v n xs F hs hown B A m c news hx hr h1 h63 hbytes fun v' w' F' h2 h3 h4 h5 => hK _ _ (h v' w' F' h2 h3 h4 h5)
end
end Go.Proofs.YtooigfkjdemnlaaGreatDoor

namespace Go.Proofs.YtooigfkjdemnlaaGreatDoor

structure HVer where
  key : ByteArray
  frm : Int
  nth : Int
structure HOpr where
  kind : Int
  ver : HVer
  dead : Bool
  value : ByteArray
  hi : ByteArray
  seen : List HVer
  at_ : Int
structure HTx where
  iso : Int
  fate : Int
  bgn : Int
  fin : Int
  bi : Int
  bo : Int
  ei : Int
  eo : Int
  ops : List HOpr
structure Wrote where
  op : Nat
  dead : Bool
  value : ByteArray
structure Inst where
  txn : Nat
  fin : Int
  dead : Bool
structure Edge where
  frm : Int
  to : Int
  kind : Int
  key : ByteArray

def klt (a b : ByteArray) : Bool := Op.bytesLess a.toList b.toList
def kle (a b : ByteArray) : Bool := Op.bytesLess a.toList b.toList || a.toList == b.toList

def wrFrom : List HOpr → ByteArray → Nat → List Wrote
  | [], _, _ => []
  | o :: r, k, i => if o.kind = 2 ∧ o.ver.key = k then ⟨i, o.dead, o.value⟩ :: wrFrom r k (i + 1) else wrFrom r k (i + 1)
def writes (x : HTx) (k : ByteArray) : List Wrote := wrFrom x.ops k 0
def com (h : List HTx) (t : Nat) : Bool := match h[t]? with
  | some x => x.fate == 1
  | none => false
def insFrom : List HTx → ByteArray → Nat → List Inst
  | [], _, _ => []
  | x :: r, k, t => match x.fate == 1, (writes x k).getLast? with
    | true, some u => ⟨t, x.fin, u.dead⟩ :: insFrom r k (t + 1)
    | _, _ => insFrom r k (t + 1)
def instLe (a b : Inst) : Bool := a.fin < b.fin || (a.fin == b.fin && decide (a.txn ≤ b.txn))
def order (h : List HTx) (k : ByteArray) : List Inst := (insFrom h k 0).mergeSort instLe
def allKeys (h : List HTx) : List ByteArray := h.flatMap fun x => if x.fate == 1 then (x.ops.filter fun o => o.kind == 2).map (·.ver.key) else []
def keysOf (h : List HTx) : List ByteArray := ((allKeys h).mergeSort kle).eraseDups

def covers (o : HOpr) (k : ByteArray) : Bool := kle o.ver.key k && (o.hi.toList.isEmpty || klt k o.hi)
def aheadL (x : HTx) (k : ByteArray) (i : Nat) : List Wrote := (writes x k).takeWhile fun u => decide (u.op < i)
def tellsAt (o : HOpr) (k : ByteArray) : Option HVer := o.seen.find? fun v => decide (v.key = k)
def chosenUpto (t : Nat) (at_ : Int) (l : List Inst) : Nat → Nat
  | 0 => 0
  | j + 1 => match l[j]? with
    | some v => if v.txn ≠ t ∧ v.fin ≤ at_ then j + 1 else chosenUpto t at_ l j
    | none => chosenUpto t at_ l j
def chosen (h : List HTx) (t : Nat) (k : ByteArray) (at_ : Int) : Nat := chosenUpto t at_ (order h k) (order h k).length
def tellable (h : List HTx) (t : Nat) (x : HTx) (i : Nat) (v : HVer) : Option Wrote :=
  match (if 0 ≤ v.frm then h[v.frm.toNat]? else none) with
  | none => none
  | some y => match (if 1 ≤ v.nth then (writes y v.key)[v.nth.toNat - 1]? else none) with
    | none => none
    | some u => if u.dead = true then none else
      if com h t = true ∧ (0 < (aheadL x v.key i).length ∨ v.frm = t) ∧ (v.frm ≠ t ∨ v.nth ≠ (aheadL x v.key i).length) then none else some u
def endUsed (h : List HTx) (fin : Int) : Nat → Bool
  | 0 => false
  | u + 1 => endUsed h fin u || (com h u && (match h[u]? with | some y => y.fin == fin | none => false))
def imax2 (a b : Int) : Int := if b > a then b else a
def imin4 (a b c d : Int) : Int := if d < (if c < (if b < a then b else a) then c else (if b < a then b else a)) then d else (if c < (if b < a then b else a) then c else (if b < a then b else a))
def imax4 (a b c d : Int) : Int := imax2 (imax2 (imax2 a b) c) d
def shaped1 (x : HTx) : Bool := decide (0 ≤ x.fate) && decide (x.fate ≤ 2) && decide (imax2 x.bgn x.fin ≤ 4611686018427387903) && decide (1 ≤ x.iso) && decide (x.iso ≤ 4)
def shaped2 (x : HTx) : Bool := decide (0 ≤ imin4 x.bi x.bo x.ei x.eo) && decide (imax4 x.bi x.bo x.ei x.eo ≤ 1073741824)
def shaped3 (x : HTx) : Bool := decide (x.bgn ≤ x.fin) && decide (x.bi ≤ x.bo) && decide (x.bo ≤ x.ei) && (x.eo == 0 || decide (x.ei ≤ x.eo))
def shaped (h : List HTx) (t : Nat) (x : HTx) : Bool := shaped1 x && shaped2 x && (!com h t || (!endUsed h x.fin t && shaped3 x))
def okKey (h : List HTx) (t : Nat) (x : HTx) (i : Nat) (o : HOpr) (k : ByteArray) : Bool :=
  match (aheadL x k i).getLast? with
  | some u => u.dead
  | none => match chosen h t k o.at_ with
    | 0 => true
    | c + 1 => match (order h k)[c]? with
      | some v => v.dead
      | none => true
def complete (h : List HTx) (t : Nat) (x : HTx) (i : Nat) (o : HOpr) : Bool := ((keysOf h).filter fun k => (tellsAt o k).isNone && covers o k).all (okKey h t x i o)
def cmpI (a b : Int) : Int := if a < b then -1 else if b < a then 1 else 0
def cmpS (a b : ByteArray) : Int := if klt a b = true then -1 else if (a.toList == b.toList) = true then 0 else 1
def riseOk (h : List HTx) (t : Nat) (o : HOpr) (v : HVer) : Nat → Bool
  | 0 => true
  | m + 1 => match o.seen[m]? with
    | some u => decide (cmpS u.key v.key ≤ 0) && (!(cmpS u.key v.key == 0) || !com h t)
    | none => true
def seenOk (h : List HTx) (t : Nat) (x : HTx) (i : Nat) (o : HOpr) : Nat → Bool
  | 0 => true
  | j + 1 => seenOk h t x i o j && (match o.seen[j]? with
    | some v => (tellable h t x i v).isSome && covers o v.key && riseOk h t o v j
    | none => true)
def operation (h : List HTx) (t : Nat) (x : HTx) (i : Nat) (o : HOpr) : Int :=
  if o.kind = 2 then 0
  else if o.kind ≠ 1 ∧ o.kind ≠ 3 then 140
  else if 4611686018427387903 < o.at_ ∨ (com h t = true ∧ (o.at_ < x.bgn ∨ x.fin < o.at_)) then 140
  else if o.kind = 1 then (match tellable h t x i o.ver with
    | none => 140
    | some u => if (u.value.toList == o.value.toList) = true then 0 else 140)
  else if 256 < o.seen.length then 141
  else if seenOk h t x i o o.seen.length = false then 140
  else if com h t = true ∧ complete h t x i o = false then 140
  else 0
def idxI (n : Option Nat) : Int := match n with
  | some i => i
  | none => -1
def standing (h : List HTx) (v : HVer) : Int := match h[v.frm.toNat]? with
  | some x => if com h v.frm.toNat = true ∧ v.nth = (writes x v.key).length then idxI ((order h v.key).findIdx? fun u => decide ((u.txn : Int) = v.frm)) else -1
  | none => -1
end Go.Proofs.YtooigfkjdemnlaaGreatDoor

namespace Go.Proofs.YtooigfkjdemnlaaGreatDoor

def opsFault (h : List HTx) (t : Nat) (x : HTx) : Nat → Option (Int × Nat)
  | 0 => none
  | j + 1 => match opsFault h t x j with
    | some f => some f
    | none => match x.ops[j]? with
      | some o => if operation h t x j o = 0 then none else some (operation h t x j o, j)
      | none => none
def txFault (h : List HTx) (t : Nat) (x : HTx) : Option (Int × Nat) :=
  if 256 < x.ops.length then some (141, 0) else if shaped h t x = false then some (140, 0) else opsFault h t x x.ops.length
def checkFault (h : List HTx) : Nat → Option (Int × Nat × Nat)
  | 0 => none
  | t + 1 => match checkFault h t with
    | some f => some f
    | none => match h[t]? with
      | some x => (txFault h t x).map fun f => (f.1, t, f.2)
      | none => none
theorem opsFault_mono {h : List HTx} {t : Nat} {x : HTx} {f : Int × Nat} {j n : Nat} (h1 : opsFault h t x j = some f) (hn : j ≤ n) : opsFault h t x n = some f := by
  induction n with
  | zero =>
    obtain rfl : j = 0 := by omega
    exact h1
  | succ n ih =>
    by_cases e : j = n + 1
    · subst e; exact h1
    · simp only [opsFault, ih (by omega)]
theorem checkFault_mono {h : List HTx} {f : Int × Nat × Nat} {j n : Nat} (h1 : checkFault h j = some f) (hn : j ≤ n) : checkFault h n = some f := by
  induction n with
  | zero =>
    obtain rfl : j = 0 := by omega
    exact h1
  | succ n ih =>
    by_cases e : j = n + 1
    · subst e; exact h1
    · simp only [checkFault, ih (by omega)]
def histFault (h : List HTx) : Option (Int × Nat × Nat) := if 256 < h.length then some (141, 0, 0) else checkFault h h.length
end Go.Proofs.YtooigfkjdemnlaaGreatDoor
