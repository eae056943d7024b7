/- Own texts of this claim, joined in build order: C2, B1, C3, Pk, Rv, Ho. -/
import Derived.Test.YtooigfkjdemnlaaGreatDoorG12
import Derived.Test.YtooigfkjdemnlaaGreatDoorG20
import Derived.Deep.QuietTactic
import Derived.BigQuiet
import Derived.Test.YtooigfkjdemnlaaGreatDoorG18
import Derived.Shelf.SlicesQ.Reverse
set_option linter.all false
namespace Go.Proofs.YtooigfkjdemnlaaGreatDoor
set_option maxRecDepth 100000
open Go.RowKit Go.Lib Go.Sort Go.Shelf Xw
theorem zero_edge (w : World) : (zeroValue 66).run Tryz.prog w = .ok (.agg #[.int .i64 0, .int .i64 0, .int .i64 0, .string ⟨#[]⟩]) w := by kernel_rfl
theorem edge_cells {w W : World} {g off cap : Nat} {l : List Edge} {F : Nat → Prop} (h : Sl w 66 4 (.slice (some ⟨g, off, none⟩) l.length cap) l.length (l.flatMap edgeC) F) (hW : W.heap[g]? = w.heap[g]?) {i : Nat} {x : Edge} (hx : l[i]? = some x) :
    (W.cell? ⟨g, off + i * 4, none⟩ = some (.int .i64 x.frm) ∧ W.cell? ⟨g, off + i * 4 + 1, none⟩ = some (.int .i64 x.to) ∧ W.cell? ⟨g, off + i * 4 + 2, none⟩ = some (.int .i64 x.kind) ∧ W.cell? ⟨g, off + i * 4 + 3, none⟩ = some (.string x.key)) ∧
    (W.frozen? ⟨g, off + i * 4, none⟩ = false ∧ W.frozen? ⟨g, off + i * 4 + 1, none⟩ = false ∧ W.frozen? ⟨g, off + i * 4 + 2, none⟩ = false ∧ W.frozen? ⟨g, off + i * 4 + 3, none⟩ = false) := by
  have hH := holdsK_of_sl (enc := edgeC) (size := 4) (fun _ => rfl) h
  have hi : i < l.length := (List.getElem?_eq_some_iff.1 hx).1
  have hl : l.toArray[i]! = x := by rw [bang_list]; simp [List.getD_eq_getElem?_getD, hx]
  have key : ∀ m, (hm : m < 4) → W.cell? ⟨g, off + i * 4 + m, none⟩ = some (edgeC x)[m]! ∧ W.frozen? ⟨g, off + i * 4 + m, none⟩ = false := fun m hm => by
    have := hH (i * 4 + m) (by rw [size_flatK]; simp; omega)
    rw [get_flatK _ _ _ _ (by simp; omega)] at this
    rw [show (i * 4 + m) / 4 = i by omega, show (i * 4 + m) % 4 = m by omega, hl] at this
    rw [show off + (i * 4 + m) = off + i * 4 + m by omega] at this
    exact ⟨(World.cell?_of_block (a := ⟨g, off + i * 4 + m, none⟩) hW).trans this.1, (World.frozen?_of_block (a := ⟨g, off + i * 4 + m, none⟩) hW).trans this.2⟩
  exact ⟨⟨(key 0 (by omega)).1, (key 1 (by omega)).1, (key 2 (by omega)).1, (key 3 (by omega)).1⟩, (key 0 (by omega)).2, (key 1 (by omega)).2, (key 2 (by omega)).2, (key 3 (by omega)).2⟩
set_option maxHeartbeats 8000000 in
theorem compact_ (g off cap : Nat) (l : List Edge) (F : Nat → Prop) (w : World) (h : Sl w 66 4 (.slice (some ⟨g, off, none⟩) l.length cap) l.length (l.flatMap edgeC) F) (hlen : l.length < 4611686018427387904) :
    Calls Tryz.prog 56 #[.slice (some ⟨g, off, none⟩) l.length cap] w fun e w' => ∃ c', e = .returned (.slice (some ⟨g, off, none⟩) (dedup l).length c') ∧
      Sl w' 66 4 (.slice (some ⟨g, off, none⟩) (dedup l).length c') (dedup l).length ((dedup l).flatMap edgeC) F ∧ Chg (fun j => j = g) w w' := by
  obtain ⟨A0, c0, hv0, hc1, hc2⟩ := h.shape
  cases hv0
  simp only [maxLen] at hc1
  have hgl : g < w.heap.size := by
    rcases h.2 with ⟨h1, _⟩ | ⟨g', off', cap', cur', h1, _, h3, _⟩
    · cases h1
    · cases h1; exact lt_of_heap h3
  by_cases h2 : l.length < 2
  · have hd : dedup l = l := by
      rcases l with _ | ⟨a, _ | ⟨b, r⟩⟩
      · rfl
      · rfl
      · simp at h2; omega
    have hl2 : (l.length : Int) < 2 := by omega
    have HD := Lib.hid hd
    clear hd h2
    go_enter Tryz.func56, Tryz.ntmps56
    go_wp2
    go_ret
    rw [HD.out]
    exact ⟨cap, rfl, h, Chg.refl _ _⟩
  · have hl2 : ¬ (l.length : Int) < 2 := by omega
    go_enter Tryz.func56, Tryz.ntmps56
    go_wp2
    go_loopw [3, 4, 5] (fun k' _ _ wr => ∃ p : Nat, p + 1 ≤ l.length ∧ k' = .int .i64 (p + 1 : Nat) ∧ Hid (dedup (l.take (p + 1)) = l.take (p + 1)) ∧ Chg (fun _ => False) w wr) (fun k' _ _ _ => l.length - (intOf k').toNat)
    case atStart => exact ⟨0, by omega, rfl, Lib.hid (by cases l <;> simp [dedup]), Chg.refl _ _⟩
    case round =>
      obtain ⟨p, hp, rfl, hE, hC⟩ := hrel
      have hblk := hC.block g hgl (fun f => f)
      obtain ⟨k, hk⟩ : ∃ k, k = p + 1 := ⟨_, rfl⟩
      rw [← hk]
      have hk1 : (1 : Int) ≤ k := by omega
      by_cases hlt : k < l.length
      · obtain ⟨x, hx⟩ : ∃ x, l[p]? = some x := ⟨_, List.getElem?_eq_getElem (by omega)⟩
        obtain ⟨y, hy⟩ : ∃ y, l[k]? = some y := ⟨_, List.getElem?_eq_getElem hlt⟩
        obtain ⟨⟨x0, x1, x2, x3⟩, _⟩ := edge_cells h hblk hx
        obtain ⟨⟨y0, y1, y2, y3⟩, _⟩ := edge_cells h hblk hy
        have hki : (k : Int) < l.length := by omega
        have hpi : (p : Int) < l.length := by omega
        have hkw : IntKind.i64.wrap ((k : Int) - 1) = p := by rw [show (k : Int) - 1 = p by omega, IntKind.wrap_i64]; omega
        have hst := dedup_step hx (hk ▸ hy)
        have HX := Lib.hid hx
        have HY := Lib.hid hy
        have HK := Lib.hid hk
        by_cases hxy : x = y
        · rw [if_pos hxy, hE.out] at hst
          have hqb : ∀ w, (binOp .eql 66 (.agg #[.int .i64 y.frm, .int .i64 y.to, .int .i64 y.kind, .string y.key]) (.agg #[.int .i64 x.frm, .int .i64 x.to, .int .i64 x.kind, .string x.key])).run Tryz.prog w = .ok (.bool true) w := fun w => by rw [run_eqlE]; simp [hxy]
          have hdl : (dedup (l.take (p + 2))).length = p + 1 := by rw [hst, List.length_take]; omega
          have hkl : (k : Int) ≤ l.length := by omega
          have hkc : (l.length : Int) ≤ cap := by omega
          have HS := Lib.hid hst
          have HDL := Lib.hid hdl
          have hsub1 : ((l.length - k : Nat) : Int) = (l.length : Int) - k := by omega
          clear hst hxy hx hy hk hdl
          go_upto_region 6 with (fail)
          go_quiet (fail)
          have hCq : Chg (fun _ => False) w (wr.drewN nq) := hC.drewN nq
          obtain ⟨wq, hwq⟩ : ∃ wq, wq = wr.drewN nq := ⟨_, rfl⟩
          rw [← hwq] at hCq ⊢
          clear hwq x0 x1 x2 x3 y0 y1 y2 y3 hqb
          go_wp2
          have hSq := h.chg hCq (fun _ _ f => f)
          have hCg : Chg (fun j => j = g) w wq := hCq.mono (fun _ _ f => f.elim)
          have hklt : k < l.length := by omega
          clear hCq hblk
          obtain ⟨N2, hN2⟩ : ∃ N2, N2 = l.length - k := ⟨_, rfl⟩
          rw [← hN2]
          have hN2i : (N2 : Int) = (l.length : Int) - k := by omega
          have hN2l : N2 ≤ 4611686018427387904 := by omega
          have hcap2 : N2 ≤ cap - k := by omega
          have HN2 := Lib.hid hN2
          clear hN2 hN2i hsub1
          go_loopw [3, 5] (fun m' q' wr2 => ∃ (m q : Nat) (c : List Edge), m' = .int .i64 m ∧ q' = .int .i64 q ∧ 1 ≤ q ∧ q ≤ N2 ∧ m + 1 ≤ k + q ∧ Hid (c.length = l.length ∧ c.take m = dedup (l.take (k + q)) ∧ c.drop (k + q - 1) = l.drop (k + q - 1)) ∧
            Sl wr2 66 4 (.slice (some ⟨g, off, none⟩) c.length cap) c.length (c.flatMap edgeC) F ∧ Chg (fun j => j = g) w wr2) (fun _ q' _ => N2 - (intOf q').toNat)
          case atStart =>
            refine ⟨k, 1, l, rfl, rfl, by omega, by have := HN2.out; omega, by omega, Lib.hid ⟨rfl, ?_, rfl⟩, hSq, hCg⟩
            rw [HK.out, show p + 1 + 1 = p + 2 by omega, HS.out]
          case round =>
            obtain ⟨m, q, c, rfl, rfl, hq1, hq2, hmq, hInv, hSc, hCc⟩ := hrel
            by_cases hqlt : q < N2
            · have hil : k + q < l.length := by have := HN2.out; omega
              obtain ⟨x', hx'⟩ : ∃ x', l[k + q - 1]? = some x' := ⟨_, List.getElem?_eq_getElem (by omega)⟩
              obtain ⟨y', hy'⟩ : ∃ y', l[k + q]? = some y' := ⟨_, List.getElem?_eq_getElem hil⟩
              obtain ⟨hcl, hct, hcd⟩ := hInv.out
              have hcx : c[k + q - 1]? = some x' := by
                have := congrArg (fun z => z[0]?) hcd
                simpa [List.getElem?_drop, hx'] using this
              have hcy : c[k + q]? = some y' := by
                have := congrArg (fun z => z[1]?) hcd
                simp only [List.getElem?_drop] at this
                rw [show k + q - 1 + 1 = k + q by omega, hy'] at this
                exact this
              obtain ⟨z', hz'⟩ : ∃ z', c[m]? = some z' := ⟨_, List.getElem?_eq_getElem (by omega)⟩
              obtain ⟨⟨x0, x1, x2, x3⟩, _⟩ := edge_cells hSc rfl hcx
              obtain ⟨⟨y0, y1, y2, y3⟩, _⟩ := edge_cells hSc rfl hcy
              obtain ⟨⟨z0, z1, z2, z3⟩, g0, g1, g2, g3⟩ := edge_cells hSc rfl hz'
              obtain ⟨r, hr⟩ : ∃ r, q = r + 1 := ⟨q - 1, by omega⟩
              rw [show off + (k + q - 1) * 4 = off + k * 4 + r * 4 by omega] at x0 x1 x2 x3
              rw [show off + (k + q) * 4 = off + k * 4 + q * 4 by omega] at y0 y1 y2 y3
              have hqw : IntKind.i64.wrap ((q : Int) - 1) = r := by rw [show (q : Int) - 1 = r by omega, IntKind.wrap_i64]; omega
              have hqi : (q : Int) < N2 := by omega
              have hri : (r : Int) < N2 := by omega
              have hmi : (m : Int) < l.length := by omega
              have hstep := dedup_step (l := l) (p := k + q - 1) hx' (by rw [show k + q - 1 + 1 = k + q by omega]; exact hy')
              rw [show k + q - 1 + 2 = k + (q + 1) by omega, show k + q - 1 + 1 = k + q by omega] at hstep
              have hcd2 : ∀ d : List Edge, d.drop (k + q - 1) = l.drop (k + q - 1) → d.drop (k + (q + 1) - 1) = l.drop (k + (q + 1) - 1) := fun d hd => by
                have := congrArg (List.drop 1) hd
                simpa [List.drop_drop, show k + q - 1 + 1 = k + (q + 1) - 1 by omega] using this
              have HCD := Lib.hid hcd2
              have HST := Lib.hid hstep
              have HR := Lib.hid hr
              have HCL := Lib.hid hcl
              have HCT := Lib.hid hct
              have HCDR := Lib.hid hcd
              by_cases hxy : x' = y'
              · have hqb : ∀ w, (binOp .neq 66 (.agg #[.int .i64 y'.frm, .int .i64 y'.to, .int .i64 y'.kind, .string y'.key]) (.agg #[.int .i64 x'.frm, .int .i64 x'.to, .int .i64 x'.kind, .string x'.key])).run Tryz.prog w = .ok (.bool false) w := fun w => by rw [run_neqE]; simp [hxy]
                have HXY := Lib.hid hxy
                clear hstep hcd2 hxy hx' hy' hz' hcx hcy hr hcl hct hcd z0 z1 z2 z3 g0 g1 g2 g3
                go_upto_region 11 with (fail)
                go_quiet (fail)
                go_wp2
                refine ⟨⟨m, q + 1, c, rfl, by simp, by omega, by omega, by omega, Lib.hid ⟨HCL.out, ?_, HCD.out c HCDR.out⟩, hSc.chg ((Chg.refl (fun _ => False) _).drewN _) (fun _ _ f => f), hCc.drewN _⟩, by simp [intOf]; omega⟩
                rw [HST.out, if_pos HXY.out]
                exact HCT.out
              · have hqb : ∀ w, (binOp .neq 66 (.agg #[.int .i64 y'.frm, .int .i64 y'.to, .int .i64 y'.kind, .string y'.key]) (.agg #[.int .i64 x'.frm, .int .i64 x'.to, .int .i64 x'.kind, .string x'.key])).run Tryz.prog w = .ok (.bool true) w := fun w => by rw [run_neqE]; simp [Ne.symm hxy]
                have HXY := Lib.hid hxy
                have hmw : IntKind.i64.wrap ((m : Int) + 1) = (m + 1 : Nat) := by rw [IntKind.wrap_i64]; omega
                clear hstep hcd2 hxy hx' hy' hz' hcx hcy hr hcl hct hcd
                go_upto_region 11 with (fail)
                go_quiet (fail)
                go_wp2
                have hSd := hSc.chg ((Chg.refl (fun _ => False) wr).drewN nq) (fun _ _ f => f)
                obtain ⟨hp1, hp2⟩ := Sl.put (enc := edgeC) (size := 4) (fun _ => rfl) hSd m (by rw [HCL.out]; omega) y'
                refine ⟨⟨m + 1, q + 1, c.set m y', by simp, by simp, by omega, by omega, by omega, Lib.hid ⟨by rw [List.length_set, HCL.out], ?_, by rw [List.drop_set_of_lt (by omega)]; exact HCD.out c HCDR.out⟩, ?_, ?_⟩, by simp [intOf]; omega⟩
                · rw [take_set_succ _ _ _ (by rw [HCL.out]; omega), HST.out, if_neg HXY.out, HCT.out]
                · rw [List.length_set]
                  exact hp1
                · exact (hCc.drewN nq).trans hp2 (fun _ _ h => h)
            · have hqN : q = N2 := by omega
              have hil : k + q = l.length := by have := HN2.out; omega
              obtain ⟨hcl, hct, hcd⟩ := hInv.out
              rw [hil, List.take_length] at hct
              have hmd : (dedup l).length = m := by rw [← hct, List.length_take]; omega
              have hml : m < l.length := by omega
              obtain ⟨cur, hbc, hfit⟩ : ∃ cur, wr.heap[g]? = some (.cells cur 66 (0, 0)) ∧ off + c.length * 4 ≤ cur.size := by
                rcases hSc.2 with ⟨h1, _⟩ | ⟨g', off', cap', cur', h1, _, h3, h4, _, h5, _⟩
                · cases h1
                · cases h1
                  have : c.length * 4 ≤ cap * 4 := Nat.mul_le_mul_right _ h4
                  exact ⟨cur', h3, by omega⟩
              obtain ⟨zs, hzl, hclr⟩ := run_clearE (g := g) (o := off + m * 4) (n := l.length - m) (c := cap - m) hbc (by omega) (by rw [hcl] at hfit; omega) zero_edge
              have hmi : (m : Int) ≤ l.length := by omega
              have hlc : (l.length : Int) ≤ cap := by omega
              have hqn : ¬ (q : Int) < N2 := by omega
              have hmcap : m ≤ cap := by omega
              have hmci : (m : Int) ≤ cap := by omega
              obtain ⟨hp1, hp2⟩ := Sl.tail (enc := edgeC) (size := 4) (fun _ => rfl) hSc m (by rw [hcl]; omega) zs (by rw [hzl, hcl])
              have HMD := Lib.hid hmd
              have HCT := Lib.hid hct
              have HP := Lib.hid (And.intro hp1 hp2)
              clear hcl hct hcd hil hmd hp1 hp2 hbc hfit hzl hqN
              go_wp2
              go_ret
              obtain ⟨hp1, hp2⟩ := HP.out
              rw [HMD.out, ← HCT.out]
              exact ⟨cap, rfl, hp1, hCc.trans hp2 (fun _ _ h => h)⟩
        · rw [if_neg hxy, hE.out] at hst
          have hst2 : dedup (l.take (k + 1)) = l.take (k + 1) := by
            rw [hk, show p + 1 + 1 = p + 2 by omega, hst, List.take_add_one (i := p + 1), ← hk, hy]; rfl
          have HS := Lib.hid hst2
          have hqb : ∀ w, (binOp .eql 66 (.agg #[.int .i64 y.frm, .int .i64 y.to, .int .i64 y.kind, .string y.key]) (.agg #[.int .i64 x.frm, .int .i64 x.to, .int .i64 x.kind, .string x.key])).run Tryz.prog w = .ok (.bool false) w := fun w => by rw [run_eqlE]; simp [Ne.symm hxy]
          clear hst hst2 hxy hx hy hk
          go_upto_region 6 with (fail)
          go_quiet (fail)
          go_wp2
          exact ⟨⟨k, by omega, by simp, HS, hC.drewN nq⟩, by have := HK.out; simp [intOf]; omega⟩
      · have hkl : k = l.length := by omega
        have hdl : dedup l = l := by have := hE.out; rw [← hk, hkl, List.take_length] at this; exact this
        have hki : ¬ (k : Int) < l.length := by omega
        have HD := Lib.hid hdl
        have hSl := h.chg hC (fun _ _ f => f)
        clear hkl hdl hk
        go_wp2
        go_ret
        rw [HD.out]
        exact ⟨cap, rfl, hSl, hC.mono (fun _ _ f => f.elim)⟩
end Go.Proofs.YtooigfkjdemnlaaGreatDoor

namespace Go.Proofs.YtooigfkjdemnlaaGreatDoor
set_option maxRecDepth 100000
open Go.RowKit Go.Lib Go.Sort Go.Shelf Xw

theorem GrTo.call {W0 w1 : World} {B lp gb : Nat} {h : List HTx} {a2 : Value} {F0 : Nat → Prop} {l1 l2 : List Edge} {P : Program} {f : FuncId} {args : Array Value} (HT : GrTo W0 w1 B lp gb h a2 F0 l1) (hg : gb < W0.heap.size)
    (hcall : ∀ F1, Gr w1 B lp gb h a2 l1 F1 → Calls P f args w1 fun e w' => e = .returned (.tuple #[]) ∧ GrTo w1 w' B lp gb h a2 F1 l2) : Calls P f args w1 fun e w' => e = .returned (.tuple #[]) ∧ GrTo W0 w' B lp gb h a2 F0 l2 := by
  obtain ⟨F1, H1, hc, hf⟩ := HT
  exact (hcall F1 H1).mono fun e w' ⟨he, h2⟩ => ⟨he, GrTo.after hc hf hg h2⟩
def verOk (h : List HTx) (v : HVer) : Prop := ∃ y, (if 0 ≤ v.frm then h[v.frm.toNat]? else none) = some y
structure Lim (h : List HTx) : Prop where
  n : h.length ≤ 256
  ops : ∀ x ∈ h, x.ops.length ≤ 256
  seen : ∀ x ∈ h, ∀ o ∈ x.ops, o.kind = 3 → o.seen.length ≤ 256
  ver : ∀ x ∈ h, ∀ o ∈ x.ops, o.kind = 1 → verOk h o.ver
  vers : ∀ x ∈ h, ∀ o ∈ x.ops, o.kind = 3 → ∀ v ∈ o.seen, verOk h v
theorem order_le (h : List HTx) (k : ByteArray) : (order h k).length ≤ h.length := by rw [order_len]; exact insUpto_len _ _ _
theorem keysOf_le {h : List HTx} (L : Lim h) : (keysOf h).length ≤ 65536 := by
  have h1 := nodup_len (keysOf h) (allKeys h) (keysOf_nodup h) (fun k hk => (mem_keysOf h k).1 hk)
  have h2 : (allKeys h).length ≤ h.length * 256 := by
    have : ∀ l : List HTx, (∀ x ∈ l, x.ops.length ≤ 256) → (allKeys l).length ≤ l.length * 256 := by
      intro l hl
      induction l with
      | nil => simp [allKeys]
      | cons x r ih =>
        have h1 := ih (fun y hy => hl y (List.mem_cons_of_mem _ hy))
        have h2 := hl x (List.mem_cons_self ..)
        unfold allKeys at h1 ⊢
        rw [List.flatMap_cons, List.length_append, List.length_cons]
        have : (if (x.fate == 1) = true then List.map (fun o => o.ver.key) (List.filter (fun o => o.kind == 2) x.ops) else []).length ≤ x.ops.length := by
          split
          · rw [List.length_map]; exact List.length_filter_le _ _
          · simp
        rw [Nat.succ_mul]
        omega
    exact this h L.ops
  have h3 : h.length * 256 ≤ 256 * 256 := Nat.mul_le_mul_right _ L.n
  omega
theorem wwE_len (k : ByteArray) (o : List Inst) (l : List Edge) : ∀ j, (wwE k o l j).length ≤ l.length + j
  | 0 => Nat.le_refl _
  | j + 1 => by
    have ih := wwE_len k o l j
    simp only [wwE]
    cases j with
    | zero => simp only; omega
    | succ i =>
      cases o[i + 1]? with
      | none => simp only; omega
      | some v =>
        simp only
        cases o[i]? with
        | none => simp only; omega
        | some u =>
          simp only
          have := addE_len (wwE k o l (i + 1)) u.txn v.txn 1 k
          omega
theorem wwAll_len {h : List HTx} (hn : h.length ≤ 256) : ∀ m, (wwAll h m).length ≤ m * 256
  | 0 => by simp [wwAll]
  | m + 1 => by
    have ih := wwAll_len hn m
    simp only [wwAll]
    cases (keysOf h)[m]? with
    | none => simp only; omega
    | some k =>
      simp only
      have := wwE_len k (order h k) (wwAll h m) (order h k).length
      have := order_le h k
      omega
theorem itemE_len (h : List HTx) (t : Nat) (v : HVer) (l : List Edge) : (itemE h t v l).length ≤ l.length + 2 := by
  unfold itemE
  have h1 := addE_len l v.frm t 2 v.key
  split
  · omega
  · split
    · rename_i u _
      split
      · have := addE_len (addE l v.frm t 2 v.key) t u.txn 4 v.key; omega
      · omega
    · omega
theorem scanE_len (h : List HTx) (t : Nat) (o : HOpr) (k : ByteArray) (l : List Edge) : (scanE h t o k l).length ≤ l.length + 2 := by
  unfold scanE
  split
  · omega
  · have h1 := scanDown_len h t (scanN h t o k) k l
    unfold scanUp edgeAt
    split
    · split
      · rename_i u _
        have := addE_len (scanDown h t (scanN h t o k) k l) t u.txn 5 k
        dsimp only
        omega
      · omega
    · omega
theorem seenE_len (h : List HTx) (t : Nat) (o : HOpr) (l : List Edge) : ∀ j, (seenE h t o l j).length ≤ l.length + 2 * j
  | 0 => Nat.le_refl _
  | j + 1 => by
    have ih := seenE_len h t o l j
    simp only [seenE]
    cases o.seen[j]? with
    | none => simp only; omega
    | some v => simp only; have := itemE_len h t v (seenE h t o l j); omega
theorem keysE_len (h : List HTx) (t : Nat) (x : HTx) (i : Nat) (o : HOpr) (l : List Edge) : ∀ m, (keysE h t x i o l m).length ≤ l.length + 2 * m
  | 0 => Nat.le_refl _
  | m + 1 => by
    have ih := keysE_len h t x i o l m
    simp only [keysE]
    cases (keysOf h)[m]? with
    | none => simp only; omega
    | some k =>
      simp only
      split
      · have := scanE_len h t o k (keysE h t x i o l m); omega
      · omega
theorem opE_len {h : List HTx} (L : Lim h) {t : Nat} {x : HTx} (hx : x ∈ h) {i : Nat} {o : HOpr} (ho : o ∈ x.ops) (l : List Edge) : (opE h t x i o l).length ≤ l.length + 131584 := by
  unfold opE
  split
  · have := itemE_len h t o.ver l; omega
  · split
    · rename_i h3
      have h1 := keysE_len h t x i o (seenE h t o l o.seen.length) (keysOf h).length
      have h2 := seenE_len h t o l o.seen.length
      have h4 := L.seen x hx o ho h3
      have h5 := keysOf_le L
      omega
    · omega
theorem opsE_len {h : List HTx} (L : Lim h) {t : Nat} {x : HTx} (hx : x ∈ h) (l : List Edge) (j : Nat) : (opsE h t x l j).length ≤ l.length + 131584 * j := by
  induction j with
  | zero => simp [opsE]
  | succ j ih =>
    simp only [opsE]
    cases ho : x.ops[j]? with
    | none => simp only; omega
    | some o =>
      have h3 := opE_len L hx (i := j) (List.mem_of_getElem? ho) (opsE h t x l j) (t := t)
      refine Nat.le_trans h3 ?_
      rw [Nat.mul_succ, ← Nat.add_assoc]
      exact Nat.add_le_add_right ih _
theorem txsE_len {h : List HTx} (L : Lim h) (t : Nat) : (txsE h t).length ≤ 16777216 + 33685504 * t := by
  induction t with
  | zero =>
    have h1 := wwAll_len L.n (keysOf h).length
    have h2 := keysOf_le L
    simp only [txsE]
    omega
  | succ t ih =>
    simp only [txsE]
    cases hx : h[t]? with
    | none => simp only; omega
    | some x =>
      simp only
      split
      · have hm := List.mem_of_getElem? hx
        have h1 := opsE_len L hm (txsE h t) (t := t) x.ops.length
        have h2 := L.ops x hm
        omega
      · omega
def edgesOf (h : List HTx) : List Edge := dedup ((txsE h h.length).mergeSort edgeLe)
end Go.Proofs.YtooigfkjdemnlaaGreatDoor

namespace Go.Proofs.YtooigfkjdemnlaaGreatDoor
set_option maxRecDepth 100000
open Go.RowKit Go.Lib Go.Sort Go.Shelf Xw

theorem sortAny_ {w : World} {v : Value} {l : List Edge} {F : Nat → Prop} (h : Sl w 66 4 v l.length (l.flatMap edgeC) F) (hlen : l.length < 4611686018427387904) :
    Calls Tryz.prog 54 #[v, .func (.func 55) #[] #[]] w fun e w' => e = .returned (.tuple #[]) ∧ Sl w' 66 4 v (l.mergeSort edgeLe).length ((l.mergeSort edgeLe).flatMap edgeC) F ∧ Chg F w w' := by
  rcases h.2 with ⟨rfl, h0⟩ | ⟨g, off, cap, cur, rfl, hF, hb, _⟩
  · obtain rfl : l = [] := List.eq_nil_of_length_eq_zero h0
    refine (sortNil_ (.func (.func 55) #[] #[]) w).mono ?_
    rintro e w' ⟨rfl, rfl⟩
    exact ⟨rfl, by simpa using h, Chg.refl _ _⟩
  · refine (sortEdgeList_ g off cap l F w h (lt_of_heap hb) hlen).mono ?_
    rintro e w' ⟨rfl, hs, hc⟩
    exact ⟨rfl, by rw [List.length_mergeSort]; exact hs, hc.mono (fun j _ hj => by subst hj; exact hF)⟩
set_option maxHeartbeats 1000000 in
theorem compactNil_ (w : World) : Calls Tryz.prog 56 #[.slice none 0 0] w fun e w' => e = .returned (.slice none 0 0) ∧ w' = w := by
  go_enter Tryz.func56, Tryz.ntmps56
  go_wp2
  go_ret
  exact ⟨rfl, rfl⟩
theorem compactAny_ {w : World} {v : Value} {l : List Edge} {F : Nat → Prop} (h : Sl w 66 4 v l.length (l.flatMap edgeC) F) (hlen : l.length < 4611686018427387904) :
    Calls Tryz.prog 56 #[v] w fun e w' => ∃ v', e = .returned v' ∧ Sl w' 66 4 v' (dedup l).length ((dedup l).flatMap edgeC) F ∧ Chg F w w' := by
  rcases h.2 with ⟨rfl, h0⟩ | ⟨g, off, cap, cur, rfl, hF, hb, _⟩
  · obtain rfl : l = [] := List.eq_nil_of_length_eq_zero h0
    refine (compactNil_ w).mono ?_
    rintro e w' ⟨rfl, rfl⟩
    exact ⟨_, rfl, h, Chg.refl _ _⟩
  · refine (compact_ g off cap l F w h hlen).mono ?_
    rintro e w' ⟨c', rfl, hs, hc⟩
    exact ⟨_, rfl, hs, hc.mono (fun j _ hj => by subst hj; exact hF)⟩

def MapOfK {K : Type} [DecidableEq K] {α : Type} (enc : K → Value) (w : World) (B mb size : Nat) (ev : α → List Value) (f : K → List α) : Prop :=
  mb < B ∧ ∃ L, KMap enc w mb L ∧ (∀ k v, (k, v) ∈ L → Rows w B size (Flat ev) v (f k)) ∧ ∀ k, f k ≠ [] → k ∈ L.map (·.1)
section
variable {K : Type} [DecidableEq K] {α : Type} {enc : K → Value} {ev : α → List Value} {w w' : World} {B B' mb size : Nat} {f : K → List α}
theorem MapOfK.keep (hh : MapOfK enc w B mb size ev f) (hk : ∀ j, j < B → w'.heap[j]? = w.heap[j]?) : MapOfK enc w' B mb size ev f := by
  obtain ⟨hlt, L, h1, h2, h3⟩ := hh
  exact ⟨hlt, L, h1.keep (hk _ hlt), fun k v hm => (h2 k v hm).flat hk, h3⟩
theorem MapOfK.look (hh : MapOfK enc w B mb size ev f) : ∃ L, KMap enc w mb L ∧ ∀ k, Rows w B size (Flat ev) ((kget L k).getD (.slice none 0 0)) (f k) := by
  obtain ⟨hlt, L, h1, h2, h3⟩ := hh
  refine ⟨L, h1, fun k => ?_⟩
  cases hf : kget L k with
  | none =>
    by_cases hk : f k = []
    · rw [hk]; exact Rows.nil _ (by simp) _
    · obtain ⟨p, hp, e⟩ := List.mem_map.1 (h3 k hk)
      have := kget_mem (k := k) (v := p.2) h1.nodup (by rw [← e]; exact hp)
      rw [hf] at this; cases this
  | some v => exact h2 k v (kget_some hf)
theorem OwnM.mapOfK {e : TypeId} {C : Nat → Prop} {L : List (K × Value)} (henc : ∀ x, (ev x).length = size) (h : OwnM enc e size ev w mb f C L) (hB : w.heap.size ≤ B) : MapOfK enc w B mb size ev f := by
  obtain ⟨hm, hk, hl, col, h1, h2, h3⟩ := h
  refine ⟨Nat.lt_of_lt_of_le hk.lt hB, L, hk, fun k v hv => ?_, fun k hn => (hl k).2 hn⟩
  have := h1 k
  rw [kget_mem hk.nodup hv] at this
  exact Rows.of_sl henc this hB
end
noncomputable def kInt : KeyEnc Tryz.prog 3 Int := intKey Tryz.underlying3
theorem kInt_enc (t : Int) : kInt.enc t = .int .i64 t := rfl
structure GrD (w : World) (B lp gb : Nat) (h : List HTx) (es : List Edge) (lo : Nat) : Prop where
  led : Led w B lp h
  ex : ∃ ev mb, w.heap[gb]? = some (.cells #[.pointer (some ⟨lp, 0, none⟩), ev, .map (some mb)] 95) ∧ Rows w B 4 (Flat edgeC) ev es ∧ MapOfK kInt.enc w B mb 4 edgeC (fun t => es.filter fun e => decide (e.frm = t)) ∧ ∀ a n c, ev = .slice (some a) n c → lo ≤ a.block
  lt : gb < B
theorem GrD.keep {w w' : World} {B lp gb : Nat} {h : List HTx} {es : List Edge} {lo : Nat} (H : GrD w B lp gb h es lo) (hk : ∀ j, j < B → w'.heap[j]? = w.heap[j]?) (hz : w.heap.size ≤ w'.heap.size) : GrD w' B lp gb h es lo := by
  obtain ⟨hl, ⟨ev, mb, h1, h2, h3, h4⟩, hg⟩ := H
  exact ⟨hl.keep hk hz, ⟨ev, mb, (hk _ hg).trans h1, h2.flat hk, h3.keep hk, h4⟩, hg⟩
theorem GrD.below {w w' : World} {B lp gb n : Nat} {h : List HTx} {es : List Edge} {lo : Nat} (H : GrD w B lp gb h es lo) (hb : Below n w w') (hn : B ≤ n) : GrD w' B lp gb h es lo := H.keep (fun j hj => hb.block j (Nat.lt_of_lt_of_le hj hn)) hb.size
end Go.Proofs.YtooigfkjdemnlaaGreatDoor

namespace Go.Proofs.YtooigfkjdemnlaaGreatDoor
set_option maxRecDepth 100000

theorem checkFault_none {h : List HTx} : ∀ {n : Nat}, checkFault h n = none → ∀ (t : Nat) (x : HTx), t < n → h[t]? = some x → txFault h t x = none
  | 0, _, t, x, ht, _ => absurd ht (by omega)
  | n + 1, hn, t, x, ht, hx => by
    simp only [checkFault] at hn
    cases h1 : checkFault h n with
    | some f => rw [h1] at hn; cases hn
    | none =>
      rw [h1] at hn
      by_cases e : t = n
      · subst e
        rw [hx] at hn
        simpa using hn
      · exact checkFault_none h1 t x (by omega) hx
theorem opsFault_none {h : List HTx} {t : Nat} {x : HTx} : ∀ {n : Nat}, opsFault h t x n = none → ∀ (j : Nat) (o : HOpr), j < n → x.ops[j]? = some o → operation h t x j o = 0
  | 0, _, j, o, hj, _ => absurd hj (by omega)
  | n + 1, hn, j, o, hj, ho => by
    simp only [opsFault] at hn
    cases h1 : opsFault h t x n with
    | some f => rw [h1] at hn; cases hn
    | none =>
      rw [h1] at hn
      by_cases e : j = n
      · subst e
        rw [ho] at hn
        simp only at hn
        by_cases h0 : operation h t x j o = 0
        · exact h0
        · rw [if_neg h0] at hn; cases hn
      · exact opsFault_none h1 j o (by omega) ho
structure Fine (h : List HTx) : Prop where
  n : h.length ≤ 256
  ops : ∀ (t : Nat) (x : HTx), h[t]? = some x → x.ops.length ≤ 256
  shaped : ∀ (t : Nat) (x : HTx), h[t]? = some x → shaped h t x = true
  op : ∀ (t : Nat) (x : HTx), h[t]? = some x → ∀ (j : Nat) (o : HOpr), x.ops[j]? = some o → operation h t x j o = 0
theorem fine_of {h : List HTx} (hf : histFault h = none) : Fine h := by
  unfold histFault at hf
  by_cases hn : 256 < h.length
  · rw [if_pos hn] at hf; cases hf
  · rw [if_neg hn] at hf
    have hx : ∀ (t : Nat) (x : HTx), h[t]? = some x → txFault h t x = none := fun t x hx => checkFault_none hf t x (List.getElem?_eq_some_iff.1 hx).1 hx
    have h2 : ∀ (t : Nat) (x : HTx), h[t]? = some x → x.ops.length ≤ 256 ∧ shaped h t x = true ∧ opsFault h t x x.ops.length = none := fun t x hxx => by
      have := hx t x hxx
      unfold txFault at this
      by_cases h1 : 256 < x.ops.length
      · rw [if_pos h1] at this; cases this
      · rw [if_neg h1] at this
        cases h3 : shaped h t x
        · rw [h3] at this; simp at this
        · rw [h3] at this
          simp at this
          exact ⟨by omega, rfl, this⟩
    exact ⟨by omega, fun t x h => (h2 t x h).1, fun t x h => (h2 t x h).2.1, fun t x h j o ho => opsFault_none (h2 t x h).2.2 j o (List.getElem?_eq_some_iff.1 ho).1 ho⟩
theorem tellable_ok {h : List HTx} {t : Nat} {x : HTx} {i : Nat} {v : HVer} {u : Wrote} (h1 : tellable h t x i v = some u) : verOk h v := by
  unfold tellable at h1
  unfold verOk
  cases h2 : (if 0 ≤ v.frm then h[v.frm.toNat]? else none) with
  | none => rw [h2] at h1; cases h1
  | some y => exact ⟨y, rfl⟩
theorem seenOk_all {h : List HTx} {t : Nat} {x : HTx} {i : Nat} {o : HOpr} : ∀ {n : Nat}, seenOk h t x i o n = true → ∀ (j : Nat) (v : HVer), j < n → o.seen[j]? = some v → (tellable h t x i v).isSome = true ∧ covers o v.key = true ∧ riseOk h t o v j = true
  | 0, _, j, v, hj, _ => absurd hj (by omega)
  | n + 1, hn, j, v, hj, hv => by
    simp only [seenOk, Bool.and_eq_true] at hn
    obtain ⟨h1, h2⟩ := hn
    by_cases e : j = n
    · subst e
      rw [hv] at h2
      simp only [Bool.and_eq_true] at h2
      exact ⟨h2.1.1, h2.1.2, h2.2⟩
    · exact seenOk_all h1 j v (by omega) hv
theorem op_read {h : List HTx} {t : Nat} {x : HTx} {i : Nat} {o : HOpr} (h0 : operation h t x i o = 0) (hk : o.kind = 1) :
    ∃ u, tellable h t x i o.ver = some u ∧ u.value.toList = o.value.toList ∧ ¬ (4611686018427387903 < o.at_ ∨ (com h t = true ∧ (o.at_ < x.bgn ∨ x.fin < o.at_))) := by
  unfold operation at h0
  rw [if_neg (by omega), if_neg (by omega)] at h0
  by_cases h1 : 4611686018427387903 < o.at_ ∨ (com h t = true ∧ (o.at_ < x.bgn ∨ x.fin < o.at_))
  · rw [if_pos h1] at h0; cases h0
  · rw [if_neg h1, if_pos hk] at h0
    cases hu : tellable h t x i o.ver with
    | none => rw [hu] at h0; cases h0
    | some u =>
      rw [hu] at h0
      simp only at h0
      by_cases h2 : (u.value.toList == o.value.toList) = true
      · exact ⟨u, rfl, by simpa using h2, h1⟩
      · rw [if_neg h2] at h0; cases h0
theorem op_scan {h : List HTx} {t : Nat} {x : HTx} {i : Nat} {o : HOpr} (h0 : operation h t x i o = 0) (hk : o.kind = 3) :
    o.seen.length ≤ 256 ∧ seenOk h t x i o o.seen.length = true ∧ (com h t = true → complete h t x i o = true) ∧ ¬ (4611686018427387903 < o.at_ ∨ (com h t = true ∧ (o.at_ < x.bgn ∨ x.fin < o.at_))) := by
  unfold operation at h0
  rw [if_neg (by omega), if_neg (by omega)] at h0
  by_cases h1 : 4611686018427387903 < o.at_ ∨ (com h t = true ∧ (o.at_ < x.bgn ∨ x.fin < o.at_))
  · rw [if_pos h1] at h0; cases h0
  · rw [if_neg h1, if_neg (by omega)] at h0
    by_cases h2 : 256 < o.seen.length
    · rw [if_pos h2] at h0; cases h0
    · rw [if_neg h2] at h0
      cases h3 : seenOk h t x i o o.seen.length
      · rw [h3] at h0; simp at h0
      · rw [h3, if_neg (by simp)] at h0
        refine ⟨by omega, rfl, fun hc => ?_, h1⟩
        cases h4 : complete h t x i o
        · rw [if_pos ⟨hc, h4⟩] at h0; cases h0
        · rfl
theorem op_kind {h : List HTx} {t : Nat} {x : HTx} {i : Nat} {o : HOpr} (h0 : operation h t x i o = 0) : o.kind = 1 ∨ o.kind = 2 ∨ o.kind = 3 := by
  unfold operation at h0
  by_cases h2 : o.kind = 2
  · exact .inr (.inl h2)
  · rw [if_neg h2] at h0
    by_cases h1 : o.kind ≠ 1 ∧ o.kind ≠ 3
    · rw [if_pos h1] at h0; cases h0
    · omega
theorem Fine.lim {h : List HTx} (H : Fine h) : Lim h := by
  have get : ∀ x ∈ h, ∃ t, h[t]? = some x := fun x hx => List.mem_iff_getElem?.1 hx
  refine ⟨H.n, fun x hx => ?_, fun x hx o ho hk => ?_, fun x hx o ho hk => ?_, fun x hx o ho hk v hv => ?_⟩
  all_goals obtain ⟨t, ht⟩ := get x hx
  · exact H.ops t x ht
  all_goals obtain ⟨j, hj⟩ := List.mem_iff_getElem?.1 ho
  · exact (op_scan (H.op t x ht j o hj) hk).1
  · obtain ⟨u, hu, _⟩ := op_read (H.op t x ht j o hj) hk
    exact tellable_ok hu
  · obtain ⟨_, hs, _⟩ := op_scan (H.op t x ht j o hj) hk
    obtain ⟨m, hm⟩ := List.mem_iff_getElem?.1 hv
    obtain ⟨u, hu⟩ := Option.isSome_iff_exists.1 (seenOk_all hs m v (List.getElem?_eq_some_iff.1 hm).1 hm).1
    exact tellable_ok hu
end Go.Proofs.YtooigfkjdemnlaaGreatDoor

namespace Go.Proofs.YtooigfkjdemnlaaGreatDoor
set_option maxRecDepth 100000
open Go.RowKit Go.Lib Go.Sort Go.Shelf Xw
def renRevE : Ren := ⟨fun x => if x = 35 then 136 else x, fun x => if x = 0 then 0 else if x = 3 then 3 else if x = 4 then 4 else if x = 22 then 61 else if x = 23 then 66 else x, fun x => x⟩
theorem layRevE : SlLaysE0.n35 Tryz.prog renRevE where
  mixed := by kernel_rfl
  f35 := ⟨Tryz.f136.name, by kernel_rfl, Tryz.func136.trans (by kernel_rfl)⟩
  t0 := by kernel_rfl
  a0 := fun _ => by kernel_rfl
  z0 := fun _ => by kernel_rfl
  v0 := fun _ => by kernel_rfl
  t3 := by kernel_rfl
  a3 := fun _ => by kernel_rfl
  z3 := fun _ => by kernel_rfl
  v3 := fun _ => by kernel_rfl
  t4 := by kernel_rfl
  a4 := fun _ => by kernel_rfl
  z4 := fun _ => by kernel_rfl
  v4 := fun _ => by kernel_rfl
  t22 := by kernel_rfl
  a22 := fun _ => by kernel_rfl
  z22 := fun _ => by kernel_rfl
  v22 := fun _ => by kernel_rfl
theorem reverse_ {w : World} {g off cap : Nat} {l : List Edge} {F : Nat → Prop} (h : Sl w 66 4 (.slice (some ⟨g, off, none⟩) l.length cap) l.length (l.flatMap edgeC) F) (hsz : l.length ≤ 9223372036854775807) :
    Calls Tryz.prog 136 #[.slice (some ⟨g, off, none⟩) l.length cap] w fun e w' => e = .returned (.tuple #[]) ∧ Sl w' 66 4 (.slice (some ⟨g, off, none⟩) l.length cap) l.length (l.reverse.flatMap edgeC) F ∧ Chg (fun j => j = g) w w' := by
  have H := AnyQ.slices_Reverse layRevE 4 (fun _ => by kernel_rfl) (fun _ => by kernel_rfl) edgeC (fun _ => rfl) (fun x v hv => by simp [edgeC] at hv; rcases hv with rfl | rfl | rfl | rfl <;> rfl) g off cap l.toArray w (holdsK_of_sl (enc := edgeC) (size := 4) (fun _ => rfl) h) (by simpa using hsz)
  have H' : Calls Tryz.prog 136 #[.slice (some ⟨g, off, none⟩) l.length cap] w fun e w' => e = .returned (.tuple #[]) ∧ ∃ n, w' = putRowK edgeC 4 (Sort.ahead w n) g off l.toArray.reverse := H
  refine H'.mono ?_
  rintro e w' ⟨he, n, hw⟩
  have S : SWK edgeC 4 w g off l.reverse.toArray w' := ⟨n, #[], by
    show w' = grow (putRowK edgeC 4 (Sort.ahead w n) g off l.reverse.toArray) #[]
    rw [grow_empty, hw, List.reverse_toArray]⟩
  have hl : l.reverse.length = l.length := List.length_reverse
  have := sl_of_swk (enc := edgeC) (size := 4) (fun _ => rfl) h S hl
  rw [hl] at this
  exact ⟨he, this, swk_chg S⟩
end Go.Proofs.YtooigfkjdemnlaaGreatDoor

namespace Go.Proofs.YtooigfkjdemnlaaGreatDoor
open Go.RowKit Xw

def Odd (u : Value) : Prop := (∀ k n, u ≠ .int k n) ∧ (∀ s, u ≠ .string s) ∧ ∀ m, u ≠ .map m
theorem odd_slice (A : Option Addr) (n c : Nat) : Odd (.slice A n c) := ⟨fun _ _ h => (by cases h), fun _ h => (by cases h), fun _ h => (by cases h)⟩
theorem odd_bool (b : Bool) : Odd (.bool b) := ⟨fun _ _ h => (by cases h), fun _ h => (by cases h), fun _ h => (by cases h)⟩
structure But (w w' : World) (B ob : Nat) : Prop where
  keep : ∀ j, j < B → j ≠ ob → w'.heap[j]? = w.heap[j]?
  hole : ∃ u0 ty, w.heap[ob]? = some (.cells #[u0] ty) ∧ Odd u0
section
variable {w w' : World} {B ob size : Nat}
theorem But.ne {b o : Nat} {u : Value} (H : But w w' B ob) (hc : w.cell? ⟨b, o, none⟩ = some u) (hu : ¬ Odd u) : b ≠ ob := by
  rintro rfl
  obtain ⟨u0, ty, hob, hodd⟩ := H.hole
  rw [(cells_of (cs := [u0]) hob).1 o] at hc
  cases o with
  | zero => simp at hc; subst hc; exact hu hodd
  | succ o => simp at hc
theorem But.rows {α : Type} {R R' : World → List Value → α → Prop} {v : Value} {l : List α} (H : But w w' B ob) (h : Rows w B size R v l) (h0 : ∀ cs x, R w cs x → ∃ u, cs[0]? = some u ∧ ¬ Odd u) (hR : ∀ cs x, x ∈ l → R w cs x → R' w' cs x) : Rows w' B size R' v l := by
  rcases h with h | ⟨b, o, c, hv, hb, h1, h2, h3, h4⟩
  · exact .inl h
  · obtain ⟨x0, hx0⟩ : ∃ x, l[0]? = some x := ⟨_, List.getElem?_eq_getElem (List.length_pos_iff.2 h3)⟩
    obtain ⟨cs0, a1, a2, a3⟩ := h4 0 x0 hx0
    obtain ⟨u, hu, hnu⟩ := h0 cs0 x0 a2
    have hne := H.ne (a3 0 u hu) hnu
    refine .inr ⟨b, o, c, hv, hb, h1, h2, h3, fun i x hx => ?_⟩
    obtain ⟨cs, e1, e2, e3⟩ := h4 i x hx
    exact ⟨cs, e1, hR cs x (List.mem_of_getElem? hx) e2, fun j u hu => (World.cell?_of_block (H.keep b hb hne)).trans (e3 j u hu)⟩
theorem But.flat {α : Type} {enc : α → List Value} {v : Value} {l : List α} (H : But w w' B ob) (h : Rows w B size (Flat enc) v l) (h0 : ∀ x, ∃ u, (enc x)[0]? = some u ∧ ¬ Odd u) : Rows w' B size (Flat enc) v l :=
  H.rows h (fun cs x hcs => by rw [hcs]; exact h0 x) fun _ _ _ h => h
theorem nodd_int {k : IntKind} {n : Int} : ¬ Odd (.int k n) := fun h => h.1 k n rfl
theorem nodd_str {s : ByteArray} : ¬ Odd (.string s) := fun h => h.2.1 s rfl
theorem nodd_map {m : Option Nat} : ¬ Odd (.map m) := fun h => h.2.2 m rfl
theorem But.kmap {K : Type} [DecidableEq K] {enc : K → Value} {mb : Nat} {L : List (K × Value)} (H : But w w' B ob) (hm : mb < B) (h : KMap enc w mb L) : KMap enc w' mb L := by
  refine h.keep (H.keep mb hm ?_)
  rintro rfl
  obtain ⟨u0, ty, hob, _⟩ := H.hole
  obtain ⟨es, clk, hb, _⟩ := h
  rw [hob] at hb; cases hb
theorem But.mapOf {α : Type} {mb : Nat} {enc : α → List Value} {f : ByteArray → List α} (H : But w w' B ob) (hh : MapOf w B mb size enc f) (h0 : ∀ x, ∃ u, (enc x)[0]? = some u ∧ ¬ Odd u) : MapOf w' B mb size enc f := by
  obtain ⟨hlt, L, h1, h2, h3⟩ := hh
  exact ⟨hlt, L, H.kmap hlt h1, fun k v hm => ⟨(h2 k v hm).1, H.flat (h2 k v hm).2 h0⟩, h3⟩
theorem But.mapOfK {K : Type} [DecidableEq K] {α : Type} {enc : K → Value} {mb : Nat} {ev : α → List Value} {f : K → List α} (H : But w w' B ob) (hh : MapOfK enc w B mb size ev f) (h0 : ∀ x, ∃ u, (ev x)[0]? = some u ∧ ¬ Odd u) : MapOfK enc w' B mb size ev f := by
  obtain ⟨hlt, L, h1, h2, h3⟩ := hh
  exact ⟨hlt, L, H.kmap hlt h1, fun k v hm => H.flat (h2 k v hm) h0, h3⟩
theorem But.histV {v : Value} {h : List HTx} (H : But w w' B ob) (hh : HistV w B v h) : HistV w' B v h :=
  H.rows hh (fun cs x ⟨ov, e, _⟩ => e ▸ ⟨_, rfl, nodd_int⟩) fun cs x _ ⟨ov, e, r⟩ =>
    ⟨ov, e, H.rows r (fun cs x ⟨ov, e, _⟩ => e ▸ ⟨_, rfl, nodd_int⟩) fun cs o _ ⟨sv, e, r⟩ =>
      ⟨sv, e, H.flat r fun x => ⟨_, rfl, nodd_str⟩⟩⟩
theorem But.led {lp : Nat} {h : List HTx} (H : But w w' B ob) (hh : Led w B lp h) (hz : w.heap.size ≤ w'.heap.size) : Led w' B lp h := by
  obtain ⟨⟨tv, wv, ob', kv, ty, h1, h2, h3, h4, h5⟩, hl, hle⟩ := hh
  have hne : lp ≠ ob := by
    rintro rfl
    obtain ⟨u0, ty', hob, _⟩ := H.hole
    rw [hob] at h1; cases h1
  exact ⟨⟨tv, wv, ob', kv, ty, (H.keep lp hl hne).trans h1, H.histV h2, H.rows h3 (fun cs x ⟨mb, e, _⟩ => e ▸ ⟨_, rfl, nodd_map⟩) (fun cs x _ ⟨mb, e, r⟩ => ⟨mb, e, H.mapOf r fun x => ⟨_, rfl, nodd_int⟩⟩),
    H.mapOf h4 fun x => ⟨_, rfl, nodd_int⟩, H.flat h5 fun x => ⟨_, rfl, nodd_str⟩⟩, hl, Nat.le_trans hle hz⟩
theorem But.grD {lp gb : Nat} {h : List HTx} {es : List Edge} {lo : Nat} (H : But w w' B ob) (hh : GrD w B lp gb h es lo) (hz : w.heap.size ≤ w'.heap.size) : GrD w' B lp gb h es lo := by
  obtain ⟨hl, ⟨ev, mb, h1, h2, h3, h4⟩, hg⟩ := hh
  have hne : gb ≠ ob := by
    rintro rfl
    obtain ⟨u0, ty', hob, _⟩ := H.hole
    rw [hob] at h1; cases h1
  exact ⟨H.led hl hz, ⟨ev, mb, (H.keep gb hg hne).trans h1, H.flat h2 fun x => ⟨_, rfl, nodd_int⟩, H.mapOfK h3 fun x => ⟨_, rfl, nodd_int⟩, h4⟩, hg⟩
end
end Go.Proofs.YtooigfkjdemnlaaGreatDoor
