/- Own texts of this claim, joined in build order: Ps, V2. -/
import Derived.Test.YtooigfkjdemnlaaGreatDoorL30
import Derived.Test.YtooigfkjdemnlaaGreatDoorL36
import Derived.Test.YtooigfkjdemnlaaGreatDoorL33
import Derived.Test.YtooigfkjdemnlaaGreatDoorL19
import Derived.Test.YtooigfkjdemnlaaGreatDoorL20
set_option linter.all false
namespace Go.Proofs.YtooigfkjdemnlaaGreatDoor

def cntE (es : List Edge) (ol : List Int) (x : Int) : Nat := (es.filter fun e => decide (e.to = x) && decide (e.frm ∉ ol)).length
theorem cntE_cons (e : Edge) (es : List Edge) (ol : List Int) (x : Int) : cntE (e :: es) ol x = (if e.to = x ∧ e.frm ∉ ol then 1 else 0) + cntE es ol x := by
  unfold cntE
  rw [List.filter_cons]
  by_cases h : e.to = x ∧ e.frm ∉ ol
  · rw [if_pos h, if_pos (by simpa using h)]; simp; omega
  · rw [if_neg h, if_neg (by simpa using h)]; simp
theorem cntE_zero {es : List Edge} {ol : List Int} {x : Int} (h : cntE es ol x = 0) : ∀ e ∈ es, e.to = x → e.frm ∈ ol := fun e he hx => by
  refine Classical.byContradiction fun hn => ?_
  have h1 := List.eq_nil_of_length_eq_zero h
  have : e ∈ es.filter fun e => decide (e.to = x) && decide (e.frm ∉ ol) := List.mem_filter.2 ⟨he, by simp [hx, hn]⟩
  rw [h1] at this
  cases this
theorem cntE_pos {es : List Edge} {ol : List Int} {x : Int} (h : cntE es ol x ≠ 0) : ∃ e ∈ es, e.to = x ∧ e.frm ∉ ol := by
  unfold cntE at h
  have : (es.filter fun e => decide (e.to = x) && decide (e.frm ∉ ol)) ≠ [] := fun e => h (by rw [e]; rfl)
  obtain ⟨e, he⟩ := List.exists_mem_of_ne_nil _ this
  rw [List.mem_filter] at he
  exact ⟨e, he.1, by simpa using he.2⟩
theorem cntE_le (es : List Edge) (ol : List Int) (x : Int) : cntE es ol x ≤ es.length := List.length_filter_le _ _
theorem cntE_split (es : List Edge) (ol : List Int) (m x : Int) (hm : m ∉ ol) : cntE es ol x = cntE es (ol ++ [m]) x + ((es.filter fun e => decide (e.frm = m)).filter fun e => decide (e.to = x)).length := by
  induction es with
  | nil => rfl
  | cons e r ih =>
    rw [cntE_cons, cntE_cons, ih, List.filter_cons]
    by_cases h1 : e.frm = m
    · have h2 : e.frm ∉ ol := by rw [h1]; exact hm
      have h3 : ¬ (e.to = x ∧ e.frm ∉ ol ++ [m]) := fun h => h.2 (by simp [h1])
      rw [if_neg h3, if_pos (c := decide (e.frm = m) = true) (by simpa using h1), List.filter_cons]
      by_cases h4 : e.to = x
      · rw [if_pos ⟨h4, h2⟩, if_pos (by simpa using h4)]; simp; omega
      · rw [if_neg (fun h => h4 h.1), if_neg (by simpa using h4)]; omega
    · have h2 : e.frm ∉ ol ++ [m] ↔ e.frm ∉ ol := by simp [h1]
      rw [if_neg (c := decide (e.frm = m) = true) (by simpa using h1)]
      by_cases h4 : e.to = x ∧ e.frm ∉ ol
      · rw [if_pos h4, if_pos ⟨h4.1, h2.2 h4.2⟩]; omega
      · rw [if_neg h4, if_neg (fun h => h4 ⟨h.1, h2.1 h.2⟩)]; omega

structure Kahn (h : List HTx) (es : List Edge) (ol rd : List Int) (bf : Int → Int) : Prop where
  cnt : ∀ x, bf x = cntE es ol x
  nd : (ol ++ rd).Nodup
  cm : ∀ x ∈ ol ++ rd, ∃ t : Nat, x = t ∧ com h t = true
  rdy : ∀ x ∈ rd, bf x = 0
  all : ∀ t : Nat, com h t = true → bf t = 0 → (t : Int) ∈ ol ++ rd
  rise : ∀ e ∈ es, ∀ i : Nat, ol[i]? = some e.to → ∃ j : Nat, j < i ∧ ol[j]? = some e.frm
structure KahnI (h : List HTx) (es : List Edge) (ol rd : List Int) (bf : Int → Int) (m : Int) (s : Nat) : Prop where
  cnt : ∀ x, bf x = cntE es (ol ++ [m]) x + (((es.filter fun e => decide (e.frm = m)).drop s).filter fun e => decide (e.to = x)).length
  nd : (ol ++ [m] ++ rd).Nodup
  cm : ∀ x ∈ ol ++ [m] ++ rd, ∃ t : Nat, x = t ∧ com h t = true
  rdy : ∀ x ∈ rd, bf x = 0
  all : ∀ t : Nat, com h t = true → bf t = 0 → (t : Int) ∈ ol ++ [m] ++ rd
  rise : ∀ e ∈ es, ∀ i : Nat, (ol ++ [m])[i]? = some e.to → ∃ j : Nat, j < i ∧ (ol ++ [m])[j]? = some e.frm
variable {h : List HTx} {es : List Edge} {ol rd : List Int} {bf : Int → Int} {m : Int} {s : Nat}
theorem Kahn.take (K : Kahn h es ol rd bf) (hm : m ∈ rd) : KahnI h es ol (rd.filter fun u => !decide (u = m)) bf m 0 := by
  have hmo : m ∉ ol := fun ho => (List.nodup_append.1 K.nd).2.2 m ho m hm rfl
  refine ⟨fun x => ?_, ?_, fun x hx => ?_, fun x hx => K.rdy x (List.mem_filter.1 hx).1, fun t ht hb => ?_, fun e he i hi => ?_⟩
  · rw [K.cnt, cntE_split es ol m x hmo, List.drop_zero]; omega
  · obtain ⟨n1, n2, n3⟩ := List.nodup_append.1 K.nd
    refine List.nodup_append.2 ⟨List.nodup_append.2 ⟨n1, by simp, fun a ha b hb => ?_⟩, n2.filter _, fun a ha b hb => ?_⟩
    · simp at hb; subst hb; exact fun e => hmo (e ▸ ha)
    · rw [List.mem_filter] at hb
      rcases List.mem_append.1 ha with h1 | h1
      · exact n3 a h1 b hb.1
      · simp at h1; subst h1
        have := hb.2
        simp at this
        exact fun e => this e.symm
  · rcases List.mem_append.1 hx with h1 | h1
    · rcases List.mem_append.1 h1 with h2 | h2
      · exact K.cm x (List.mem_append_left _ h2)
      · simp at h2; subst h2; exact K.cm x (List.mem_append_right _ hm)
    · exact K.cm x (List.mem_append_right _ (List.mem_filter.1 h1).1)
  · rcases List.mem_append.1 (K.all t ht hb) with h1 | h1
    · exact List.mem_append_left _ (List.mem_append_left _ h1)
    · by_cases htm : (t : Int) = m
      · exact List.mem_append_left _ (List.mem_append_right _ (by simp [htm]))
      · exact List.mem_append_right _ (List.mem_filter.2 ⟨h1, by simp [htm]⟩)
  · rcases Nat.lt_or_ge i ol.length with hlt | hge
    · rw [List.getElem?_append_left hlt] at hi
      obtain ⟨j, hj, hj2⟩ := K.rise e he i hi
      exact ⟨j, hj, by rw [List.getElem?_append_left (by omega)]; exact hj2⟩
    · rw [List.getElem?_append_right hge] at hi
      have hi0 : i - ol.length = 0 := by
        rcases Nat.eq_zero_or_pos (i - ol.length) with h0 | h0
        · exact h0
        · rw [List.getElem?_eq_none (by simp; omega)] at hi; cases hi
      rw [hi0] at hi
      have hem : e.to = m := by simpa using hi.symm
      have hc : cntE es ol m = 0 := by
        have := K.rdy m hm
        rw [K.cnt] at this
        omega
      have hin := cntE_zero hc e he hem
      obtain ⟨j, hj⟩ := List.mem_iff_getElem?.1 hin
      have hjl := (List.getElem?_eq_some_iff.1 hj).1
      exact ⟨j, by omega, by rw [List.getElem?_append_left hjl]; exact hj⟩
theorem KahnI.step (K : KahnI h es ol rd bf m s) (hec : ∀ e ∈ es, EdgeC h e) {e : Edge} (he : (es.filter fun e => decide (e.frm = m))[s]? = some e) :
    1 ≤ bf e.to ∧ KahnI h es ol (if bf e.to - 1 = 0 then rd ++ [e.to] else rd) (fun y => if y = e.to then bf e.to - 1 else bf y) m (s + 1) := by
  have hmem := List.mem_filter.1 (List.mem_of_getElem? he)
  have hfm : e.frm = m := by simpa using hmem.2
  obtain ⟨u, t, eu, et, cu, ct, hut⟩ := hec e hmem.1
  have hdrop : (es.filter fun e => decide (e.frm = m)).drop s = e :: (es.filter fun e => decide (e.frm = m)).drop (s + 1) := by
    obtain ⟨hl, h1⟩ := List.getElem?_eq_some_iff.1 he
    rw [List.drop_eq_getElem_cons hl, h1]
  have hbe : bf e.to = cntE es (ol ++ [m]) e.to + ((((es.filter fun e => decide (e.frm = m)).drop (s + 1)).filter fun e' => decide (e'.to = e.to)).length + 1) := by
    rw [K.cnt e.to, hdrop, List.filter_cons, if_pos (by simp)]
    simp
  have hpos : 1 ≤ bf e.to := by omega
  have hnr : e.to ∉ rd := fun hr => by have := K.rdy _ hr; omega
  have hno : e.to ∉ ol ++ [m] := fun ho => by
    obtain ⟨i, hi⟩ := List.mem_iff_getElem?.1 ho
    obtain ⟨j, hj, hj2⟩ := K.rise e hmem.1 i hi
    have hil := (List.getElem?_eq_some_iff.1 hi).1
    have n1 := (List.nodup_append.1 K.nd).1
    have hlast : (ol ++ [m])[ol.length]? = some m := by simp
    rw [hfm] at hj2
    have := (List.getElem?_inj (List.getElem?_eq_some_iff.1 hj2).1 n1).1 (hj2.trans hlast.symm)
    simp at hil
    omega
  have hmono : ∀ x ∈ ol ++ [m] ++ rd, x ∈ ol ++ [m] ++ (if bf e.to - 1 = 0 then rd ++ [e.to] else rd) := fun x hx => by
    rcases List.mem_append.1 hx with h1 | h1
    · exact List.mem_append_left _ h1
    · refine List.mem_append_right _ ?_
      split
      · exact List.mem_append_left _ h1
      · exact h1
  refine ⟨hpos, fun x => ?_, ?_, fun x hx => ?_, fun x hx => ?_, fun t' ht' hb => ?_, K.rise⟩
  · by_cases hx : x = e.to
    · subst hx; rw [if_pos rfl, hbe]; omega
    · rw [if_neg hx, K.cnt x, hdrop, List.filter_cons, if_neg (by simpa using fun h => hx h.symm)]
  · split
    · obtain ⟨n1, n2, n3⟩ := List.nodup_append.1 K.nd
      refine List.nodup_append.2 ⟨n1, List.nodup_append.2 ⟨n2, by simp, fun a ha b hb => ?_⟩, fun a ha b hb => ?_⟩
      · simp at hb; subst hb; exact fun e' => hnr (e' ▸ ha)
      · rcases List.mem_append.1 hb with h1 | h1
        · exact n3 a ha b h1
        · simp at h1; subst h1; exact fun e' => hno (e' ▸ ha)
    · exact K.nd
  · have : x ∈ ol ++ [m] ++ rd ∨ x = e.to := by
      rcases List.mem_append.1 hx with h1 | h1
      · exact .inl (List.mem_append_left _ h1)
      · split at h1
        · rcases List.mem_append.1 h1 with h2 | h2
          · exact .inl (List.mem_append_right _ h2)
          · simp at h2; exact .inr h2
        · exact .inl (List.mem_append_right _ h1)
    rcases this with h1 | h1
    · exact K.cm x h1
    · exact ⟨t, by rw [h1, et], ct⟩
  · have : x ∈ rd ∨ (x = e.to ∧ bf e.to - 1 = 0) := by
      split at hx
      · rename_i h0
        rcases List.mem_append.1 hx with h2 | h2
        · exact .inl h2
        · simp at h2; exact .inr ⟨h2, h0⟩
      · exact .inl hx
    rcases this with h1 | ⟨h1, h2⟩
    · have hxe : x ≠ e.to := fun h2 => hnr (h2 ▸ h1)
      simp only [if_neg hxe]
      exact K.rdy x h1
    · simp only [if_pos h1]; exact h2
  · by_cases htx : (t' : Int) = e.to
    · rw [if_pos htx] at hb
      refine List.mem_append_right _ ?_
      rw [if_pos hb, htx]
      exact List.mem_append_right _ (by simp)
    · rw [if_neg htx] at hb
      exact hmono _ (K.all t' ht' hb)
theorem KahnI.done (K : KahnI h es ol rd bf m (es.filter fun e => decide (e.frm = m)).length) : Kahn h es (ol ++ [m]) rd bf :=
  ⟨fun x => by rw [K.cnt, List.drop_length]; simp, K.nd, K.cm, K.rdy, K.all, K.rise⟩
def leftN (h : List HTx) (t : Nat) : Nat := ((List.range t).filter (com h)).length
theorem leftN_le (h : List HTx) (t : Nat) : leftN h t ≤ t := by
  unfold leftN
  have := List.length_filter_le (com h) (List.range t)
  simpa using this
theorem leftN_succ (h : List HTx) (t : Nat) : leftN h (t + 1) = leftN h t + (if com h t = true then 1 else 0) := by
  unfold leftN
  rw [List.range_succ, List.filter_append, List.length_append]
  cases hc : com h t <;> simp [hc]
def readyN (h : List HTx) (bf : Int → Int) : Nat → List Int
  | 0 => []
  | t + 1 => if com h t = true ∧ bf t = 0 then readyN h bf t ++ [(t : Int)] else readyN h bf t
theorem readyN_mem {h : List HTx} {bf : Int → Int} {x : Int} : ∀ n, x ∈ readyN h bf n ↔ ∃ t : Nat, t < n ∧ x = t ∧ com h t = true ∧ bf t = 0
  | 0 => by simp [readyN]
  | n + 1 => by
    have ih := readyN_mem (h := h) (bf := bf) (x := x) n
    unfold readyN
    split
    · rename_i hc
      rw [List.mem_append, ih]
      constructor
      · rintro (⟨t, h1, h2⟩ | h1)
        · exact ⟨t, by omega, h2⟩
        · simp at h1; exact ⟨n, by omega, h1, hc⟩
      · rintro ⟨t, h1, h2, h3⟩
        by_cases ht : t = n
        · subst ht; exact .inr (by simp [h2])
        · exact .inl ⟨t, by omega, h2, h3⟩
    · rename_i hc
      rw [ih]
      constructor
      · rintro ⟨t, h1, h2⟩
        exact ⟨t, by omega, h2⟩
      · rintro ⟨t, h1, h2, h3⟩
        by_cases ht : t = n
        · subst ht; exact absurd h3 hc
        · exact ⟨t, by omega, h2, h3⟩
theorem readyN_nodup {h : List HTx} {bf : Int → Int} : ∀ n, (readyN h bf n).Nodup ∧ (readyN h bf n).length ≤ n
  | 0 => by simp [readyN]
  | n + 1 => by
    obtain ⟨h1, h2⟩ := readyN_nodup (h := h) (bf := bf) n
    unfold readyN
    split
    · refine ⟨List.nodup_append.2 ⟨h1, by simp, fun a ha b hb => ?_⟩, by simp; omega⟩
      simp at hb; subst hb
      obtain ⟨t, ht, rfl, _⟩ := (readyN_mem n).1 ha
      omega
    · exact ⟨h1, by omega⟩
theorem com_lt {h : List HTx} {t : Nat} (hc : com h t = true) : t < h.length := by
  obtain ⟨x, hx, _⟩ := com_iff.1 hc
  exact (List.getElem?_eq_some_iff.1 hx).1
theorem Kahn.start (hbf : ∀ x, bf x = cntE es [] x) : Kahn h es [] (readyN h bf h.length) bf := by
  refine ⟨hbf, by simpa using (readyN_nodup h.length).1, fun x hx => ?_, fun x hx => ?_, fun t ht hb => ?_, fun e he i hi => by simp at hi⟩
  · rw [List.nil_append, readyN_mem] at hx
    obtain ⟨t, _, h1, h2, _⟩ := hx
    exact ⟨t, h1, h2⟩
  · obtain ⟨t, _, h1, _, h2⟩ := (readyN_mem _).1 hx
    rw [h1]; exact h2
  · rw [List.nil_append, readyN_mem]
    exact ⟨t, com_lt ht, rfl, ht, hb⟩
theorem Kahn.nats (K : Kahn h es ol rd bf) : ∃ l : List Nat, ol = l.map (fun (t : Nat) => (t : Int)) ∧ l.Nodup ∧ ∀ t ∈ l, com h t = true := by
  have hcm : ∀ x ∈ ol, ∃ t : Nat, x = t ∧ com h t = true := fun x hx => K.cm x (List.mem_append_left _ hx)
  have hnd := (List.nodup_append.1 K.nd).1
  clear K
  have he : ol = (ol.map Int.toNat).map (fun (t : Nat) => (t : Int)) := by
    rw [List.map_map]
    conv => lhs; rw [← List.map_id ol]
    apply List.map_congr_left
    intro x hx
    obtain ⟨t, rfl, _⟩ := hcm x hx
    simp
  refine ⟨ol.map Int.toNat, he, ?_, fun t ht => ?_⟩
  · rw [he] at hnd
    exact List.Pairwise.of_map _ (fun a b hab e => hab (by rw [e])) hnd
  · obtain ⟨x, hx, rfl⟩ := List.mem_map.1 ht
    obtain ⟨t, rfl, hc⟩ := hcm x hx
    simpa using hc
theorem Kahn.len (K : Kahn h es ol rd bf) : ol.length + rd.length ≤ leftN h h.length := by
  have hl : (ol ++ rd).length ≤ ((List.range h.length).filter (com h)).length := by
    have := nodup_len (ol ++ rd) (((List.range h.length).filter (com h)).map (fun (t : Nat) => (t : Int))) K.nd (fun x hx => by
      obtain ⟨t, rfl, hc⟩ := K.cm x hx
      exact List.mem_map_of_mem (f := fun (t : Nat) => (t : Int)) (List.mem_filter.2 ⟨List.mem_range.2 (com_lt hc), hc⟩))
    simpa using this
  rw [List.length_append] at hl
  exact hl
theorem Kahn.back (K : Kahn h es ol [] bf) (hec : ∀ e ∈ es, EdgeC h e) (hlt : ol.length < leftN h h.length) : ∃ e ∈ es, e.to < e.frm := by
  obtain ⟨l, hl, hnd, hcm⟩ := K.nats
  have hex : ∃ t : Nat, com h t = true ∧ (t : Int) ∉ ol := by
    refine Classical.byContradiction fun hn => ?_
    have : ∀ t : Nat, com h t = true → t ∈ l := fun t ht => Classical.byContradiction fun h1 => hn ⟨t, ht, fun h2 => h1 (by
      rw [hl] at h2
      obtain ⟨a, ha, e⟩ := List.mem_map.1 h2
      have : a = t := by omega
      rw [← this]; exact ha)⟩
    have h3 := nodup_len ((List.range h.length).filter (com h)) l (List.nodup_range.filter _) (fun t ht => this t (List.mem_filter.1 ht).2)
    have h4 : ol.length = l.length := by rw [hl, List.length_map]
    unfold leftN at hlt
    omega
  obtain ⟨t, ⟨ht, hto⟩, hmin⟩ : ∃ t : Nat, (com h t = true ∧ (t : Int) ∉ ol) ∧ ∀ u : Nat, u < t → ¬ (com h u = true ∧ (u : Int) ∉ ol) := by
    obtain ⟨t0, h0⟩ := hex
    induction t0 using Nat.strongRecOn with
    | _ t0 ih =>
      by_cases hb : ∃ u : Nat, u < t0 ∧ (com h u = true ∧ (u : Int) ∉ ol)
      · obtain ⟨u, hu, h1⟩ := hb
        exact ih u hu h1
      · exact ⟨t0, h0, fun u hu h1 => hb ⟨u, hu, h1⟩⟩
  have hc : cntE es ol t ≠ 0 := fun h0 => hto (by
    have := K.all t ht (by rw [K.cnt, h0]; rfl)
    simpa using this)
  obtain ⟨e, he, he1, he2⟩ := cntE_pos hc
  refine ⟨e, he, ?_⟩
  obtain ⟨u, v, eu, ev, cu, cv, huv⟩ := hec e he
  rcases Nat.lt_or_ge u t with h1 | h1
  · exact absurd ⟨cu, by rw [← eu]; exact he2⟩ (hmin u h1)
  · omega
theorem Kahn.line (K : Kahn h (edgesOf h) ol [] bf) (H : Fine h) (hge : ¬ ol.length < leftN h h.length) : ∃ l : List Nat, ol = l.map (fun (t : Nat) => (t : Int)) ∧ Line h l := by
  obtain ⟨l, hl, hnd, hcm⟩ := K.nats
  have hall : ∀ t : Nat, com h t = true → t ∈ l := fun t ht => Classical.byContradiction fun h1 => by
    have h3 := nodup_len (t :: l) ((List.range h.length).filter (com h)) (List.nodup_cons.2 ⟨h1, hnd⟩) (fun u hu => by
      have hu' : com h u = true := by
        rcases List.mem_cons.1 hu with rfl | h2
        · exact ht
        · exact hcm u h2
      exact List.mem_filter.2 ⟨List.mem_range.2 (com_lt hu'), hu'⟩)
    have h4 : ol.length = l.length := by rw [hl, List.length_map]
    unfold leftN at hge
    simp only [List.length_cons] at h3
    omega
  refine ⟨l, hl, hnd, fun t => ⟨hcm t, hall t⟩, fun e he => ?_⟩
  obtain ⟨u, v, eu, ev, cu, cv, huv⟩ := edge_com H he
  obtain ⟨j, hj⟩ := List.mem_iff_getElem?.1 (hall v cv)
  have hoj : ol[j]? = some e.to := by rw [hl, List.getElem?_map, hj, ev]; rfl
  obtain ⟨i, hi, hoi⟩ := K.rise e he j hoj
  refine ⟨i, j, u, v, hi, ?_, hj, eu, ev⟩
  rw [hl, List.getElem?_map] at hoi
  obtain ⟨a, ha, hae⟩ := Option.map_eq_some_iff.1 hoi
  rw [ha]
  congr 1
  omega
end Go.Proofs.YtooigfkjdemnlaaGreatDoor

namespace Go.Proofs.YtooigfkjdemnlaaGreatDoor
set_option maxRecDepth 100000
open Go.RowKit Go.Lib Go.Sort Go.Shelf Xw

theorem hver_eta (v : HVer) : (⟨v.key, v.frm, v.nth⟩ : HVer) = v := rfl
theorem StM.keys {w : World} {mb : Nat} {st : KSt} {L : List (ByteArray × Value)} (hk : KMap Value.string w mb L) (hg : ∀ k, kget L k = (st k).map verV) {ss : List (List UInt8)} (hp : ss.Perm (L.map fun p => kb p.1)) :
    ∃ ks : List ByteArray, ss.mergeSort (fun x y => decide (x ≤ y)) = ks.map kb' ∧ ks.length = L.length ∧ ks.Pairwise (fun a b => klt a b = true) ∧ ∀ k, k ∈ ks ↔ st k ≠ none := by
  have hperm : ((L.map (·.1)).mergeSort kle).Perm (L.map (·.1)) := List.mergeSort_perm _ _
  refine ⟨(L.map (·.1)).mergeSort kle, ?_, ?_, ?_, fun k => ?_⟩
  · have hp2 : ss.Perm ((L.map (·.1)).map kb') := by rw [List.map_map]; exact hp
    rw [mergeSort_of_perm hp2]
    exact (List.map_mergeSort (fun a _ b _ => leB_kb a b)).symm
  · rw [List.length_mergeSort, List.length_map]
  · have h1 := List.pairwise_mergeSort kle_trans kle_total (L.map (·.1))
    have h2 : ((L.map (·.1)).mergeSort kle).Nodup := hperm.nodup_iff.2 hk.nodup
    exact (h1.and h2).imp (fun {a b} hab => klt_of_kle hab.1 hab.2)
  · rw [List.mem_mergeSort]
    constructor
    · intro hm h0
      obtain ⟨p, hp, rfl⟩ := List.mem_map.1 hm
      have := kget_mem hk.nodup (k := p.1) (v := p.2) hp
      rw [hg, h0] at this
      cases this
    · intro h0
      cases hs : kget L k with
      | none =>
        rw [hg] at hs
        cases hst : st k with
        | none => exact absurd hst h0
        | some v => rw [hst] at hs; cases hs
      | some v => exact List.mem_map_of_mem (f := (·.1)) (kget_some hs)
theorem ver_info : (Tryz.prog.info? 56).map (fun i => (i.zero.map (·.cells.size), i.size, i.bytes)) = some (some 3, 3, 32) := by kernel_rfl
def tellL (st : KSt) (o : HOpr) (ks : List ByteArray) (i : Nat) : List HVer := ((ks.take i).filter (covers o)).map fun k => (st k).getD hver0
theorem tellL_len (st : KSt) (o : HOpr) (ks : List ByteArray) (i : Nat) : (tellL st o ks i).length ≤ ks.length := by
  unfold tellL
  rw [List.length_map]
  have h1 := List.length_filter_le (covers o) (ks.take i)
  have h2 := List.length_take (i := i) (l := ks)
  omega
theorem tellL_succ {st : KSt} {o : HOpr} {ks : List ByteArray} {i : Nat} {k : ByteArray} (hk : ks[i]? = some k) : tellL st o ks (i + 1) = if covers o k = true then tellL st o ks i ++ [(st k).getD hver0] else tellL st o ks i := by
  unfold tellL
  rw [List.take_add_one, hk, List.filter_append, List.map_append]
  cases hc : covers o k <;> simp [hc]
set_option maxHeartbeats 8000000 in
theorem same_ {w : World} {B mb N : Nat} {st : KSt} {sv : Value} {o : HOpr} (hS : StM w mb st N) (hN : N ≤ 268435456) (hrows : Rows w B 3 (Flat verC) sv o.seen) (hB : B ≤ w.heap.size) :
    Calls Tryz.prog 22 #[.map (some mb), .agg #[.int .i64 o.kind, .string o.ver.key, .int .i64 o.ver.frm, .int .i64 o.ver.nth, .bool o.dead, .string o.value, .string o.hi, sv, .int .u64 o.at_]] w fun e w' => Below w.heap.size w w' ∧ ∃ b, e = .returned (.bool b) ∧ Hid (b = true ↔ SameP st o) := by
  obtain ⟨SA, sc, rfl, hsc1, hsc2⟩ := hrows.shape
  simp only [maxLen] at hsc2
  have hmb := hS.lt
  obtain ⟨W1, hW1⟩ : ∃ W1, W1 = w.alloc (.cells #[.int .i64 o.kind, .string o.ver.key, .int .i64 o.ver.frm, .int .i64 o.ver.nth, .bool o.dead, .string o.value, .string o.hi, .slice SA o.seen.length sc, .int .u64 o.at_] 59) := ⟨_, rfl⟩
  have hB1 : Below w.heap.size w W1 := by rw [hW1]; exact bel1 _ _
  have hz1 : W1.heap.size = w.heap.size + 1 := by rw [hW1]; simp
  have hbx : W1.heap[w.heap.size]? = some (.cells #[.int .i64 o.kind, .string o.ver.key, .int .i64 o.ver.frm, .int .i64 o.ver.nth, .bool o.dead, .string o.value, .string o.hi, .slice SA o.seen.length sc, .int .u64 o.at_] 59) := by rw [hW1]; exact heap_alloc_new _ _
  obtain ⟨q, qf⟩ := cells_of (cs := [.int .i64 o.kind, .string o.ver.key, .int .i64 o.ver.frm, .int .i64 o.ver.nth, .bool o.dead, .string o.value, .string o.hi, .slice SA o.seen.length sc, .int .u64 o.at_]) hbx
  have hS1 := hS.keep (w' := W1) (hB1.block _ hmb)
  have hwl : w.heap.size < W1.heap.size := by omega
  have HW1 := Lib.hid hW1
  have HBX := Lib.hid hbx
  clear hW1 hbx
  by_cases hk1 : o.kind = 1
  · have hkb : (o.kind == 1) = true := by simp [hk1]
    have q0 := q 0
    have q1 := q 1
    have q2 := q 2
    have q3 := q 3
    have lk1 := hS1.look o.ver.key W1 rfl
    have heq := run_eqlV ((st o.ver.key).getD hver0) o.ver
    obtain ⟨z, hz⟩ : ∃ z, z = (st o.ver.key).getD hver0 := ⟨_, rfl⟩
    rw [← hz] at lk1 heq
    obtain ⟨bq, hbq⟩ : ∃ bq, bq = decide (z = o.ver) := ⟨_, rfl⟩
    rw [← hbq] at heq
    have HR : Hid (bq = true ↔ SameP st o) := Lib.hid (by
      unfold SameP
      rw [if_pos hk1, hbq, hz]
      exact decide_eq_true_iff)
    clear hk1 hbq hz q qf
    go_enter Tryz.func22, Tryz.ntmps22
    go_upto_region 1 with (fail)
    rw [← HW1.out]
    go_wp2
    go_ret
    exact ⟨hB1, bq, rfl, HR⟩
  · have hkb : (o.kind == 1) = false := by simp [hk1]
    obtain ⟨L, hL, hg, hLN⟩ := id hS1
    obtain ⟨W2, hW2⟩ : ∃ W2, W2 = W1.alloc (.cells #[.map (some mb)] 87) := ⟨_, rfl⟩
    have hB2 : Below W1.heap.size W1 W2 := by rw [hW2]; exact bel1 _ _
    have hz2 : W2.heap.size = W1.heap.size + 1 := by rw [hW2]; simp
    have hb2 : W2.heap[w.heap.size + 1]? = some (.cells #[.map (some mb)] 87) := by rw [← hz1, hW2]; exact heap_alloc_new _ _
    have hsort := Lib.hid (sortedS_ (hL.keep (w' := W2) (hB2.block _ (by omega))) hb2 (by omega))
    have HK1 := Lib.hid hk1
    have HW2 := Lib.hid hW2
    have HL := Lib.hid (And.intro hL hg)
    have HS1 := Lib.hid hS1
    have HQ := Lib.hid q
    have q0 := q 0
    obtain ⟨i0, z0, j0, j1, j2, j3, j4⟩ := info_of ver_info
    clear hk1 hW2 hL hg hS1 q qf hb2
    go_enter Tryz.func22, Tryz.ntmps22
    go_upto_region 1 with (fail)
    rw [← HW1.out]
    go_wp2_with (first
      | (go_at_call 47; refine (keysS_ _ _).mono ?_; rintro e w2 ⟨rfl, rfl⟩)
      | (go_at_call 46; rw [← HW2.out]; refine hsort.out.mono ?_
         rintro e w3 ⟨v3, ss, rfl, hperm, hown, hnil, hB3⟩
         have hsl := sl_of_owns hown
         obtain ⟨KA, kc, rfl, hkc1, hkc2⟩ := hsl.shape
         simp only [maxLen] at hkc1
         have HSS := Lib.hid (And.intro hperm hsl)
         clear hperm hown hnil hsl))
    obtain ⟨hperm, hsl⟩ := HSS.out
    obtain ⟨hL, hg⟩ := HL.out
    obtain ⟨ks, hkm, hkl, hkr, hkn⟩ := StM.keys hL hg hperm
    have hssl : ss.length = ks.length := by
      have := congrArg List.length hkm
      simpa using this
    rw [hkm, keys_flat, hssl] at hsl
    rw [hssl] at hkc2 ⊢
    have hrk := Rows.of_sl (enc := strC) (size := 1) (fun _ => rfl) hsl (Nat.le_refl _)
    have hz3 := hB3.size
    have hB13 : Below W1.heap.size W1 w3 := hB2.trans (hB3.mono (by omega))
    have HRK := Lib.hid hrk
    have HKS := Lib.hid (And.intro hkr hkn)
    have hkl2 : ks.length ≤ 268435456 := by omega
    clear hsl hrk hperm hL hg hkm hkr hkn hssl q0 hkl
    go_loopw [5, 7, 23] (fun v' _ i' wr => ∃ (i : Nat) (F : Nat → Prop), i ≤ ks.length ∧ i' = .int .i64 i ∧ Sl wr 56 3 v' (tellL st o ks i).length ((tellL st o ks i).flatMap verC) F ∧ (∀ j, F j → w3.heap.size ≤ j ∧ j < wr.heap.size) ∧ Below w3.heap.size w3 wr) (fun _ _ i' _ => ks.length - (intOf i').toNat)
    case atStart => exact ⟨0, fun _ => False, by omega, rfl, by simpa [tellL] using Sl.nil _ _ _ _, fun _ f => f.elim, Below.refl _ _⟩
    case round =>
      obtain ⟨i, F, hi, rfl, hs, hF, hBr⟩ := hrel
      have hzr := hBr.size
      have hB1r : Below W1.heap.size W1 wr := hB13.trans (hBr.mono (by omega))
      obtain ⟨A5, c5, rfl, hca, hcb⟩ := hs.shape
      simp only [maxLen] at hca
      have htl := tellL_len st o ks i
      have hqr : ∀ j, wr.cell? ⟨w.heap.size, j, none⟩ = [Value.int .i64 o.kind, .string o.ver.key, .int .i64 o.ver.frm, .int .i64 o.ver.nth, .bool o.dead, .string o.value, .string o.hi, .slice SA o.seen.length sc, .int .u64 o.at_][j]? := fun j => (World.cell?_of_block (a := ⟨w.heap.size, j, none⟩) (hB1r.block w.heap.size hwl)).trans (HQ.out j)
      have e7 := hqr 7
      have hwr : w.heap.size < wr.heap.size := by omega
      by_cases hlt : i < ks.length
      · obtain ⟨k, hk⟩ : ∃ k, ks[i]? = some k := ⟨_, List.getElem?_eq_getElem hlt⟩
        obtain ⟨b, p, c2, hq2, hb, x0⟩ := HRK.out.get1 hk (wr := wr) (fun j hj => hBr.block j hj) rfl
        cases hq2
        have hbr : b < wr.heap.size := by omega
        have e0 := hqr 0
        have e1 := hqr 1
        have e2 := hqr 2
        have e3 := hqr 3
        have e4 := hqr 4
        have e5 := hqr 5
        have e6 := hqr 6
        have e8 := hqr 8
        have hcov := Lib.hid (covers_ (.slice SA o.seen.length sc) o k wr)
        have hsuc := tellL_succ (st := st) (o := o) hk
        have lk := HS1.out.look k (wr.alloc (.cells (opC (.slice SA o.seen.length sc) o).toArray 59)) ((heap_alloc_lt (by omega)).trans (hB1r.block _ (by omega)))
        obtain ⟨z, hz⟩ : ∃ z, z = (st k).getD hver0 := ⟨_, rfl⟩
        rw [← hz] at lk hsuc
        have HSUC := Lib.hid hsuc
        have HS := Lib.hid hs
        have hii : (i : Int) < ks.length := by omega
        clear hk hsuc hs hqr hz
        cases hc : covers o k with
        | false =>
          have HC := Lib.hid hc
          have hs2 := HSUC.out
          rw [hc] at hs2
          have HS2 := Lib.hid hs2
          clear hc hs2
          go_wp2_with (go_at_call 48; refine hcov.out.mono ?_; rw [HC.out]; rintro e w4 ⟨rfl, rfl⟩; simp only [opC])
          refine ⟨⟨i + 1, F, by omega, by simp, ?_, fun j hj => by have := hF j hj; simp; omega, hBr.trans ((bel1 _ _).mono (by omega))⟩, by simp [intOf]; omega⟩
          rw [HS2.out]
          exact HS.out.chg ((Chg.refl (fun _ => False) _).alloc _) (fun _ _ f => f)
        | true =>
          have HC := Lib.hid hc
          have hs2 := HSUC.out
          rw [hc] at hs2
          simp only [if_true] at hs2
          have HS2 := Lib.hid hs2
          clear hc hs2
          simp only [opC] at lk
          obtain ⟨W4, hW4⟩ : ∃ W4, W4 = wr.alloc (.cells #[.int .i64 o.kind, .string o.ver.key, .int .i64 o.ver.frm, .int .i64 o.ver.nth, .bool o.dead, .string o.value, .string o.hi, .slice SA o.seen.length sc, .int .u64 o.at_] 59) := ⟨_, rfl⟩
          have hz4 : W4.heap.size = wr.heap.size + 1 := by rw [hW4]; simp
          have hc4 : Chg (fun _ => False) wr W4 := by rw [hW4]; exact (Chg.refl _ _).alloc _
          have lk4 := lk
          rw [← hW4] at lk4
          have HW4 := Lib.hid hW4
          have HZ4 := Lib.hid hz4
          have hz4' : wr.heap.size ≤ W4.heap.size := hc4.size
          clear lk hW4 hz4
          go_upto_region 8 with (go_at_call 48; refine hcov.out.mono ?_; rw [HC.out]; rintro e w4 ⟨rfl, rfl⟩; simp only [opC])
          rw [← HW4.out]
          go_wp2_with (
            refine wpList_append_sl _ rfl (.tmp 30) (.tmp 34) 57 rfl 56 i0 z0 3 32 Tryz.underlying57 j0 j1 j2 j3 j4 (by omega) _ _ _ _ rfl (HS.out.chg (hc4.alloc _) (fun _ _ f => f)) _ _ 1 1 [.string z.key, .int .i64 z.frm, .int .i64 z.nth] rfl (reads_new _ _ 3 rfl _) (by intro u hu; simp at hu; rcases hu with rfl | rfl | rfl <;> rfl) (by simp only [maxLen]; omega) (by omega) ?_
            intro v9 w9 F9 hs9 hc9 hf9 hnz9
            have HN9 := Lib.hid hnz9
            clear hnz9)
          have hz9 := hc9.size
          have hz4 := HZ4.out
          have hza : ∀ b : Obj, (W4.alloc b).heap.size = wr.heap.size + 2 := fun b => by simp; omega
          rw [hza] at hz9
          have hal9 : Chg F wr w9 := ((hc4.alloc _).mono (G := F) (fun _ _ f => f.elim)).trans hc9 (fun _ _ h => h)
          refine ⟨⟨i + 1, F9, by omega, by simp, ?_, fun j hj => ?_, hBr.trans (hal9.below (fun j hj => (hF j hj).1) hzr)⟩, by simp [intOf]; omega⟩
          · rw [HS2.out, List.length_append, List.flatMap_append]
            simpa [verC] using hs9
          · rcases hf9 j hj with h | ⟨h, h'⟩
            · have := hF j h; omega
            · rw [hza] at h; omega
      · obtain rfl : i = ks.length := by omega
        have hr1 := Rows.of_sl (enc := verC) (size := 3) (fun _ => rfl) hs (Nat.le_refl _)
        have hr2 : Rows wr wr.heap.size 3 (Flat verC) (.slice SA o.seen.length sc) o.seen := (hrows.flat (fun j hj => (hB1r.block j (by omega)).trans (hB1.block j (by omega)))).flatMore (by omega)
        have hEq := Lib.hid (equalVers_ hr1 hr2 (Nat.le_refl _))
        have HR : Hid (decide (tellL st o ks ks.length = o.seen) = true ↔ SameP st o) := Lib.hid (by
          have hfull : tellL st o ks ks.length = ((ks.filter (covers o)).map fun k => (st k).getD hver0) := by unfold tellL; rw [List.take_length]
          unfold SameP
          rw [if_neg HK1.out, decide_eq_true_iff, hfull]
          obtain ⟨h1, h2⟩ := HKS.out
          constructor
          · intro h; exact ⟨ks, h1, h2, h.symm⟩
          · rintro ⟨ks', h3, h4, h5⟩
            have : ks' = ks := rising_unique h3 h1 (fun k => by rw [h4, h2])
            rw [h5, this])
        clear hr1 hr2 hs hqr
        go_wp2_with (go_at_call 49; refine hEq.out.mono ?_; rintro e w4 ⟨rfl, hB4⟩)
        go_ret
        exact ⟨hB1.trans ((hB1r.trans (hB4.mono (by omega))).mono (by omega)), _, rfl, HR⟩
end Go.Proofs.YtooigfkjdemnlaaGreatDoor
