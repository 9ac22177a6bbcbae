/- The abstract interpreter: what an operation does to the state: one law for all. -/
import Derived.Test.YtikedmiioonjiaaDoorEvF
set_option linter.unusedVariables false
set_option linter.unusedSimpArgs false
set_option linter.unusedSectionVars false
set_option linter.defProp false
namespace Go.Ev
open Go
section
variable {P : Program} {w0 : World} {S0 : Nat → Prop} {hb0 : List Nat} {xb : Option Nat} {st st' : St} {a : Act} {w w' : World} {S S' : Nat → Prop} {hb hb' : List Nat} {lb lb' : Nat → Option (Nat × Nat)} {N : Nm}

theorem LRep.lt {d : Nat} {o : LObj} (h : LRep w S hb N d o) {b cap : Nat} (e : N.lb d = some (b, cap)) : b < w.heap.size := by
  unfold LRep at h
  rw [e] at h
  simp only at h
  split at h
  · obtain ⟨s, p, _, _, h3, _⟩ := h
    exact (Array.getElem?_eq_some_iff.1 h3).1
  · obtain ⟨arr, h1, _⟩ := h
    exact (Array.getElem?_eq_some_iff.1 h1).1
theorem Stays.mem (H : Stays w w' S S' hb hb') {b : Nat} (h : b ∈ hb) : b ∈ hb' := by
  obtain ⟨i, hi⟩ := List.getElem?_of_mem h
  exact List.mem_of_getElem? (H.hb i b hi)

theorem Inv.step (I : Inv w0 S0 hb0 xb st a w S hb lb) (d : Nat)
    (H : Stays w w' S S' hb hb')
    (hos : w'.os = w.os) (htape : w'.tape = w.tape) (hout : w'.output = w.output) (hsize : w.heap.size ≤ w'.heap.size)
    (hT : ∀ b, b < w.heap.size → b ∉ hb → (∀ o c, st.loc.getD d none = some o → lb d = some (b, c) → False) → w'.heap[b]? = w.heap[b]? ∧ (S' b → S b))
    (hSlt : ∀ b, S' b → b < w'.heap.size)
    (hbn : ∀ b ∈ hb', b ∈ hb ∨ w.heap.size ≤ b)
    (hHR : HRep w' S' hb' st'.hp)
    (hfr : st'.fr = st.fr) (hlen : st'.loc.length = st.loc.length) (hgen : ∀ e, st.gen e ≤ st'.gen e)
    (hloc : ∀ e, e ≠ d → st'.loc.getD e none = st.loc.getD e none ∧ lb' e = lb e)
    (hd : ∀ o', st'.loc.getD d none = some o' → o'.g < st'.gen d ∧ (o'.g < st.gen d → ∃ o, st.loc.getD d none = some o ∧ o.g = o'.g ∧ o.sz = o'.sz ∧ o.xs.length = o'.xs.length ∧ (o.it = o'.it ∧ o.ty = o'.ty) ∧ lb d = lb' d) ∧
      ((nm st lb).le (nm st' lb') → LRep w' S' hb' (nm st' lb') d o') ∧
      (∀ b c, lb' d = some (b, c) → (w.heap.size ≤ b ∧ b ∉ hb') ∨ ∃ o c', st.loc.getD d none = some o ∧ lb d = some (b, c'))) :
    Inv w0 S0 hb0 xb st' a w' S' hb' lb' ∧ (nm st lb).le (nm st' lb') := by
  have K : (nm st lb).le (nm st' lb') := ⟨hgen, fun e o' h1 h2 => by
    by_cases he : e = d
    · subst he
      obtain ⟨o, k1, k2, k3, k4, k5, k6⟩ := (hd o' h1).2.1 h2
      exact ⟨o, k1, k2, k3, k4, k5, k6⟩
    · obtain ⟨g1, g2⟩ := hloc e he
      exact ⟨o', g1.symm.trans h1, rfl, rfl, rfl, ⟨rfl, rfl⟩, g2.symm⟩⟩
  have hlt : ∀ e o b c, st.loc.getD e none = some o → lb e = some (b, c) → b < w.heap.size := fun e o b c h1 h2 => (I.locs e o h1).lt h2
  have hfar : ∀ e, e ≠ d → ∀ o b c, st.loc.getD e none = some o → lb e = some (b, c) → w'.heap[b]? = w.heap[b]? ∧ (S' b → S b) := fun e he o b c h1 h2 =>
    hT b (hlt e o b c h1 h2) (I.lbhb e o b c h1 h2) fun o' c' k1 k2 => he (I.lbne e d o o' b c c' h1 k1 h2 k2)
  refine ⟨{ os := hos.trans I.os, tape := htape.trans I.tape, output := hout.trans I.output, size := Nat.le_trans I.size hsize, block := ?_, S0S := fun b h => H.sub b (I.S0S b h), Snew := ?_, Slt := hSlt, hb0hb := fun i b h => H.hb i b (I.hb0hb i b h), hbnew := ?_, lbnew := ?_, lbhb := ?_, lbne := ?_, gens := ?_, locs := ?_, heap := hHR, frlen := by rw [hfr]; exact I.frlen, loclen := by rw [hfr, hlen]; exact I.loclen, frame := ?_, defers := I.defers, x0 := ?_ }, K⟩
  · intro b h1 h2 h3
    rw [← I.block b h1 h2 h3]
    refine (hT b (Nat.lt_of_lt_of_le h1 I.size) (fun hm => ?_) fun o c k1 k2 => ?_).1
    · rcases I.hbnew b hm with g | g
      · exact h2 g
      · omega
    · rcases I.lbnew d o b c k1 k2 with g | g
      · omega
      · exact h3 g
  · intro b hb_
    by_cases h1 : b < w.heap.size
    · by_cases h2 : ∃ o c, st.loc.getD d none = some o ∧ lb d = some (b, c)
      · obtain ⟨o, c, k1, k2⟩ := h2
        exact .inr (I.lbnew d o b c k1 k2)
      · exact I.Snew b ((hT b h1 (fun hm => hHR.out b (H.mem hm) hb_) fun o c k1 k2 => h2 ⟨o, c, k1, k2⟩).2 hb_)
    · exact .inr (.inl (by have := I.size; omega))
  · intro b hm
    rcases hbn b hm with h | h
    · exact I.hbnew b h
    · exact .inr (Nat.le_trans I.size h)
  · intro e o b c h1 h2
    by_cases he : e = d
    · subst he
      rcases (hd o h1).2.2.2 b c h2 with ⟨h, _⟩ | ⟨o', c', k1, k2⟩
      · exact .inl (Nat.le_trans I.size h)
      · exact I.lbnew e o' b c' k1 k2
    · obtain ⟨g1, g2⟩ := hloc e he
      exact I.lbnew e o b c (by rw [← g1]; exact h1) (by rw [← g2]; exact h2)
  · intro e o b c h1 h2 hm
    have old : ∀ e o b c, st.loc.getD e none = some o → lb e = some (b, c) → b ∈ hb' → False := fun e o b c k1 k2 hm => by
      rcases hbn b hm with h | h
      · exact I.lbhb e o b c k1 k2 h
      · have := hlt e o b c k1 k2; omega
    by_cases he : e = d
    · subst he
      rcases (hd o h1).2.2.2 b c h2 with ⟨_, h⟩ | ⟨o', c', k1, k2⟩
      · exact h hm
      · exact old e o' b c' k1 k2 hm
    · obtain ⟨g1, g2⟩ := hloc e he
      exact old e o b c (by rw [← g1]; exact h1) (by rw [← g2]; exact h2) hm
  · have one : ∀ e o b c c', e ≠ d → st'.loc.getD e none = some o → lb' e = some (b, c) → (∃ o', st'.loc.getD d none = some o') → lb' d = some (b, c') → False := fun e o b c c' he h1 h2 h3 h4 => by
      obtain ⟨o', h3⟩ := h3
      obtain ⟨g1, g2⟩ := hloc e he
      rw [g1] at h1; rw [g2] at h2
      rcases (hd o' h3).2.2.2 b c' h4 with ⟨h, _⟩ | ⟨o'', c'', k1, k2⟩
      · have := hlt e o b c h1 h2; omega
      · exact he (I.lbne e d o o'' b c c'' h1 k1 h2 k2)
    intro e e' o o' b c c' h1 h2 h3 h4
    by_cases he : e = d
    · by_cases he' : e' = d
      · rw [he, he']
      · subst he
        exact (one e' o' b c' c he' h2 h4 ⟨o, h1⟩ h3).elim
    · by_cases he' : e' = d
      · subst he'
        exact (one e o b c c' he h1 h3 ⟨o', h2⟩ h4).elim
      · obtain ⟨g1, g2⟩ := hloc e he
        obtain ⟨g3, g4⟩ := hloc e' he'
        exact I.lbne e e' o o' b c c' (by rw [← g1]; exact h1) (by rw [← g3]; exact h2) (by rw [← g2]; exact h3) (by rw [← g4]; exact h4)
  · intro e o h1
    by_cases he : e = d
    · subst he; exact (hd o h1).1
    · obtain ⟨g1, g2⟩ := hloc e he
      exact Nat.lt_of_lt_of_le (I.gens e o (by rw [← g1]; exact h1)) (hgen e)
  · intro e o h1
    by_cases he : e = d
    · subst he; exact (hd o h1).2.2.1 K
    · obtain ⟨g1, g2⟩ := hloc e he
      have h1' : st.loc.getD e none = some o := by rw [← g1]; exact h1
      refine LRep_mono H K g2 (fun b c k => (hfar e he o b c h1' k).1) (fun b c k hn hs => hn ((hfar e he o b c h1' k).2 hs)) (I.locs e o h1')
  · intro i x hx
    rw [hfr] at hx
    obtain ⟨v, k1, k2⟩ := I.frame i x hx
    exact ⟨v, k1, frep_mono H K x v k2⟩
  · intro b hb_
    obtain ⟨h0, arr0, ty, h1, h2⟩ := I.x0 b hb_
    refine ⟨Nat.lt_of_lt_of_le h0 (hgen 0), arr0, ty, h1, fun o' ho hg => ?_⟩
    obtain ⟨o, k1, k2, k3, k4, k5, k6⟩ := K.loc 0 o' ho (by rw [hg]; exact h0)
    obtain ⟨g1, c, g2, g3⟩ := h2 o k1 (by rw [k2, hg])
    exact ⟨by rw [← k5.2]; exact g1, c, k6.symm.trans g2, by rw [← k3]; exact g3⟩

/-! ### The cells of rows -/
def RowsAt (w : World) (S : Nat → Prop) (hb : List Nat) (N : Nm) (frz : Bool) (sz : Nat) (xs : List (List AV)) (cs : List Value) : Prop :=
  ∀ i x, xs[i]? = some x → x.length = sz ∧ ∀ j y, x[j]? = some y → ∃ v, cs[i * sz + j]? = some v ∧ v.oneCell' = true ∧ isCell y = true ∧ srep w S hb N y v ∧ (frz = true → crep w S hb y v)
theorem RowsAt.nil {frz : Bool} {sz : Nat} {cs : List Value} : RowsAt w S hb N frz sz [] cs := fun i x h => by simp at h
theorem RowsAt.more {frz : Bool} {sz : Nat} {xs : List (List AV)} {cs : List Value} (h : RowsAt w S hb N frz sz xs cs) (ds : List Value) : RowsAt w S hb N frz sz xs (cs ++ ds) := fun i x hx => by
  refine ⟨(h i x hx).1, fun j y hy => ?_⟩
  obtain ⟨v, k1, k2⟩ := (h i x hx).2 j y hy
  exact ⟨v, by rw [List.getElem?_append_left (List.getElem?_eq_some_iff.1 k1).1]; exact k1, k2⟩
theorem RowsAt.take {frz : Bool} {sz : Nat} {xs : List (List AV)} {cs : List Value} (h : RowsAt w S hb N frz sz xs cs) : RowsAt w S hb N frz sz xs (cs.take (xs.length * sz)) := fun i x hx => by
  refine ⟨(h i x hx).1, fun j y hy => ?_⟩
  obtain ⟨v, k1, k2⟩ := (h i x hx).2 j y hy
  refine ⟨v, ?_, k2⟩
  rw [List.getElem?_take, if_pos ?_]
  · exact k1
  · have h1 := (List.getElem?_eq_some_iff.1 hx).1
    have h2 := (List.getElem?_eq_some_iff.1 hy).1
    rw [(h i x hx).1] at h2
    calc i * sz + j < i * sz + sz := by omega
      _ = (i + 1) * sz := by rw [Nat.succ_mul]
      _ ≤ xs.length * sz := Nat.mul_le_mul_right _ h1
theorem RowsAt.append {frz : Bool} {sz : Nat} {xs ys : List (List AV)} {cs ds : List Value} (h : RowsAt w S hb N frz sz xs cs) (hl : cs.length = xs.length * sz) (k : RowsAt w S hb N frz sz ys ds) : RowsAt w S hb N frz sz (xs ++ ys) (cs ++ ds) := fun i x hx => by
  by_cases hi : i < xs.length
  · rw [List.getElem?_append_left hi] at hx
    exact h.more ds i x hx
  · rw [List.getElem?_append_right (by omega)] at hx
    refine ⟨(k _ x hx).1, fun j y hy => ?_⟩
    obtain ⟨v, k1, k2⟩ := (k _ x hx).2 j y hy
    refine ⟨v, ?_, k2⟩
    have e : i * sz = xs.length * sz + (i - xs.length) * sz := by rw [← Nat.add_mul]; congr 1; omega
    rw [List.getElem?_append_right (by omega), show i * sz + j - cs.length = (i - xs.length) * sz + j by omega]
    exact k1
theorem RowsAt.one {sz : Nat} {x : List AV} {cs : List Value} (hl : x.length = sz) (h : srepL w S hb N x cs) : RowsAt w S hb N false sz [x] cs := fun i y hy => by
  cases i with
  | succ i => simp at hy
  | zero =>
    simp at hy; subst hy
    refine ⟨hl, fun j y hy => ?_⟩
    obtain ⟨v, k1, k2, k3, k4⟩ := srepL_get h j y hy
    exact ⟨v, by simpa using k1, k4, k3, k2, by simp⟩
theorem RowsAt.mono {frz : Bool} {sz : Nat} {xs : List (List AV)} {cs : List Value} {N' : Nm} (H : Stays w w' S S' hb hb') (K : N.le N') (h : RowsAt w S hb N frz sz xs cs) : RowsAt w' S' hb' N' frz sz xs cs := fun i x hx => by
  refine ⟨(h i x hx).1, fun j y hy => ?_⟩
  obtain ⟨v, k1, k2, k3, k4, k5⟩ := (h i x hx).2 j y hy
  exact ⟨v, k1, k2, k3, srep_mono H K y v k4, fun hf => crep_mono H y v (k5 hf)⟩
theorem LRep.rowsAt {d : Nat} {o : LObj} (h : LRep w S hb N d o) (hit : o.it = false) {b cap : Nat} (hl : N.lb d = some (b, cap)) : ∃ arr : Array Value, w.heap[b]? = some (.cells arr o.ty (0, 0)) ∧ arr.size = cap * o.sz ∧ o.xs.length ≤ cap ∧ cap ≤ maxLen ∧ RowsAt w S hb N o.frz o.sz o.xs arr.toList ∧ (if o.frz then S b else ¬ S b) := by
  obtain ⟨arr, h1, h2, h3, h4, h5, h6⟩ := h.row hit hl
  exact ⟨arr, h1, h2, h3, h4, fun i x hx => by simpa using h5 i x hx, h6⟩
theorem LRep.ofRows {d : Nat} {o : LObj} (hit : o.it = false) {b cap : Nat} (hl : N.lb d = some (b, cap)) {arr : Array Value} (h1 : w.heap[b]? = some (.cells arr o.ty (0, 0))) (h2 : arr.size = cap * o.sz) (h3 : o.xs.length ≤ cap) (h4 : cap ≤ maxLen) (h5 : RowsAt w S hb N o.frz o.sz o.xs arr.toList) (h6 : if o.frz then S b else ¬ S b) : LRep w S hb N d o := by
  unfold LRep
  rw [hl]
  simp only [hit, Bool.false_eq_true, if_false]
  exact ⟨arr, h1, h2, h3, h4, fun i x hx => by simpa using h5 i x hx, h6⟩

/-! ### A new object -/
def setlb (lb : Nat → Option (Nat × Nat)) (d : Nat) (q : Option (Nat × Nat)) : Nat → Option (Nat × Nat) := fun e => if e = d then q else lb e
theorem mk_loc {d : Nat} {it : Bool} {ty sz : Nat} {xs : List (List AV)} (e : Nat) : (st.mk_ d it ty sz xs).loc.getD e none = if e = d ∧ d < st.loc.length then some ⟨st.gen d, false, it, ty, sz, xs⟩ else st.loc.getD e none := by
  unfold St.mk_
  simp only [List.getD_eq_getElem?_getD, List.getElem?_set]
  by_cases he : e = d
  · subst he
    by_cases hl : e < st.loc.length
    · simp [hl]
    · simp [hl]
  · simp [he, Ne.symm he]
/-- The heap grows by blocks; one of them is the slot's object. -/
theorem Inv.new (I : Inv w0 S0 hb0 xb st a w S hb lb) (d : Nat) (it : Bool) (ty sz : Nat) (xs : List (List AV)) (q : Option (Nat × Nat))
    (hos : w'.os = w.os) (htape : w'.tape = w.tape) (hout : w'.output = w.output) (hsize : w.heap.size ≤ w'.heap.size) (hold : ∀ k, k < w.heap.size → w'.heap[k]? = w.heap[k]?)
    (hq : ∀ b c, q = some (b, c) → w.heap.size ≤ b)
    (hrep : Stays w w' S S hb hb → (nm st lb).le (nm (st.mk_ d it ty sz xs) (setlb lb d q)) → LRep w' S hb (nm (st.mk_ d it ty sz xs) (setlb lb d q)) d ⟨st.gen d, false, it, ty, sz, xs⟩) :
    Inv w0 S0 hb0 xb (st.mk_ d it ty sz xs) a w' S hb (setlb lb d q) ∧ (nm st lb).le (nm (st.mk_ d it ty sz xs) (setlb lb d q)) ∧ Stays w w' S S hb hb := by
  have H : Stays w w' S S hb hb := ⟨fun _ h => h, fun b h => hold b (I.Slt b h), fun _ _ h => h⟩
  have hhb : ∀ b ∈ hb, b < w.heap.size := fun b hm => by
    obtain ⟨i, hi⟩ := List.getElem?_of_mem hm
    have hl : i < st.hp.length := by rw [← I.heap.len]; exact (List.getElem?_eq_some_iff.1 hi).1
    obtain ⟨arr, ty, k1, _⟩ := I.heap.cells i b _ hi (List.getElem?_eq_getElem hl)
    exact (Array.getElem?_eq_some_iff.1 k1).1
  obtain ⟨I', K⟩ := I.step (st' := st.mk_ d it ty sz xs) (lb' := setlb lb d q) d H hos htape hout hsize (fun b h1 _ _ => ⟨hold b h1, fun h => h⟩) (fun b h => Nat.lt_of_lt_of_le (I.Slt b h) hsize) (fun b h => .inl h)
    (HRep_mono H (fun b hm => hold b (hhb b hm)) I.heap.out I.heap) rfl (by simp [St.mk_]) (fun e => by show st.gen e ≤ bump st.gen d e; unfold bump; split <;> omega)
    (fun e he => ⟨by rw [mk_loc]; simp [he], by simp [setlb, he]⟩)
    (fun o' h => by
      rw [mk_loc] at h
      split at h
      · rename_i hl
        simp only [Option.some.injEq] at h; subst h
        refine ⟨by show st.gen d < bump st.gen d d; simp [bump], fun h => absurd h (Nat.lt_irrefl _), fun K => hrep H K, fun b c e => .inl ⟨hq b c (by simpa [setlb] using e), fun hm => ?_⟩⟩
        have := hq b c (by simpa [setlb] using e)
        have := hhb b hm
        omega
      · rename_i hl
        exfalso
        have : ¬ d < st.loc.length := fun hh => hl ⟨rfl, hh⟩
        rw [List.getD_eq_getElem?_getD, List.getElem?_eq_none (by omega)] at h
        simp at h)
  exact ⟨I', K, H⟩
end
end Go.Ev
