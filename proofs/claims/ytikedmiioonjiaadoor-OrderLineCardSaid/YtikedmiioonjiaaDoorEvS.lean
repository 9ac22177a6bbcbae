/- The abstract interpreter: what an operation hangs on. -/
import Derived.Test.YtikedmiioonjiaaDoorEvR
set_option linter.unusedVariables false
set_option linter.unusedSimpArgs false
set_option linter.unusedSectionVars false
set_option linter.defProp false
namespace Go.Ev
open Go

/-- Two states that agree at the slots. -/
structure Par (sl : List Nat) (s s2 : St) : Prop where
  len : s2.loc.length = s.loc.length
  loc : ∀ d ∈ sl, s2.loc.getD d none = s.loc.getD d none
  gen : ∀ d ∈ sl, s2.gen d = s.gen d
/-- Nothing is changed but at the slots. -/
structure Rest (sl : List Nat) (s s1 : St) : Prop where
  fr : s1.fr = s.fr
  len : s1.loc.length = s.loc.length
  loc : ∀ d, d ∉ sl → s1.loc.getD d none = s.loc.getD d none
  gen : ∀ d, d ∉ sl → s1.gen d = s.gen d
section
variable {sl : List Nat} {s s1 s2 s3 : St}
theorem Rest.refl (sl : List Nat) (s : St) : Rest sl s s := ⟨rfl, rfl, fun _ _ => rfl, fun _ _ => rfl⟩
theorem Rest.trans (h : Rest sl s s1) (k : Rest sl s1 s2) : Rest sl s s2 :=
  ⟨k.fr.trans h.fr, k.len.trans h.len, fun d hd => (k.loc d hd).trans (h.loc d hd), fun d hd => (k.gen d hd).trans (h.gen d hd)⟩
theorem Par.lobj (h : Par sl s s2) {d g : Nat} (hd : d ∈ sl) : s2.lobj d g = s.lobj d g := by
  unfold St.lobj
  rw [h.loc d hd]
/-- A step that only touches the slots, and leaves the heap objects: the same from both. -/
def Same (sl : List Nat) (s s2 s1 s3 : St) : Prop := Par sl s1 s3 ∧ Rest sl s s1 ∧ Rest sl s2 s3 ∧ s1.hp = s.hp ∧ s3.hp = s2.hp
theorem Same.refl (h : Par sl s s2) : Same sl s s2 s s2 := ⟨h, .refl _ _, .refl _ _, rfl, rfl⟩
theorem Same.trans {t1 t3 : St} (h : Same sl s s2 s1 s3) (k : Same sl s1 s3 t1 t3) : Same sl s s2 t1 t3 :=
  ⟨k.1, h.2.1.trans k.2.1, h.2.2.1.trans k.2.2.1, k.2.2.2.1.trans h.2.2.2.1, k.2.2.2.2.trans h.2.2.2.2⟩
theorem Same.set (h : Par sl s s2) {d : Nat} (hd : d ∈ sl) (q : Option LObj) {f f2 : Nat → Nat} (hf : ∀ e, e ∈ sl → f2 e = f e) (hr : ∀ e, e ∉ sl → f e = s.gen e ∧ f2 e = s2.gen e) :
    Same sl s s2 { s with loc := s.loc.set d q, gen := f } { s2 with loc := s2.loc.set d q, gen := f2 } := by
  refine ⟨⟨by simp [h.len], fun e he => ?_, hf⟩, ⟨rfl, by simp, fun e he => ?_, fun e he => (hr e he).1⟩, ⟨rfl, by simp, fun e he => ?_, fun e he => (hr e he).2⟩, rfl, rfl⟩
  · show (s2.loc.set d q).getD e none = (s.loc.set d q).getD e none
    have := h.loc e he
    simp only [List.getD_eq_getElem?_getD, List.getElem?_set] at this ⊢
    by_cases hde : d = e
    · subst hde; rw [if_pos rfl, if_pos rfl, h.len]
    · rw [if_neg hde, if_neg hde]; exact this
  · show (s.loc.set d q).getD e none = _
    have hde : d ≠ e := fun hh => he (hh ▸ hd)
    simp only [List.getD_eq_getElem?_getD, List.getElem?_set, if_neg hde]
  · show (s2.loc.set d q).getD e none = _
    have hde : d ≠ e := fun hh => he (hh ▸ hd)
    simp only [List.getD_eq_getElem?_getD, List.getElem?_set, if_neg hde]
theorem Same.setg (h : Par sl s s2) {d : Nat} (hd : d ∈ sl) (q : Option LObj) : Same sl s s2 { s with loc := s.loc.set d q } { s2 with loc := s2.loc.set d q } :=
  Same.set (f := s.gen) (f2 := s2.gen) h hd q h.gen (fun _ _ => ⟨rfl, rfl⟩)
theorem bump_par (h : Par sl s s2) {d : Nat} (hd : d ∈ sl) : (∀ e, e ∈ sl → bump s2.gen d e = bump s.gen d e) ∧ (∀ e, e ∉ sl → bump s.gen d e = s.gen e ∧ bump s2.gen d e = s2.gen e) := by
  refine ⟨fun e he => ?_, fun e he => ?_⟩
  · unfold bump; rw [h.gen e he]
  · have hde : ¬ e = d := fun hh => he (hh ▸ hd)
    simp [bump, hde]
theorem Same.mk (h : Par sl s s2) {d : Nat} (hd : d ∈ sl) (it : Bool) (ty sz : Nat) (xs : List (List AV)) : Same sl s s2 (s.mk_ d it ty sz xs) (s2.mk_ d it ty sz xs) := by
  obtain ⟨h1, h2⟩ := bump_par h hd
  have := Same.set h hd (some ⟨s.gen d, false, it, ty, sz, xs⟩) h1 h2
  unfold St.mk_
  rw [h.gen d hd]
  exact this

theorem give1_T (h : Par sl s s2) {x y : AV} (hx : ∀ d ∈ refC x, d ∈ sl) (e : give1 s x = some (y, s1)) : ∃ s3, give1 s2 x = some (y, s3) ∧ Same sl s s2 s1 s3 := by
  unfold give1 at e ⊢
  split at e
  · rename_i d g
    have hd : d ∈ sl := hx d (by simp [refC])
    simp only [h.lobj hd]
    split at e
    · rename_i o ho
      try simp only [ho]
      split at e
      · rename_i hc
        rw [if_pos hc]
        simp only [Option.some.injEq, Prod.mk.injEq] at e
        obtain ⟨rfl, rfl⟩ := e
        exact ⟨_, rfl, .setg h hd _⟩
      · cases e
    · cases e
  · simp only [Option.some.injEq, Prod.mk.injEq] at e
    obtain ⟨rfl, rfl⟩ := e
    exact ⟨_, rfl, .refl h⟩
  · split at e
    · rename_i hc
      simp only [Option.some.injEq, Prod.mk.injEq] at e
      obtain ⟨rfl, rfl⟩ := e
      exact ⟨s2, by simp [hc], .refl h⟩
    · cases e
theorem giveL_T : ∀ {xs ys : List AV} {s s2 s1 : St}, Par sl s s2 → (∀ d ∈ xs.flatMap refC, d ∈ sl) → giveL s xs = some (ys, s1) → ∃ s3, giveL s2 xs = some (ys, s3) ∧ Same sl s s2 s1 s3
  | [], ys, s, s2, s1, h, _, e => by
    simp only [giveL, Option.some.injEq, Prod.mk.injEq] at e
    obtain ⟨rfl, rfl⟩ := e
    exact ⟨_, rfl, .refl h⟩
  | x :: xs, ys, s, s2, s1, h, hx, e => by
    simp only [List.flatMap_cons, List.mem_append] at hx
    simp only [giveL] at e ⊢
    split at e
    · rename_i r hr
      obtain ⟨t, e1, e2⟩ := give1_T h (fun d hd => hx d (.inl hd)) (y := r.1) (s1 := r.2) hr
      split at e
      · rename_i q hq
        obtain ⟨t', e3, e4⟩ := giveL_T e2.1 (fun d hd => hx d (.inr hd)) (ys := q.1) (s1 := q.2) hq
        simp only [Option.some.injEq, Prod.mk.injEq] at e
        obtain ⟨rfl, rfl⟩ := e
        simp only [e1, e3]
        exact ⟨_, rfl, e2.trans e4⟩
      · cases e
    · cases e
theorem giveV_T (h : Par sl s s2) {x y : AV} (hx : ∀ d ∈ refs x, d ∈ sl) (e : giveV s x = some (y, s1)) : ∃ s3, giveV s2 x = some (y, s3) ∧ Same sl s s2 s1 s3 := by
  unfold giveV at e ⊢
  split at e
  · rename_i cs
    split at e
    · rename_i q hq
      obtain ⟨t, e1, e2⟩ := giveL_T h (fun d hd => hx d hd) (ys := q.1) (s1 := q.2) hq
      simp only [Option.some.injEq, Prod.mk.injEq] at e
      obtain ⟨rfl, rfl⟩ := e
      simp only [e1]
      exact ⟨_, rfl, e2⟩
    · cases e
  · rename_i hne
    obtain ⟨t, e1, e2⟩ := give1_T h (fun d hd => hx d (by cases x <;> first | exact hd | exact (hne _ rfl).elim)) e
    refine ⟨t, ?_, e2⟩
    exact e1
theorem giveA_T : ∀ {xs ys : List AV} {s s2 s1 : St}, Par sl s s2 → (∀ d ∈ xs.flatMap refs, d ∈ sl) → giveA s xs = some (ys, s1) → ∃ s3, giveA s2 xs = some (ys, s3) ∧ Same sl s s2 s1 s3
  | [], ys, s, s2, s1, h, _, e => by
    simp only [giveA, Option.some.injEq, Prod.mk.injEq] at e
    obtain ⟨rfl, rfl⟩ := e
    exact ⟨_, rfl, .refl h⟩
  | x :: xs, ys, s, s2, s1, h, hx, e => by
    simp only [List.flatMap_cons, List.mem_append] at hx
    simp only [giveA] at e ⊢
    split at e
    · rename_i r hr
      obtain ⟨t, e1, e2⟩ := giveV_T h (fun d hd => hx d (.inl hd)) (y := r.1) (s1 := r.2) hr
      split at e
      · rename_i q hq
        obtain ⟨t', e3, e4⟩ := giveA_T e2.1 (fun d hd => hx d (.inr hd)) (ys := q.1) (s1 := q.2) hq
        simp only [Option.some.injEq, Prod.mk.injEq] at e
        obtain ⟨rfl, rfl⟩ := e
        simp only [e1, e3]
        exact ⟨_, rfl, e2.trans e4⟩
      · cases e
    · cases e
theorem okCells_T (h : Par sl s s2) {x : AV} (hx : ∀ d ∈ refs x, d ∈ sl) : okCells s2 x = okCells s x := by
  cases x <;> try rfl
  case lrow d g => simp only [okCells, h.lobj (hx d (by simp [refs, refC]))]
theorem elemsOf_T (h : Par sl s s2) {x : AV} (hx : ∀ d ∈ refs x, d ∈ sl) : elemsOf s2 x = elemsOf s x := by
  cases x <;> try rfl
  case lrow d g => simp only [elemsOf, h.lobj (hx d (by simp [refs, refC]))]
theorem lenA_T (h : Par sl s s2) {x : AV} (hx : ∀ d ∈ refs x, d ∈ sl) : lenA s2 x = lenA s x := by
  cases x <;> try rfl
  case lrow d g => simp only [lenA, h.lobj (hx d (by simp [refs, refC]))]
theorem fillA_T (h : Par sl s s2) (place : Nat → Option (Nat × Nat)) : ∀ {ps : List (Nat × AV)} {cells : List AV}, (∀ d ∈ ps.flatMap (fun p => refs p.2), d ∈ sl) → fillA s2 place cells ps = fillA s place cells ps
  | [], _, _ => rfl
  | (k, v) :: ps, cells, hx => by
    simp only [List.flatMap_cons, List.mem_append] at hx
    simp only [fillA, okCells_T h (fun d hd => hx d (.inl hd))]
    split
    · split
      · exact fillA_T h place (fun d hd => hx d (.inr hd))
      · rfl
    · rfl
theorem appendA_T (h : Par sl s s2) {e : TypeId} {i : TI} {d : Nat} {x : AV} {ys : List (List AV)} (hd : d ∈ sl) (hx : ∀ d ∈ refs x, d ∈ sl) {v : AV} (hh : appendA e i s d x ys = some (.val v s1)) : ∃ s3, appendA e i s2 d x ys = some (.val v s3) ∧ Same sl s s2 s1 s3 := by
  unfold appendA at hh ⊢
  split at hh
  · cases hh
  · rename_i hz
    rw [if_neg hz]
    split at hh
    · split at hh
      · rename_i hc
        simp only [Option.some.injEq, Out.val.injEq] at hh
        obtain ⟨rfl, rfl⟩ := hh
        rw [if_pos hc]
        exact ⟨_, by rw [h.gen d hd], .mk h hd _ _ _ _⟩
      · cases hh
    · rename_i k g
      have hk : k ∈ sl := hx k (by simp [refs, refC])
      simp only [h.lobj hk]
      split at hh
      · rename_i o ho
        try simp only [ho]
        split at hh
        · cases hh
        · rename_i hno
          rw [if_neg hno]
          split at hh
          · rename_i hc
            rw [if_pos hc]
            simp only [Option.some.injEq, Out.val.injEq] at hh
            obtain ⟨rfl, rfl⟩ := hh
            obtain ⟨b1, b2⟩ := bump_par h hk
            have := Same.set h hk (some { o with g := s.gen k, xs := o.xs ++ ys }) b1 b2
            exact ⟨_, by rw [h.gen k hk], this⟩
          · cases hh
      · cases hh
    · cases hh
end
end Go.Ev
