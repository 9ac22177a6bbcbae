/- The abstract interpreter: new objects. -/
import Derived.Test.YtikedmiioonjiaaDoorEvH
set_option linter.unusedVariables false
set_option linter.unusedSimpArgs false
set_option linter.unusedSectionVars false
set_option linter.defProp false
namespace Go.Ev
open Go
section
variable {P : Program} {w0 : World} {S0 : Nat → Prop} {hb0 : List Nat} {xb : Option Nat} {st st' : St} {a : Act} {w w' : World} {S S' : Nat → Prop} {hb hb' : List Nat} {lb lb' : Nat → Option (Nat × Nat)} {N : Nm}

theorem giveC1_ok (I : Inv w0 S0 hb0 xb st a w S hb lb) {x y : AV} {v : Value} (hx : frep w S hb (nm st lb) x v) (h : giveC1 st x = some (y, st')) :
    ∃ S', Inv w0 S0 hb0 xb st' a w S' hb lb ∧ Stays w w S S' hb hb ∧ (nm st lb).le (nm st' lb) ∧ crep w S' hb y v := by
  unfold giveC1 at h
  split at h
  · rename_i d g i off
    split at h
    · rename_i hi
      obtain ⟨rfl, rfl⟩ := hi
      split at h
      · rename_i o e
        split at h
        · cases h
        · rename_i hit
          have hit : o.it = false := by simpa using hit
          split at h
          · rename_i cs hcs
            split at h
            · rename_i q hq
              split at h
              · rename_i o2 e2
                split at h
                · rename_i hc
                  obtain ⟨c1, c2, c3⟩ := hc
                  simp only [Option.some.injEq, Prod.mk.injEq] at h
                  obtain ⟨rfl, rfl⟩ := h
                  rw [frep_eq (by rfl)] at hx
                  obtain ⟨k1, k2⟩ := lobj_some.1 e
                  obtain ⟨b, cap, hl, hv⟩ := hx.2 o k1 k2
                  obtain ⟨arr, g1, g2, g3, g4, g5, g6⟩ := (I.locs d o k1).rowsAt hit (N := nm st lb) hl
                  -- the cells as they lie
                  have hrow : srepL w S hb (nm st lb) cs (arr.toList.take o.sz) := by
                    have h0 := g5 0 cs (by rw [hcs]; rfl)
                    refine srepL_of ?_ ?_
                    · rw [List.length_take, h0.1, Array.length_toList, g2]
                      have : 1 ≤ cap := by rw [hcs] at g3; simpa using g3
                      exact Nat.min_eq_left (Nat.le_mul_of_pos_left _ this)
                    · intro j y u hy hu
                      obtain ⟨u', m1, m2, m3, m4, m5⟩ := h0.2 j y hy
                      rw [List.getElem?_take] at hu
                      split at hu
                      · simp only [Nat.zero_mul, Nat.zero_add] at m1
                        have : u' = u := Option.some.inj (m1.symm.trans hu)
                        subst this
                        exact ⟨m4, m3, m2⟩
                      · cases hu
                  obtain ⟨S1, I1, H1, K1, r1, r2, r3⟩ := giveL_ok I hrow (ys := q.1) (st' := q.2) hq
                  obtain ⟨k3, k4⟩ := lobj_some.1 e2
                  obtain ⟨oo, j1, j2, j3, j4, j5, j6⟩ := K1.loc d o2 k3 (by rw [k4, ← k2]; exact I.gens d o k1)
                  have : oo = o := Option.some.inj (j1.symm.trans k1)
                  subst this
                  have hql : q.1.length = o2.sz := by rw [c3, ← crepL_len r1, srepL_len hrow]
                  obtain ⟨arr', n1, n2, n3, n4, n5, n6⟩ := (I1.locs d o2 k3).rowsAt c1 (N := nm q.2 lb) hl
                  have harr : arr' = arr := by
                    rw [g1] at n1
                    simp only [Option.some.injEq, Obj.cells.injEq] at n1
                    exact n1.1.symm
                  subst harr
                  have hnew : RowsAt w S1 hb (nm q.2 lb) true o2.sz [q.1] arr'.toList := fun i x hx => by
                    cases i with
                    | succ i => simp at hx
                    | zero =>
                      simp at hx; subst hx
                      refine ⟨hql, fun j y hy => ?_⟩
                      obtain ⟨u, p1, p2⟩ := crepL_get r1 j y hy
                      have p1' : arr'.toList[j]? = some u := by
                        rw [List.getElem?_take] at p1
                        split at p1
                        · exact p1
                        · cases p1
                      exact ⟨u, by simpa using p1', r3 u (List.mem_of_getElem? p1), clean1_isCell (r2 y (List.mem_of_getElem? hy)), crep_srep p2, fun _ => p2⟩
                  obtain ⟨I2, K2⟩ := I1.freeze (o' := { o2 with frz := true, xs := [q.1] }) k3 c1 ⟨rfl, rfl, c1, rfl, rfl, by rw [c2]; rfl⟩ (fun b2 cap2 arr2 hl2 hg2 _ => by
                    have h2 : b2 = b := (Prod.mk.inj (Option.some.inj (hl2.symm.trans hl))).1
                    subst h2
                    rw [n1] at hg2
                    simp only [Option.some.injEq, Obj.cells.injEq] at hg2
                    rw [← hg2.1]
                    exact hnew)
                  refine ⟨_, I2, H1.trans (stays_plus _), Nm.le_trans K1 K2, ?_⟩
                  rw [crep]
                  refine ⟨b, 0, by rw [hv]; simp, .inr ⟨cap, hl⟩, crepAt_of fun j y hy => ?_⟩
                  obtain ⟨u, p1, p2, p3, p4, p5⟩ := (hnew 0 q.1 rfl).2 j y hy
                  refine ⟨u, ?_, p2, crep_mono (stays_plus _) _ _ (p5 rfl)⟩
                  rw [cell_of g1, Nat.zero_add]
                  simpa using p1
                · cases h
              · cases h
            · cases h
          · cases h
      · cases h
    · cases h
  · split at h
    · rename_i hc
      simp only [Option.some.injEq, Prod.mk.injEq] at h
      obtain ⟨rfl, rfl⟩ := h
      have hn : notAgg x = true := by cases x <;> first | rfl | simp [clean1] at hc
      rw [frep_eq hn] at hx
      exact ⟨S, I, Stays.refl _ _ _, Nm.le_refl _, srep_crep hc hx⟩
    · cases h
theorem giveC_ok : ∀ {st st' : St} {S : Nat → Prop} {xs ys : List AV} {vs : List Value}, Inv w0 S0 hb0 xb st a w S hb lb → frepL w S hb (nm st lb) xs vs → giveC st xs = some (ys, st') →
    ∃ S', Inv w0 S0 hb0 xb st' a w S' hb lb ∧ Stays w w S S' hb hb ∧ (nm st lb).le (nm st' lb) ∧ crepL w S' hb ys vs
  | st, st', S, [], ys, vs, I, hx, h => by
    simp only [giveC, Option.some.injEq, Prod.mk.injEq] at h
    obtain ⟨rfl, rfl⟩ := h
    cases hx
    exact ⟨S, I, Stays.refl _ _ _, Nm.le_refl _, by rw [crepL]⟩
  | st, st', S, x :: xs, ys, vs, I, ⟨u, us, e, hx, hxs⟩, h => by
    subst e
    simp only [giveC] at h
    split at h
    · rename_i r hr
      split at h
      · rename_i q hq
        simp only [Option.some.injEq, Prod.mk.injEq] at h
        obtain ⟨rfl, rfl⟩ := h
        obtain ⟨S1, I1, H1, K1, c1⟩ := giveC1_ok I hx (y := r.1) (st' := r.2) hr
        obtain ⟨S2, I2, H2, K2, c2⟩ := giveC_ok I1 (frepL_mono H1 K1 hxs) (ys := q.1) (st' := q.2) hq
        refine ⟨S2, I2, H1.trans H2, Nm.le_trans K1 K2, ?_⟩
        rw [crepL]; exact ⟨u, us, rfl, crep_mono H2 _ _ c1, c2⟩
      · cases h
    · cases h
end
end Go.Ev
