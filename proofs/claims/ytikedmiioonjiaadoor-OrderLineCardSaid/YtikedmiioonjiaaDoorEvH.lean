/- The abstract interpreter: what is given away stays as it is. -/
import Derived.Test.YtikedmiioonjiaaDoorEvG
set_option linter.unusedVariables false
set_option linter.unusedSimpArgs false
set_option linter.unusedSectionVars false
set_option linter.defProp false
namespace Go.Ev
open Go
section
variable {P : Program} {w0 : World} {S0 : Nat → Prop} {hb0 : List Nat} {xb : Option Nat} {st st' : St} {a : Act} {w w' : World} {S S' : Nat → Prop} {hb hb' : List Nat} {lb lb' : Nat → Option (Nat × Nat)} {N : Nm}

theorem set_loc {st : St} {d : Nat} {q : Option LObj} (e : Nat) : ({ st with loc := st.loc.set d q } : St).loc.getD e none = if e = d ∧ d < st.loc.length then q else st.loc.getD e none := by
  simp only [List.getD_eq_getElem?_getD, List.getElem?_set]
  by_cases he : e = d
  · subst he
    by_cases hl : e < st.loc.length
    · simp [hl]
    · simp [hl]
  · simp [he, Ne.symm he]
theorem loc_lt {st : St} {d : Nat} {o : LObj} (h : st.loc.getD d none = some o) : d < st.loc.length := by
  rcases Nat.lt_or_ge d st.loc.length with h' | h'
  · exact h'
  · rw [List.getD_eq_getElem?_getD, List.getElem?_eq_none h'] at h; simp at h

theorem crepR_of_RowsAt {frz : Bool} {sz b : Nat} {xs : List (List AV)} {arr : Array Value} {ty : TypeId} (hb_ : w.heap[b]? = some (.cells arr ty (0, 0))) (h : RowsAt w S hb N frz sz xs arr.toList) (hc : ∀ x ∈ xs, ∀ y ∈ x, clean1 y = true) : crepR w S hb sz b xs 0 :=
  crepR_of fun i x hx => ⟨(h i x hx).1, crepAt_of fun j y hy => by
    obtain ⟨v, k1, k2, k3, k4, k5⟩ := (h i x hx).2 j y hy
    refine ⟨v, ?_, k2, srep_crep (hc x (List.mem_of_getElem? hx) y (List.mem_of_getElem? hy)) k4⟩
    rw [cell_of hb_, Nat.zero_add]
    simpa using k1⟩
theorem RowsAt.cleaned {sz : Nat} {xs : List (List AV)} {cs : List Value} {frz : Bool} (h : RowsAt w S hb N frz sz xs cs) (hc : ∀ x ∈ xs, ∀ y ∈ x, clean1 y = true) : RowsAt w S hb N true sz xs cs := fun i x hx => by
  refine ⟨(h i x hx).1, fun j y hy => ?_⟩
  obtain ⟨v, k1, k2, k3, k4, k5⟩ := (h i x hx).2 j y hy
  exact ⟨v, k1, k2, k3, k4, fun _ => srep_crep (hc x (List.mem_of_getElem? hx) y (List.mem_of_getElem? hy)) k4⟩

/-- The block of a local object joins those that stay. -/
def plusS (S : Nat → Prop) (q : Option (Nat × Nat)) : Nat → Prop := fun b => S b ∨ ∃ c, q = some (b, c)
theorem stays_plus (q : Option (Nat × Nat)) : Stays w w S (plusS S q) hb hb := ⟨fun _ h => .inl h, fun _ _ => rfl, fun _ _ h => h⟩
/-- A local object is frozen (its cells replaced by what they are outside of the frame). -/
theorem Inv.freeze (I : Inv w0 S0 hb0 xb st a w S hb lb) {d : Nat} {o o' : LObj} (e : st.loc.getD d none = some o) (hit : o.it = false)
    (ho : o'.g = o.g ∧ o'.frz = true ∧ o'.it = false ∧ o'.ty = o.ty ∧ o'.sz = o.sz ∧ o'.xs.length = o.xs.length)
    (hrep : ∀ (b c : Nat) (arr : Array Value), lb d = some (b, c) → w.heap[b]? = some (.cells arr o.ty (0, 0)) → RowsAt w S hb (nm st lb) o.frz o.sz o.xs arr.toList → RowsAt w S hb (nm st lb) true o.sz o'.xs arr.toList) :
    Inv w0 S0 hb0 xb { st with loc := st.loc.set d (some o') } a w (plusS S (lb d)) hb lb ∧ (nm st lb).le (nm { st with loc := st.loc.set d (some o') } lb) := by
  obtain ⟨o1, o2, o3, o4, o5, o6⟩ := ho
  have hlen := loc_lt e
  have hblk : ∀ b c, lb d = some (b, c) → b < w.heap.size := fun b c h => (I.locs d o e).lt h
  refine I.step (st' := { st with loc := st.loc.set d (some o') }) d (stays_plus _) rfl rfl rfl (Nat.le_refl _) ?_ ?_ (fun b h => .inl h) ?_ rfl (by simp) (fun _ => Nat.le_refl _) ?_ ?_
  · intro b _ _ hne
    refine ⟨rfl, fun h => ?_⟩
    rcases h with h | ⟨c, h⟩
    · exact h
    · exact (hne o c e h).elim
  · intro b h
    rcases h with h | ⟨c, h⟩
    · exact I.Slt b h
    · exact hblk b c h
  · refine HRep_mono (stays_plus _) (fun _ _ => rfl) (fun b hm h => ?_) I.heap
    rcases h with h | ⟨c, h⟩
    · exact I.heap.out b hm h
    · exact I.lbhb d o b c e h hm
  · intro k hk
    exact ⟨by rw [set_loc]; simp [hk], rfl⟩
  · intro o'' h
    rw [set_loc, if_pos ⟨rfl, hlen⟩] at h
    simp only [Option.some.injEq] at h; subst h
    refine ⟨by rw [o1]; exact I.gens d o e, fun _ => ⟨o, e, o1.symm, o5.symm, o6.symm, ⟨by rw [hit, o3], o4.symm⟩, rfl⟩, fun K => ?_, fun b c h => .inr ⟨o, c, e, h⟩⟩
    cases hl : lb d with
    | none =>
      have := I.locs d o e
      unfold LRep at this ⊢
      simp only [hl] at this ⊢
      have h0 : o'.xs = [] := List.eq_nil_of_length_eq_zero (by rw [o6, this.1]; rfl)
      exact ⟨h0, o3⟩
    | some bc =>
      obtain ⟨b, cap⟩ := bc
      obtain ⟨arr, h1, h2, h3, h4, h5, h6⟩ := (I.locs d o e).rowsAt hit (N := nm st lb) hl
      refine LRep.ofRows (b := b) (cap := cap) o3 (by simpa using hl) (arr := arr) (by rw [o4]; exact h1) (by rw [o5]; exact h2) (by rw [o6]; exact h3) h4 ?_ ?_
      · rw [o2, o5]
        exact (hrep b cap arr hl h1 h5).mono (stays_plus (w := w) (S := S) (hb := hb) (some (b, cap))) K
      · rw [if_pos o2]; exact .inr ⟨cap, rfl⟩

/-- A row of the frame's own, frozen: as it is outside. -/
theorem Inv.freezeRow (I : Inv w0 S0 hb0 xb st a w S hb lb) {d g : Nat} {o : LObj} (e : st.lobj d g = some o) (hit : o.it = false) (hc : ∀ x ∈ o.xs, ∀ y ∈ x, clean1 y = true) {v : Value} (hv : srep w S hb (nm st lb) (.lrow d g) v) :
    Inv w0 S0 hb0 xb { st with loc := st.loc.set d (some { o with frz := true }) } a w (plusS S (lb d)) hb lb ∧ (nm st lb).le (nm { st with loc := st.loc.set d (some { o with frz := true }) } lb) ∧ crep w (plusS S (lb d)) hb (.rows false o.xs) v := by
  obtain ⟨e1, e2⟩ := lobj_some.1 e
  obtain ⟨I', K⟩ := I.freeze (o' := { o with frz := true }) e1 hit ⟨rfl, rfl, hit, rfl, rfl, rfl⟩ (fun _ _ arr _ _ h => h.cleaned hc)
  refine ⟨I', K, ?_⟩
  obtain ⟨A, c, k1, k2⟩ := hv.2 o e1 e2 hit
  rw [crep]
  cases hl : lb d with
  | none =>
    have := I.locs d o e1
    unfold LRep at this
    simp only [hl] at this
    rw [this.1] at k1 ⊢
    exact ⟨A, c, k1, Nat.zero_le _, by simp, by simp⟩
  | some bc =>
    obtain ⟨b, cap⟩ := bc
    simp only [hl] at k2
    obtain ⟨rfl, rfl⟩ := k2
    obtain ⟨arr, h1, h2, h3, h4, h5, h6⟩ := (I.locs d o e1).rowsAt hit (N := nm st lb) hl
    exact ⟨_, _, k1, h3, by simp, fun _ => ⟨b, 0, o.sz, rfl, .inr ⟨_, rfl⟩, crepR_of_RowsAt h1 (h5.mono (stays_plus (w := w) (S := S) (hb := hb) (some (b, c))) K) hc⟩⟩
theorem give1_ok (I : Inv w0 S0 hb0 xb st a w S hb lb) {x y : AV} {v : Value} (hx : srep w S hb (nm st lb) x v) (h : give1 st x = some (y, st')) :
    ∃ S', Inv w0 S0 hb0 xb st' a w S' hb lb ∧ Stays w w S S' hb hb ∧ (nm st lb).le (nm st' lb) ∧ crep w S' hb y v ∧ clean1 y = true ∧ v.oneCell' = true := by
  have plain : clean1 x = true → y = x → st' = st → ∃ S', Inv w0 S0 hb0 xb st' a w S' hb lb ∧ Stays w w S S' hb hb ∧ (nm st lb).le (nm st' lb) ∧ crep w S' hb y v ∧ clean1 y = true ∧ v.oneCell' = true := fun hc e1 e2 => by
    subst e1 e2
    exact ⟨S, I, Stays.refl _ _ _, Nm.le_refl _, srep_crep hc hx, hc, clean1_one hc (srep_crep hc hx)⟩
  unfold give1 at h
  split at h
  · rename_i d g
    split at h
    · rename_i o e
      split at h
      · rename_i hc
        simp only [Option.some.injEq, Prod.mk.injEq] at h
        obtain ⟨rfl, rfl⟩ := h
        obtain ⟨I', K, k⟩ := I.freezeRow e hc.1 (fun x hx y hy => (List.all_eq_true.1 (List.all_eq_true.1 hc.2 x hx)) y hy) hx
        exact ⟨_, I', stays_plus _, K, k, rfl, clean1_one (x := .rows false o.xs) rfl k⟩
      · cases h
    · cases h
  · rename_i full xs
    simp only [Option.some.injEq, Prod.mk.injEq] at h
    obtain ⟨rfl, rfl⟩ := h
    have hx' : crep w S hb (.rows full xs) v := hx
    rw [crep] at hx'
    obtain ⟨A, c, k1, k2, k3, k4⟩ := hx'
    have hk : crep w S hb (.rows false xs) v := by rw [crep]; exact ⟨A, c, k1, k2, by simp, k4⟩
    exact ⟨S, I, Stays.refl _ _ _, Nm.le_refl _, hk, rfl, clean1_one rfl hk⟩
  · split at h
    · rename_i hc
      simp only [Option.some.injEq, Prod.mk.injEq] at h
      exact plain hc h.1.symm h.2.symm
    · cases h
theorem giveL_ok : ∀ {st st' : St} {S : Nat → Prop} {xs ys : List AV} {vs : List Value}, Inv w0 S0 hb0 xb st a w S hb lb → srepL w S hb (nm st lb) xs vs → giveL st xs = some (ys, st') →
    ∃ S', Inv w0 S0 hb0 xb st' a w S' hb lb ∧ Stays w w S S' hb hb ∧ (nm st lb).le (nm st' lb) ∧ crepL w S' hb ys vs ∧ (∀ y ∈ ys, clean1 y = true) ∧ ∀ u ∈ vs, u.oneCell' = true
  | st, st', S, [], ys, vs, I, hx, h => by
    simp only [giveL, Option.some.injEq, Prod.mk.injEq] at h
    obtain ⟨rfl, rfl⟩ := h
    cases hx
    exact ⟨S, I, Stays.refl _ _ _, Nm.le_refl _, by rw [crepL], by simp, by simp⟩
  | st, st', S, x :: xs, ys, vs, I, ⟨u, us, e, hx, hxs⟩, h => by
    subst e
    simp only [giveL] at h
    split at h
    · rename_i r hr
      split at h
      · rename_i q hq
        simp only [Option.some.injEq, Prod.mk.injEq] at h
        obtain ⟨rfl, rfl⟩ := h
        obtain ⟨S1, I1, H1, K1, c1, d1, f1⟩ := give1_ok I hx.1 (y := r.1) (st' := r.2) hr
        obtain ⟨S2, I2, H2, K2, c2, d2, f2⟩ := giveL_ok I1 (srepL_mono H1 K1 _ _ hxs) (ys := q.1) (st' := q.2) hq
        refine ⟨S2, I2, H1.trans H2, Nm.le_trans K1 K2, ?_, ?_, ?_⟩
        · rw [crepL]; exact ⟨u, us, rfl, crep_mono H2 _ _ c1, c2⟩
        · intro y hy
          rcases List.mem_cons.1 hy with rfl | hy
          · exact d1
          · exact d2 y hy
        · intro y hy
          rcases List.mem_cons.1 hy with rfl | hy
          · exact f1
          · exact f2 y hy
      · cases h
    · cases h
theorem giveV_ok (I : Inv w0 S0 hb0 xb st a w S hb lb) {x y : AV} {v : Value} (hx : frep w S hb (nm st lb) x v) (h : giveV st x = some (y, st')) :
    ∃ S', Inv w0 S0 hb0 xb st' a w S' hb lb ∧ Stays w w S S' hb hb ∧ (nm st lb).le (nm st' lb) ∧ crep w S' hb y v ∧ crepL w S' hb (cellsOf y) v.cells.toList ∧ (∀ u ∈ v.cells.toList, u.oneCell' = true) ∧ (cellsOf y).length = (cellsOf x).length := by
  unfold giveV at h
  split at h
  · rename_i cs
    split at h
    · rename_i q hq
      simp only [Option.some.injEq, Prod.mk.injEq] at h
      obtain ⟨rfl, rfl⟩ := h
      obtain ⟨ar, rfl, hx⟩ := hx
      obtain ⟨S', I', H, K, c, d, f⟩ := giveL_ok I hx (ys := q.1) (st' := q.2) hq
      refine ⟨S', I', H, K, ?_, c, f, ?_⟩
      · rw [crep]; exact ⟨ar, rfl, c, f⟩
      · show q.1.length = cs.length
        rw [← crepL_len c, srepL_len hx]
    · cases h
  · rename_i hne
    have hn : notAgg x = true := by cases x <;> first | rfl | exact (hne _ rfl).elim
    rw [frep_eq hn] at hx
    obtain ⟨S', I', H, K, c, d, f⟩ := give1_ok I hx h
    have ey : cellsOf y = [y] := by cases y <;> first | rfl | simp [clean1] at d
    have ex : cellsOf x = [x] := by cases x <;> first | rfl | simp [notAgg] at hn
    have ev : v.cells = #[v] := by cases v <;> first | rfl | simp [Value.oneCell'] at f
    refine ⟨S', I', H, K, c, ?_, ?_, by rw [ey, ex]; rfl⟩
    · rw [ey, ev]; simp only [crepL]; exact ⟨v, [], rfl, c, rfl⟩
    · rw [ev]; intro u hu; simp at hu; rw [hu]; exact f
/-- Arguments. -/
def frepL (w : World) (S : Nat → Prop) (hb : List Nat) (N : Nm) : List AV → List Value → Prop
  | [], vs => vs = []
  | x :: xs, vs => ∃ u us, vs = u :: us ∧ frep w S hb N x u ∧ frepL w S hb N xs us
theorem frepL_mono {N' : Nm} (H : Stays w w' S S' hb hb') (K : N.le N') : ∀ {xs : List AV} {vs : List Value}, frepL w S hb N xs vs → frepL w' S' hb' N' xs vs
  | [], _, h => h
  | _ :: _, _, ⟨u, us, e, h1, h2⟩ => ⟨u, us, e, frep_mono H K _ _ h1, frepL_mono H K h2⟩
theorem frepL_append : ∀ {xs ys : List AV} {vs us : List Value}, frepL w S hb N xs vs → frepL w S hb N ys us → frepL w S hb N (xs ++ ys) (vs ++ us)
  | [], _, _, _, h, k => by cases h; exact k
  | _ :: _, _, _, _, ⟨u, us, e, h1, h2⟩, k => by subst e; exact ⟨u, _, rfl, h1, frepL_append h2 k⟩
theorem frepL_of_crepL : ∀ {xs : List AV} {vs : List Value}, crepL w S hb xs vs → frepL w S hb N xs vs
  | [], _, h => by rw [crepL] at h; exact h
  | _ :: _, _, h => by
    rw [crepL] at h
    obtain ⟨u, us, e, h1, h2⟩ := h
    exact ⟨u, us, e, crep_frep h1, frepL_of_crepL h2⟩
theorem giveA_ok : ∀ {st st' : St} {S : Nat → Prop} {xs ys : List AV} {vs : List Value}, Inv w0 S0 hb0 xb st a w S hb lb → frepL w S hb (nm st lb) xs vs → giveA st xs = some (ys, st') →
    ∃ S', Inv w0 S0 hb0 xb st' a w S' hb lb ∧ Stays w w S S' hb hb ∧ (nm st lb).le (nm st' lb) ∧ crepL w S' hb ys vs ∧ (∀ v ∈ vs, ∀ u ∈ v.cells.toList, u.oneCell' = true) ∧
      (∀ (i : Nat) (y : AV) (v : Value), ys[i]? = some y → vs[i]? = some v → crepL w S' hb (cellsOf y) v.cells.toList)
  | st, st', S, [], ys, vs, I, hx, h => by
    simp only [giveA, Option.some.injEq, Prod.mk.injEq] at h
    obtain ⟨rfl, rfl⟩ := h
    cases hx
    exact ⟨S, I, Stays.refl _ _ _, Nm.le_refl _, by rw [crepL], by simp, by simp⟩
  | st, st', S, x :: xs, ys, vs, I, ⟨u, us, e, hx, hxs⟩, h => by
    subst e
    simp only [giveA] at h
    split at h
    · rename_i r hr
      split at h
      · rename_i q hq
        simp only [Option.some.injEq, Prod.mk.injEq] at h
        obtain ⟨rfl, rfl⟩ := h
        obtain ⟨S1, I1, H1, K1, c1, g1, d1, _⟩ := giveV_ok I hx (y := r.1) (st' := r.2) hr
        obtain ⟨S2, I2, H2, K2, c2, d2, f2⟩ := giveA_ok I1 (frepL_mono H1 K1 hxs) (ys := q.1) (st' := q.2) hq
        refine ⟨S2, I2, H1.trans H2, Nm.le_trans K1 K2, ?_, ?_, ?_⟩
        · rw [crepL]; exact ⟨u, us, rfl, crep_mono H2 _ _ c1, c2⟩
        · intro y hy
          rcases List.mem_cons.1 hy with rfl | hy
          · exact d1
          · exact d2 y hy
        · intro i y v hi hv
          cases i with
          | zero => simp at hi hv; subst hi hv; exact crepL_mono H2 _ _ g1
          | succ i => exact f2 i y v (by simpa using hi) (by simpa using hv)
      · cases h
    · cases h
end
end Go.Ev
