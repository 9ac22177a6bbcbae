/- The abstract interpreter: stores. -/
import Derived.Test.YtikedmiioonjiaaDoorEvJ
set_option linter.unusedVariables false
set_option linter.unusedSimpArgs false
set_option linter.unusedSectionVars false
set_option linter.defProp false
namespace Go.Ev
open Go
section
variable {P : Program} {w0 : World} {S0 : Nat → Prop} {hb0 : List Nat} {xb : Option Nat} {st st' : St} {a : Act} {w w' : World} {S S' : Nat → Prop} {hb hb' : List Nat} {lb lb' : Nat → Option (Nat × Nat)} {N : Nm}

theorem writeCells_len : ∀ (vs x : List AV) (off : Nat), (writeCells x off vs).length = x.length
  | [], _, _ => rfl
  | v :: vs, x, off => by rw [writeCells, writeCells_len vs]; simp
theorem writeCells_get : ∀ (vs x : List AV) (off : Nat), off + vs.length ≤ x.length → ∀ j, (writeCells x off vs)[j]? = if off ≤ j ∧ j < off + vs.length then vs[j - off]? else x[j]?
  | [], x, off, h, j => by rw [writeCells, if_neg (by simp only [List.length_nil]; omega)]
  | v :: vs, x, off, h, j => by
    simp only [List.length_cons] at h ⊢
    rw [writeCells, writeCells_get vs _ _ (by simp; omega)]
    by_cases h1 : off + 1 ≤ j ∧ j < off + 1 + vs.length
    · rw [if_pos h1, if_pos (by omega), show j - off = (j - (off + 1)) + 1 by omega]; simp
    · rw [if_neg h1, List.getElem?_set]
      by_cases h2 : off = j
      · subst h2
        rw [if_pos rfl, if_pos (by omega), if_pos (by omega)]; simp
      · rw [if_neg h2, if_neg (by omega)]
theorem seg_get (l vs : List Value) (p : Nat) (h : p + vs.length ≤ l.length) (m : Nat) : (l.take p ++ vs ++ l.drop (p + vs.length))[m]? = if p ≤ m ∧ m < p + vs.length then vs[m - p]? else l[m]? := by
  have hp : (l.take p).length = p := by rw [List.length_take]; omega
  by_cases h1 : m < p
  · rw [if_neg (by omega), List.append_assoc, List.getElem?_append_left (by omega), List.getElem?_take, if_pos h1]
  · by_cases h2 : m < p + vs.length
    · rw [if_pos (by omega), List.append_assoc, List.getElem?_append_right (by omega), List.getElem?_append_left (by omega), hp]
    · rw [if_neg (by omega), List.getElem?_append_right (by simp; omega), List.getElem?_drop]
      congr 1
      simp only [List.length_append, hp]
      omega
theorem mul_apart {i k sz j off n : Nat} (h : i ≠ k) (hj : j < sz) (hn : off + n ≤ sz) : ¬ (k * sz + off ≤ i * sz + j ∧ i * sz + j < k * sz + off + n) := by
  rcases Nat.lt_or_gt_of_ne h with h | h
  · have : (i + 1) * sz ≤ k * sz := Nat.mul_le_mul_right _ h
    rw [Nat.succ_mul] at this
    omega
  · have : (k + 1) * sz ≤ i * sz := Nat.mul_le_mul_right _ h
    rw [Nat.succ_mul] at this
    omega
theorem RowsAt.write {sz : Nat} {xs : List (List AV)} {cs : List Value} (h : RowsAt w S hb N false sz xs cs) {k off : Nat} {y : List AV} (hk : xs[k]? = some y) {vs : List AV} {us : List Value} (hv : srepL w S hb N vs us) (ho : off + vs.length ≤ sz) (hl : k * sz + off + us.length ≤ cs.length) :
    RowsAt w S hb N false sz (xs.set k (writeCells y off vs)) (cs.take (k * sz + off) ++ us ++ cs.drop (k * sz + off + us.length)) := by
  have hlen : us.length = vs.length := srepL_len hv
  intro i x hx
  rw [List.getElem?_set] at hx
  by_cases hik : k = i
  · subst hik
    have hkl : k < xs.length := (List.getElem?_eq_some_iff.1 hk).1
    simp only [if_true, hkl, Option.some.injEq] at hx
    subst hx
    have hy := h k y hk
    refine ⟨by rw [writeCells_len]; exact hy.1, fun j z hz => ?_⟩
    rw [writeCells_get _ _ _ (by rw [hy.1]; exact ho)] at hz
    rw [seg_get _ _ _ hl]
    by_cases hj : off ≤ j ∧ j < off + vs.length
    · rw [if_pos hj] at hz
      rw [if_pos (by omega)]
      obtain ⟨u, k1, k2, k3, k4⟩ := srepL_get hv _ z hz
      exact ⟨u, by rw [show k * sz + j - (k * sz + off) = j - off by omega]; exact k1, k4, k3, k2, by simp⟩
    · rw [if_neg hj] at hz
      rw [if_neg (by omega)]
      exact hy.2 j z hz
  · rw [if_neg hik] at hx
    refine ⟨(h i x hx).1, fun j z hz => ?_⟩
    have hjl : j < sz := by rw [← (h i x hx).1]; exact (List.getElem?_eq_some_iff.1 hz).1
    rw [seg_get _ _ _ hl, if_neg (mul_apart (Ne.symm hik) hjl (by omega))]
    exact (h i x hx).2 j z hz

theorem RowsAt.frz_eq {f f' : Bool} {sz : Nat} {xs : List (List AV)} {cs : List Value} (e : f' = f) (h : RowsAt w S hb N f sz xs cs) : RowsAt w S hb N f' sz xs cs := e ▸ h
theorem nodup_inj {l : List Nat} (h : l.Nodup) {i j b : Nat} (h1 : l[i]? = some b) (h2 : l[j]? = some b) : i = j := by
  obtain ⟨a1, e1⟩ := List.getElem?_eq_some_iff.1 h1
  obtain ⟨a2, e2⟩ := List.getElem?_eq_some_iff.1 h2
  rcases Nat.lt_trichotomy i j with hl | hl | hl
  · exact (List.pairwise_iff_getElem.1 h i j a1 a2 hl (e1.trans e2.symm)).elim
  · exact hl
  · exact (List.pairwise_iff_getElem.1 h j i a2 a1 hl (e2.trans e1.symm)).elim
theorem run_storeVar_at {tab : Tab} (hT : TabOK P tab) {t : TypeId} {i : TI} (ht : tab t = some i) {b p : Nat} {arr : Array Value} {ty : TypeId} {v : Value} (hb_ : w.heap[b]? = some (.cells arr ty (0, 0))) (hs : v.cells.size = i.size) (hl : p + v.cells.toList.length ≤ arr.size) (h1 : ∀ u ∈ v.cells.toList, u.oneCell' = true) :
    (Instr.storeAt t (.pointer (some ⟨b, p, none⟩)) v).run P w = .ok () (w.setRow b (arr.toList.take p ++ v.cells.toList ++ arr.toList.drop (p + v.cells.toList.length)).toArray) := by
  have hst := run_storeCells_at P b p ty v.cells.toList 0 arr w hb_ (by simpa using hl) h1
  simp only [Nat.add_zero] at hst
  unfold Instr.storeAt storeVar
  simp only [Instr.sureAddr, Sem.run_bind, Sem.run_pure, Result.andThen_ok, run_sizeOf hT ht]
  rw [if_neg (by simp [hs])]
  simp only [hst]

/-- A block of the frame's own is written. -/
theorem Inv.setRows (I : Inv w0 S0 hb0 xb st a w S hb lb) {d : Nat} {o : LObj} (e : st.loc.getD d none = some o) (hit : o.it = false) (hfz : o.frz = false) {b cap : Nat} (hl : lb d = some (b, cap)) {arr arr' : Array Value} (harr : w.heap[b]? = some (.cells arr o.ty (0, 0)))
    {xs' : List (List AV)} {g' : Nat} {gen' : Nat → Nat} (hg : (g' = o.g ∧ gen' = st.gen ∧ xs'.length = o.xs.length) ∨ (g' = st.gen d ∧ gen' = bump st.gen d)) (hlen : xs'.length ≤ cap) (hsz : arr'.size = arr.size) (hr : RowsAt w S hb (nm st lb) false o.sz xs' arr'.toList) :
    Inv w0 S0 hb0 xb { st with loc := st.loc.set d (some { o with g := g', xs := xs' }), gen := gen' } a (w.setRow b arr') S hb lb ∧ (nm st lb).le (nm { st with loc := st.loc.set d (some { o with g := g', xs := xs' }), gen := gen' } lb) ∧ Stays w (w.setRow b arr') S S hb hb := by
  obtain ⟨arr0, h1, h2, h3, h4, h5, h6⟩ := (I.locs d o e).rowsAt hit (N := nm st lb) hl
  have : arr0 = arr := by
    rw [harr] at h1
    simp only [Option.some.injEq, Obj.cells.injEq] at h1
    exact h1.1.symm
  subst this
  rw [hfz] at h6
  simp only [Bool.false_eq_true, if_false] at h6
  have H : Stays w (w.setRow b arr') S S hb hb := ⟨fun _ h => h, fun k h => setRow_other w b k _ (fun hh => h6 (hh ▸ h)), fun _ _ h => h⟩
  have hbm := I.lbhb d o b cap e hl
  have hgs := I.gens d o e
  obtain ⟨I', K⟩ := I.step (st' := { st with loc := st.loc.set d (some { o with g := g', xs := xs' }), gen := gen' }) (lb' := lb) d H rfl rfl rfl (by simp)
    (fun k _ _ hk => ⟨setRow_other w b k _ (fun hh => hk o cap e (hh ▸ hl)), fun h => h⟩) (fun k h => by rw [setRow_size]; exact I.Slt k h) (fun k h => .inl h)
    (HRep_mono H (fun k hk => setRow_other w b k _ (fun hh => hbm (hh ▸ hk))) I.heap.out I.heap) rfl (by simp) (fun k => by
      show st.gen k ≤ gen' k
      rcases hg with ⟨_, k2, _⟩ | ⟨_, k2⟩
      · rw [k2]; exact Nat.le_refl _
      · rw [k2]; exact bump_le _ _ _)
    (fun k hk => ⟨by show (st.loc.set d _).getD k none = _; rw [List.getD_eq_getElem?_getD, List.getElem?_set, if_neg (Ne.symm hk), List.getD_eq_getElem?_getD], rfl⟩)
    (fun o' h => by
      have h' : (st.loc.set d (some { o with g := g', xs := xs' })).getD d none = some o' := h
      rw [List.getD_eq_getElem?_getD, List.getElem?_set, if_pos rfl, if_pos (loc_lt e)] at h'
      simp only [Option.getD_some, Option.some.injEq] at h'; subst h'
      refine ⟨by
        show g' < gen' d
        rcases hg with ⟨k1, k2, _⟩ | ⟨k1, k2⟩
        · rw [k1, k2]; exact hgs
        · rw [k1, k2]; exact bump_lt _ _, fun hh => ?_, fun K => ?_, fun b' c' h => .inr ⟨o, c', e, h⟩⟩
      · have hh : g' < st.gen d := hh
        rcases hg with ⟨k1, k2, k3⟩ | ⟨k1, k2⟩
        · exact ⟨o, e, k1.symm, rfl, k3.symm, ⟨rfl, rfl⟩, rfl⟩
        · omega
      · refine LRep.ofRows (b := b) (cap := cap) hit hl (setRow_heap w b _ _ _ _ harr) (by rw [hsz]; exact h2) hlen h4 ?_ ?_
        · exact RowsAt.frz_eq hfz (hr.mono H K)
        · rw [hfz]; simpa using h6)
  exact ⟨I', K, H⟩

theorem store_ok {cf : Cfg} (hT : TabOK P cf.tab) {o : Oper} {t : TypeId} {x y : Operand} {i : TI} {p v : AV} (ho : o.op = .store t x y) (ht : cf.tab t = some i) (hx : opnd st x = some p) (hy : opnd st y = some v) (h : storeAt i st p v = some st') (I : Inv w0 S0 hb0 xb st a w S hb lb) : VOK P w0 S0 hb0 xb o a w .undef st' := by
  have hp := I.opnd hx
  have hv := I.opnd hy
  unfold storeAt at h
  split at h
  · rename_i hc
    obtain ⟨hc1, hc2⟩ := hc
    have hcells := srepL_cells hc2 hv
    have hone : ∀ u ∈ (a.eval y).cells.toList, u.oneCell' = true := fun u hu => by
      obtain ⟨k, hk⟩ := List.getElem?_of_mem hu
      have hlt : k < (cellsOf v).length := by rw [← srepL_len hcells]; exact (List.getElem?_eq_some_iff.1 hk).1
      obtain ⟨u', k1, k2, k3, k4⟩ := srepL_get hcells k _ (List.getElem?_eq_getElem hlt)
      have : u' = u := Option.some.inj (k1.symm.trans hk)
      rw [← this]; exact k4
    have hsize : (a.eval y).cells.size = i.size := by rw [← Array.length_toList, srepL_len hcells, hc1]
    split at h
    · rename_i d g k off
      split at h
      · rename_i q e
        split at h
        · cases h
        · rename_i hq
          simp only [not_or, Bool.not_eq_true] at hq
          split at h
          · rename_i z hz
            split at h
            · rename_i hoff
              simp only [Option.some.injEq] at h; subst h
              obtain ⟨e1, e2⟩ := lobj_some.1 e
              rw [frep_eq (by rfl)] at hp
              obtain ⟨b, cap, hl, hpv⟩ := hp.2 q e1 e2
              obtain ⟨arr, h1, h2, h3, h4, h5, h6⟩ := (I.locs d q e1).rowsAt hq.2 (N := nm st lb) hl
              have hzl := (h5 k z hz).1
              have hkl : k < q.xs.length := (List.getElem?_eq_some_iff.1 hz).1
              have hfit : k * q.sz + off + (a.eval y).cells.toList.length ≤ arr.toList.length := by
                have : (k + 1) * q.sz ≤ cap * q.sz := Nat.mul_le_mul_right _ (by omega)
                rw [Nat.succ_mul] at this
                rw [Array.length_toList, Array.length_toList, h2, hsize]
                omega
              have hr := h5.unfrz.write hz hcells (off := off) (by rw [hc1]; omega) hfit
              obtain ⟨I', K, H⟩ := I.setRows (xs' := q.xs.set k (writeCells z off (cellsOf v))) (g' := q.g) (gen' := st.gen) (arr' := (arr.toList.take (k * q.sz + off) ++ (a.eval y).cells.toList ++ arr.toList.drop (k * q.sz + off + (a.eval y).cells.toList.length)).toArray) e1 hq.2 hq.1 hl h1 (.inl ⟨rfl, rfl, by simp⟩) (by simpa using h3)
                (by simp only [List.size_toArray, List.length_append, List.length_take, List.length_drop, Array.length_toList] at hfit ⊢; omega) (by simpa using hr)
              refine ⟨undef, _, S, hb, lb, .inr ⟨run_u (s := Instr.storeAt t (a.eval x) (a.eval y)) (by unfold execOp; rw [ho]) ?_, rfl⟩, I', trivial⟩
              rw [hpv]
              exact run_storeVar_at hT ht h1 hsize (by simpa using hfit) hone
            · cases h
          · cases h
      · cases h
    · rename_i id off
      split at h
      · rename_i r hr
        split at h
        · rename_i z hz
          split at h
          · rename_i hoff
            simp only [Option.some.injEq] at h; subst h
            obtain ⟨S1, I1, H1, K1, c1, c2, c3, c4⟩ := giveV_ok I hv (y := r.1) (st' := r.2) hr
            rw [frep_eq (by rfl)] at hp
            simp only [srep, crep] at hp
            obtain ⟨b, hbi, hpv⟩ := hp
            obtain ⟨arr, ty, h1, h2, h3⟩ := I1.heap.cells id b z hbi hz
            have hfit : off + (a.eval y).cells.toList.length ≤ arr.toList.length := by
              rw [Array.length_toList, Array.length_toList, h2, hsize]; exact hoff
            have hclen : (cellsOf r.1).length = i.size := by rw [c4, hc1]
            have hulen : (a.eval y).cells.toList.length = i.size := by rw [Array.length_toList, hsize]
            have hbm : b ∈ hb := List.mem_of_getElem? hbi
            have hbS : ¬ S1 b := I1.heap.out b hbm
            have H2 : Stays w (w.setRow b (arr.toList.take off ++ (a.eval y).cells.toList ++ arr.toList.drop (off + (a.eval y).cells.toList.length)).toArray) S1 S1 hb hb :=
              ⟨fun _ h => h, fun k h => setRow_other w b k _ (fun hh => hbS (hh ▸ h)), fun _ _ h => h⟩
            have hidl : id < r.2.hp.length := (List.getElem?_eq_some_iff.1 hz).1
            have hd : ∀ o', r.2.loc.getD r.2.loc.length none = some o' → False := fun o' h => by
              rw [List.getD_eq_getElem?_getD, List.getElem?_eq_none (Nat.le_refl _)] at h; simp at h
            obtain ⟨I2, K2⟩ := I1.step (st' := { r.2 with hp := r.2.hp.set id (writeCells z off (cellsOf r.1)) }) (lb' := lb) r.2.loc.length H2 rfl rfl rfl (by simp)
              (fun k _ hk _ => ⟨setRow_other w b k _ (fun hh => hk (hh ▸ hbm)), fun h => h⟩) (fun k h => by rw [setRow_size]; exact I1.Slt k h) (fun k h => .inl h)
              { len := by simpa using I1.heap.len
                nodup := I1.heap.nodup
                out := I1.heap.out
                cells := fun id' b' x' k1 k2 => by
                  rw [List.getElem?_set] at k2
                  by_cases hii : id = id'
                  · subst hii
                    have hbb : b' = b := Option.some.inj (k1.symm.trans hbi)
                    subst hbb
                    simp only [if_true, hidl, Option.some.injEq] at k2
                    subst k2
                    refine ⟨_, ty, setRow_heap w b' arr _ ty (0, 0) h1, ?_, fun j u hu => ?_⟩
                    · rw [writeCells_len, ← h2]
                      simp only [List.size_toArray, List.length_append, List.length_take, List.length_drop, Array.length_toList] at hfit ⊢
                      omega
                    · rw [writeCells_get _ _ _ (by rw [hclen]; exact hoff)] at hu
                      simp only [List.getElem?_toArray]
                      rw [seg_get _ _ _ hfit]
                      by_cases hj : off ≤ j ∧ j < off + (cellsOf r.1).length
                      · rw [if_pos hj] at hu
                        rw [if_pos (by omega)]
                        obtain ⟨v', g1, g2⟩ := crepL_get c2 _ u hu
                        exact ⟨v', g1, c3 v' (List.mem_of_getElem? g1), crep_mono H2 _ _ g2⟩
                      · rw [if_neg hj] at hu
                        rw [if_neg (by omega)]
                        obtain ⟨v', g1, g2, g3⟩ := h3 j u hu
                        exact ⟨v', by simpa using g1, g2, crep_mono H2 _ _ g3⟩
                  · rw [if_neg hii] at k2
                    obtain ⟨arr', ty', g1, g2, g3⟩ := I1.heap.cells id' b' x' k1 k2
                    have hbb : b' ≠ b := fun hh => by
                      subst hh
                      exact hii (nodup_inj I1.heap.nodup hbi k1)
                    refine ⟨arr', ty', by rw [setRow_other w b b' _ hbb]; exact g1, g2, fun j u hu => ?_⟩
                    obtain ⟨v', f1, f2, f3⟩ := g3 j u hu
                    exact ⟨v', f1, f2, crep_mono H2 _ _ f3⟩ }
              rfl rfl (fun _ => Nat.le_refl _) (fun _ _ => ⟨rfl, rfl⟩) (fun o' h => (hd o' h).elim)
            refine ⟨undef, _, S1, hb, lb, .inr ⟨run_u (s := Instr.storeAt t (a.eval x) (a.eval y)) (by unfold execOp; rw [ho]) ?_, rfl⟩, I2, trivial⟩
            rw [hpv]
            exact run_storeVar_at hT ht h1 hsize (by simpa using hfit) hone
          · cases h
        · cases h
      · cases h
    · cases h
  · cases h
end
end Go.Ev
