/- The abstract interpreter: make, slices of elements, structs, cuts, texts' iterators. -/
import Derived.Test.YtikedmiioonjiaaDoorEvL
import Derived.Laws.Slices
set_option linter.unusedVariables false
set_option linter.unusedSimpArgs false
set_option linter.unusedSectionVars false
set_option linter.defProp false
namespace Go.Ev
open Go
section
variable {P : Program} {w0 : World} {S0 : Nat → Prop} {hb0 : List Nat} {xb : Option Nat} {st st' : St} {a : Act} {w w' : World} {S S' : Nat → Prop} {hb hb' : List Nat} {lb lb' : Nat → Option (Nat × Nat)} {N : Nm}

theorem makeSlice_ok {cf : Cfg} (hT : TabOK P cf.tab) (I : Inv w0 S0 hb0 xb st a w S hb lb) {o : Oper} {t e : TypeId} {x y : Operand} {i ei : TI} {k k' : IntKind} {n : Int} (ho : o.op = .makeSlice t x y) (ht : cf.tab t = some i) (hd : i.desc = .slice e) (he : cf.tab e = some ei) (hx : opnd st x = some (.int k n)) (hy : opnd st y = some (.int k' n)) (h0 : 0 ≤ n) (hroom : n.toNat * ei.bytes ≤ roomB) (hby : ei.bytes ≠ 0) (hsz : ei.size ≠ 0) (d : Nat) :
    VOK P w0 S0 hb0 xb o a w (.lrow d (st.gen d)) (st.mk_ d false e ei.size (List.replicate n.toNat ei.zero)) := by
  have h1 := frep_int.1 (I.opnd hx)
  have h2 := frep_int.1 (I.opnd hy)
  obtain ⟨inf, z, g1, g2, g3, g4, g5, g6, g7⟩ := zero_rep hT he
  have u1 := hT.und t i ht
  rw [hd] at u1
  have hn : n.toNat ≤ roomB := Nat.le_trans (Nat.le_mul_of_pos_right _ (Nat.pos_of_ne_zero hby)) hroom
  have hb1 : (inf.bytes : Int) * n ≤ 281474976710656 := by
    rw [g3]
    have : ((n.toNat * ei.bytes : Nat) : Int) ≤ roomB := by exact_mod_cast hroom
    rw [Int.natCast_mul, Int.toNat_of_nonneg h0, Int.mul_comm] at this
    simp only [roomB] at this
    omega
  have hr := run_make (P := P) w t e inf z u1 g1 g4 k k' n n h0 (Int.le_refl _) hb1 (by simp only [roomB] at hn; omega)
  have hcells : RowsAt w S hb (nm st lb) false ei.size (List.replicate n.toNat ei.zero) (madeCells z.cells (n.toNat * inf.size)).toList := by
    intro j x hj
    rw [List.getElem?_replicate] at hj
    split at hj
    · rename_i hjn
      simp only [Option.some.injEq] at hj; subst hj
      refine ⟨g6, fun m y hm => ?_⟩
      obtain ⟨q1, q2⟩ := g7 w S hb
      obtain ⟨v, v1, v2⟩ := crepL_get q1 m y hm
      have hml : m < ei.size := by rw [← g6]; exact (List.getElem?_eq_some_iff.1 hm).1
      refine ⟨v, ?_, q2 v (List.mem_of_getElem? v1), crep_isCell v2 (q2 v (List.mem_of_getElem? v1)), crep_srep v2, fun h => by cases h⟩
      have hlt : j * ei.size + m < n.toNat * ei.size := by
        have : (j + 1) * ei.size ≤ n.toNat * ei.size := Nat.mul_le_mul_right _ hjn
        rw [Nat.succ_mul] at this
        omega
      have hmod : (j * ei.size + m) % ei.size = m := by rw [Nat.add_comm, Nat.add_mul_mod_self_right, Nat.mod_eq_of_lt hml]
      rw [Array.getElem?_toList]
      unfold madeCells
      rw [Array.getElem?_map, g2]
      rw [Array.getElem?_range, if_pos hlt]
      simp only [Option.map_some, g5, hmod]
      rw [Array.getElem?_toList] at v1
      simp [getElem!_def, v1]
    · cases hj
  obtain ⟨I', K, H⟩ := I.newRows (w' := w.alloc (.cells (madeCells z.cells (n.toNat * inf.size)) e)) d e ei.size (List.replicate n.toNat ei.zero) (cap := n.toNat) rfl rfl rfl rfl hcells (by rw [size_madeCells, g2]) (by simp) (by simp only [maxLen]; simp only [roomB] at hn; omega)
  refine ⟨_, _, S, hb, _, .inl (run_v (s := Instr.makeSlice t (a.eval x) (a.eval y)) (by unfold execOp; rw [ho]) (by rw [h1, h2]; exact hr)), I', ?_⟩
  have := mk_lrow (w := w.alloc (.cells (madeCells z.cells (n.toNat * inf.size)) e)) (S := S) (hb := hb) (st := st) (lb := lb) d e ei.size (List.replicate n.toNat ei.zero) (cap := n.toNat) (b := w.heap.size)
  simpa using this

/-! ### fill -/
theorem foldl_set (vs : List Value) (off : Nat) : ∀ (k : Nat) (cells : Array Value), (vs.zipIdx k).foldl (fun cs (x : Value × Nat) => cs.setIfInBounds (off + x.2) x.1) cells = ((vs.zipIdx k).foldl (fun cs (x : Value × Nat) => cs.set (off + x.2) x.1) cells.toList).toArray := by
  induction vs with
  | nil => intro k cells; simp
  | cons v vs ih => intro k cells; simp only [List.zipIdx_cons, List.foldl_cons]; rw [ih]; simp
theorem fold_writes (vs : List Value) : ∀ (k off : Nat) (l : List Value), (vs.zipIdx k).foldl (fun cs (x : Value × Nat) => cs.set (off + x.2) x.1) l = match vs with | [] => l | v :: vs => (vs.zipIdx (k + 1)).foldl (fun cs (x : Value × Nat) => cs.set (off + x.2) x.1) (l.set (off + k) v) := by
  intro k off l
  cases vs <;> simp [List.zipIdx_cons]
theorem fold_get (vs : List Value) : ∀ (k off : Nat) (l : List Value), off + k + vs.length ≤ l.length → ∀ j, ((vs.zipIdx k).foldl (fun cs (x : Value × Nat) => cs.set (off + x.2) x.1) l)[j]? = if off + k ≤ j ∧ j < off + k + vs.length then vs[j - (off + k)]? else l[j]? := by
  induction vs with
  | nil => intro k off l h j; simp; omega
  | cons v vs ih =>
    intro k off l h j
    simp only [List.length_cons] at h ⊢
    simp only [List.zipIdx_cons, List.foldl_cons]
    rw [ih (k + 1) off (l.set (off + k) v) (by simp; omega)]
    by_cases h1 : off + (k + 1) ≤ j ∧ j < off + (k + 1) + vs.length
    · rw [if_pos h1, if_pos (by omega), show j - (off + k) = (j - (off + (k + 1))) + 1 by omega]; simp
    · rw [if_neg h1, List.getElem?_set]
      by_cases h2 : off + k = j
      · subst h2
        rw [if_pos rfl, if_pos (by omega), if_pos (by omega)]; simp
      · rw [if_neg h2, if_neg (by omega)]
theorem fold_len (vs : List Value) : ∀ (k off : Nat) (l : List Value), ((vs.zipIdx k).foldl (fun cs (x : Value × Nat) => cs.set (off + x.2) x.1) l).length = l.length := by
  induction vs with
  | nil => intro k off l; simp
  | cons v vs ih => intro k off l; simp only [List.zipIdx_cons, List.foldl_cons]; rw [ih]; simp
/-- One part of 'fill'. -/
def put1 (cells : List Value) (off : Nat) (vs : List Value) : List Value := cells.take off ++ vs ++ cells.drop (off + vs.length)
theorem fill_step (place : Nat → Option (Nat × Nat)) (cells : Array Value) (i off size : Nat) (v : Value) (rest : List (Nat × Value)) (hp : place i = some (off, size)) (hs : v.cells.size = size) (hl : off + v.cells.size ≤ cells.size) :
    Instr.fill place cells ((i, v) :: rest) = Instr.fill place (put1 cells.toList off v.cells.toList).toArray rest := by
  rw [Instr.fill]
  simp only [hp]
  rw [if_neg (by simp [hs]; omega)]
  congr 1
  have e : v.cells.zipIdx.foldl (fun cs x => cs.setIfInBounds (off + x.2) x.1) cells = (v.cells.toList.zipIdx.foldl (fun cs (x : Value × Nat) => cs.setIfInBounds (off + x.2) x.1) cells) := by
    rw [← Array.foldl_toList]; simp
  rw [e, foldl_set]
  congr 1
  apply List.ext_getElem?
  intro j
  rw [fold_get _ _ _ _ (by simpa using hl)]
  unfold put1
  rw [seg_get _ _ _ (by simpa using hl)]
  simp
theorem srepL_one {cs : List AV} {vs : List Value} (h : srepL w S hb N cs vs) : ∀ u ∈ vs, u.oneCell' = true := fun u hu => by
  obtain ⟨k, hk⟩ := List.getElem?_of_mem hu
  have hlt : k < cs.length := by rw [← srepL_len h]; exact (List.getElem?_eq_some_iff.1 hk).1
  obtain ⟨u', k1, _, _, k4⟩ := srepL_get h k _ (List.getElem?_eq_getElem hlt)
  have : u' = u := Option.some.inj (k1.symm.trans hk)
  rw [← this]; exact k4
theorem srepL_put1 {cs : List AV} {us : List Value} {ys : List AV} {vs : List Value} {off : Nat} (h : srepL w S hb N cs us) (k : srepL w S hb N ys vs) (hl : off + ys.length ≤ cs.length) : srepL w S hb N (writeCells cs off ys) (put1 us off vs) := by
  have l1 := srepL_len h
  have l2 := srepL_len k
  refine srepL_of ?_ fun i x v hx hv => ?_
  · rw [writeCells_len]; unfold put1; simp only [List.length_append, List.length_take, List.length_drop]; omega
  · rw [writeCells_get _ _ _ hl] at hx
    unfold put1 at hv
    rw [seg_get _ _ _ (by omega)] at hv
    by_cases hj : off ≤ i ∧ i < off + ys.length
    · rw [if_pos hj] at hx
      rw [if_pos (by omega)] at hv
      obtain ⟨u, k1, k2, k3, k4⟩ := srepL_get k _ x hx
      have : u = v := Option.some.inj (k1.symm.trans hv)
      subst this
      exact ⟨k2, k3, k4⟩
    · rw [if_neg hj] at hx
      rw [if_neg (by omega)] at hv
      obtain ⟨u, k1, k2, k3, k4⟩ := srepL_get h _ x hx
      have : u = v := Option.some.inj (k1.symm.trans hv)
      subst this
      exact ⟨k2, k3, k4⟩
def prep (w : World) (S : Nat → Prop) (hb : List Nat) (N : Nm) : List (Nat × AV) → List (Nat × Value) → Prop
  | [], vs => vs = []
  | x :: xs, vs => ∃ u us, vs = (x.1, u) :: us ∧ frep w S hb N x.2 u ∧ prep w S hb N xs us
theorem opndP_ok (I : Inv w0 S0 hb0 xb st a w S hb lb) : ∀ {xs : List (Nat × Operand)} {vs : List (Nat × AV)}, opndP st xs = some vs → prep w S hb (nm st lb) vs (xs.map fun (i, x) => (i, a.eval x))
  | [], vs, h => by simp only [opndP, Option.some.injEq] at h; subst h; rfl
  | (i, x) :: xs, vs, h => by
    simp only [opndP] at h
    split at h
    · rename_i v hv
      split at h
      · rename_i vs' hvs
        simp only [Option.some.injEq] at h; subst h
        exact ⟨_, _, rfl, I.opnd hv, opndP_ok I hvs⟩
      · cases h
    · cases h
theorem fill_ok (place : Nat → Option (Nat × Nat)) : ∀ {parts : List (Nat × AV)} {vparts : List (Nat × Value)} {cells : List AV} {vcells : Array Value} {out : List AV}, prep w S hb (nm st lb) parts vparts → srepL w S hb (nm st lb) cells vcells.toList → fillA st place cells parts = some out →
    ∃ vout : Array Value, Instr.fill place vcells vparts = some vout ∧ srepL w S hb (nm st lb) out vout.toList
  | [], _, cells, vcells, out, hp, hc, h => by
    cases hp
    simp only [fillA, Option.some.injEq] at h; subst h
    exact ⟨vcells, rfl, hc⟩
  | (k, v) :: parts, _, cells, vcells, out, ⟨u, us, e, h1, h2⟩, hc, h => by
    subst e
    simp only [fillA] at h
    split at h
    · rename_i off size hpl
      split at h
      · rename_i hcond
        obtain ⟨c1, c2, c3⟩ := hcond
        have hcs := srepL_cells c3 h1
        have hsz : u.cells.size = size := by rw [← Array.length_toList, srepL_len hcs]; exact c1
        have hvl : vcells.size = cells.length := by rw [← Array.length_toList, srepL_len hc]
        rw [fill_step place vcells k off size u us hpl hsz (by omega)]
        exact fill_ok place h2 (by simpa using srepL_put1 hc hcs (by rw [c1]; exact c2)) h
      · cases h
    · cases h
theorem placesM {tab : Tab} (hT : TabOK P tab) : ∀ (fs : List Field), (fs.all fun (f : Field) => (tab f.type).isSome) = true → ∃ pl : List (Nat × Nat), (fs.mapM fun (f : Field) => (P.info? f.type).map fun i => (f.offset, i.size)) = some pl ∧ pl.length = fs.length ∧ ∀ (k : Nat) (f : Field), fs[k]? = some f → ∃ i, tab f.type = some i ∧ pl[k]? = some (f.offset, i.size)
  | [], _ => ⟨[], by simp, rfl, by simp⟩
  | f :: fs, h => by
    simp only [List.all_cons, Bool.and_eq_true] at h
    obtain ⟨i, hi⟩ := Option.isSome_iff_exists.1 h.1
    obtain ⟨inf, z, g1, g2, _⟩ := hT.info _ _ hi
    obtain ⟨pl, h1, h2, h3⟩ := placesM hT fs h.2
    refine ⟨(f.offset, i.size) :: pl, ?_, by simp [h2], fun k f' hk => ?_⟩
    · simp only [List.mapM_cons, g1, Option.map_some, h1, g2, Option.bind_eq_bind, Option.bind_some, Option.pure_def]
    · cases k with
      | zero => simp at hk; subst hk; exact ⟨i, hi, rfl⟩
      | succ k => simpa using h3 k f' (by simpa using hk)
theorem build_ok {cf : Cfg} (hT : TabOK P cf.tab) (I : Inv w0 S0 hb0 xb st a w S hb lb) {o : Oper} {t : TypeId} {parts : Array (Nat × Operand)} {i : TI} {fs : Array Field} {ps : List (Nat × AV)} {cs : List AV} (ho : o.op = .build t parts) (ht : cf.tab t = some i) (hd : i.desc = .struct fs) (hk : known cf.tab fs = true) (hps : opndP st parts.toList = some ps) (hf : fillA st (fieldOf cf.tab fs) i.zero ps = some cs) : VOK P w0 S0 hb0 xb o a w (.agg cs) st := by
  obtain ⟨inf, z, g1, g2, g3, g4, g5, g6, g7⟩ := zero_rep hT ht
  obtain ⟨q1, q2⟩ := g7 w S hb
  obtain ⟨pl, p1, p2, p3⟩ := placesM (P := P) hT fs.toList hk
  have hplace : (fun k => pl.toArray[k]?) = fieldOf cf.tab fs := by
    funext k
    unfold fieldOf
    rw [List.getElem?_toArray]
    cases hfk : fs[k]? with
    | none =>
      have : fs.toList[k]? = none := by simpa using hfk
      have : fs.toList.length ≤ k := List.getElem?_eq_none_iff.1 this
      exact List.getElem?_eq_none (by omega)
    | some f =>
      obtain ⟨i', j1, j2⟩ := p3 k f (by simpa using hfk)
      simp only [j1, j2]
  obtain ⟨vout, f1, f2⟩ := fill_ok (fieldOf cf.tab fs) (opndP_ok I hps) (srepL_of_crepL q1 q2) hf
  refine .here I (cv := .agg vout) (run_v (s := Instr.build t (parts.map fun (i, x) => (i, a.eval x))) (by unfold execOp; rw [ho]) ?_) ⟨vout, rfl, f2⟩
  refine run_build w t _ vout ?_
  unfold Program.built
  have u2 := hT.und _ _ ht
  rw [hd] at u2
  simp only [g1, u2, g4, p1]
  have : (parts.map fun (x : Nat × Operand) => (x.1, a.eval x.2)).toList = parts.toList.map fun (x : Nat × Operand) => (x.1, a.eval x.2) := by simp
  rw [hplace, this]
  exact f1
end
end Go.Ev
