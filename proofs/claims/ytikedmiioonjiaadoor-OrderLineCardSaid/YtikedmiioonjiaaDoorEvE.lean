/- The abstract interpreter: its operations are the machine's: those that read memory or find addresses. -/
import Derived.Test.YtikedmiioonjiaaDoorEvD
set_option linter.unusedVariables false
set_option linter.unusedSimpArgs false
set_option linter.unusedSectionVars false
set_option linter.defProp false
namespace Go.Ev
open Go

theorem add_at (b o n : Nat) : (⟨b, o, none⟩ : Addr).add n = ⟨b, o + n, none⟩ := by unfold Addr.add; split <;> simp_all
theorem cell_of {w : World} {b : Nat} {arr : Array Value} {ty : TypeId} {fr : Nat × Nat} (h : w.heap[b]? = some (.cells arr ty fr)) (o : Nat) : w.cell? ⟨b, o, none⟩ = arr[o]? := by simp [World.cell?, h]

/-- Cells of a frame's values. -/
def CellsAt (w : World) (S : Nat → Prop) (hb : List Nat) (N : Nm) (b : Nat) (xs : List AV) (o : Nat) : Prop :=
  ∀ (j : Nat) (y : AV), xs[j]? = some y → ∃ v, w.cell? ⟨b, o + j, none⟩ = some v ∧ v.oneCell' = true ∧ isCell y = true ∧ srep w S hb N y v

section
variable {P : Program} {w0 : World} {S0 : Nat → Prop} {hb0 : List Nat} {xb : Option Nat} {st st' : St} {a : Act} {w : World} {S : Nat → Prop} {hb : List Nat} {lb : Nat → Option (Nat × Nat)} {N : Nm}

theorem CellsAt.list {b : Nat} : ∀ {xs : List AV} {o : Nat}, CellsAt w S hb N b xs o → ∃ vs : List Value, srepL w S hb N xs vs ∧ ∀ (j : Nat) (v : Value), vs[j]? = some v → w.cell? ⟨b, o + j, none⟩ = some v
  | [], _, _ => ⟨[], rfl, by simp⟩
  | x :: xs, o, h => by
    obtain ⟨v, e1, e2, e3, e4⟩ := h 0 x rfl
    obtain ⟨vs, k1, k2⟩ := CellsAt.list (xs := xs) (o := o + 1) fun j y hj => by
      obtain ⟨u, q⟩ := h (j + 1) y (by simpa using hj)
      exact ⟨u, by rw [show o + 1 + j = o + (j + 1) by omega]; exact q⟩
    refine ⟨v :: vs, ⟨v, vs, rfl, ⟨e4, e3, e2⟩, k1⟩, fun j u hj => ?_⟩
    cases j with
    | zero => simp at hj; subst hj; exact e1
    | succ j => simp at hj; rw [show o + (j + 1) = o + 1 + j by omega]; exact k2 j u hj
theorem CellsAt.drop {b : Nat} {xs : List AV} {o : Nat} (h : CellsAt w S hb N b xs o) (k : Nat) : CellsAt w S hb N b (xs.drop k) (o + k) := fun j y e => by
  rw [List.getElem?_drop] at e
  rw [Nat.add_assoc]
  exact h (k + j) y e
theorem CellsAt.take {b : Nat} {xs : List AV} {o : Nat} (h : CellsAt w S hb N b xs o) (k : Nat) : CellsAt w S hb N b (xs.take k) o := fun j y e => by
  rw [List.getElem?_take] at e
  split at e
  · exact h j y e
  · cases e
theorem CellsAt.of_crepAt {b : Nat} {xs : List AV} {o : Nat} (h : crepAt w S hb b xs o) : CellsAt w S hb N b xs o := fun j y e => by
  obtain ⟨v, e1, e2, e3⟩ := crepAt_get h j y e
  exact ⟨v, e1, e2, crep_isCell e3 e2, crep_srep e3⟩

theorem run_sizeOf {tab : Tab} (hT : TabOK P tab) {t : TypeId} {i : TI} (ht : tab t = some i) : (sizeOf t).run P w = .ok i.size w := by
  obtain ⟨inf, z, h1, h2, _⟩ := hT.info t i ht
  simp [sizeOf, typeInfo, h1, h2]
theorem run_isAgg {tab : Tab} (hT : TabOK P tab) {t : TypeId} {i : TI} (ht : tab t = some i) : (isAgg t).run P w = .ok i.agg w := by
  unfold isAgg
  simp only [Sem.run_bind, run_underlying_ (hT.und t i ht), Result.andThen_ok]
  unfold TI.agg
  cases i.desc <;> rfl
theorem read_ok {tab : Tab} (hT : TabOK P tab) {t : TypeId} {i : TI} (ht : tab t = some i) {b o : Nat} {xs : List AV} {v : AV} (h : CellsAt w S hb N b xs o) (hv : readCells i xs = some v) :
    ∃ cv, (loadVar t ⟨b, o, none⟩).run P w = .ok cv w ∧ frep w S hb N v cv := by
  unfold readCells at hv
  unfold loadVar
  simp only [Sem.run_bind, run_isAgg hT ht, Result.andThen_ok]
  cases ha : i.agg with
  | true =>
    rw [ha] at hv
    simp only [if_true] at hv
    split at hv
    · rename_i hs
      simp only [Option.some.injEq] at hv; subst hv
      obtain ⟨vs, k1, k2⟩ := (h.take i.size).list
      have hl : vs.length = i.size := by rw [srepL_len k1, List.length_take]; omega
      have hr := run_loadCells_list (P := P) w ⟨b, o, none⟩ vs (fun j u hj => by rw [add_at]; exact k2 j u hj)
      rw [hl] at hr
      refine ⟨.agg vs.toArray, ?_, vs.toArray, rfl, by simpa using k1⟩
      simp only [if_true, Sem.run_bind, run_sizeOf hT ht, hr, Result.andThen_ok]
      rfl
    · cases hv
  | false =>
    rw [ha] at hv
    simp only [Bool.false_eq_true, if_false] at hv ⊢
    cases xs with
    | nil => cases hv
    | cons x xs =>
      simp only [List.head?_cons, Option.some.injEq] at hv; subst hv
      obtain ⟨u, e1, e2, e3, e4⟩ := h 0 x rfl
      exact ⟨u, by rw [run_load]; simp only [Nat.add_zero] at e1; rw [e1], by rw [frep_eq (isCell_notAgg e3)]; exact e4⟩

/-- The block of a local object that is there. -/
theorem Inv.obj (I : Inv w0 S0 hb0 xb st a w S hb lb) {d g : Nat} {o : LObj} (e : st.lobj d g = some o) : o.g = g ∧ g < st.gen d ∧ LRep w S hb (nm st lb) d o := by
  obtain ⟨e1, e2⟩ := lobj_some.1 e
  exact ⟨e2, by rw [← e2]; exact I.gens d o e1, I.locs d o e1⟩
theorem LRep.row {d : Nat} {o : LObj} (h : LRep w S hb N d o) (hit : o.it = false) {b cap : Nat} (hl : N.lb d = some (b, cap)) : ∃ arr : Array Value, w.heap[b]? = some (.cells arr o.ty (0, 0)) ∧ arr.size = cap * o.sz ∧ o.xs.length ≤ cap ∧ cap ≤ maxLen ∧
      (∀ (i : Nat) (x : List AV), o.xs[i]? = some x → x.length = o.sz ∧ ∀ (j : Nat) (y : AV), x[j]? = some y → ∃ v, arr[i * o.sz + j]? = some v ∧ v.oneCell' = true ∧ isCell y = true ∧ srep w S hb N y v ∧ (o.frz = true → crep w S hb y v)) ∧
      (if o.frz then S b else ¬ S b) := by
  unfold LRep at h
  rw [hl] at h
  simp only [hit, Bool.false_eq_true, if_false] at h
  exact h
theorem LRep.at_ {d : Nat} {o : LObj} (h : LRep w S hb N d o) (hit : o.it = false) {b cap : Nat} (hl : N.lb d = some (b, cap)) {i : Nat} {x : List AV} (hx : o.xs[i]? = some x) : CellsAt w S hb N b x (i * o.sz) := by
  obtain ⟨arr, h1, _, _, _, h5, _⟩ := h.row hit hl
  intro j y hj
  obtain ⟨v, k1, k2, k3, k4, _⟩ := (h5 i x hx).2 j y hj
  exact ⟨v, by rw [cell_of h1]; exact k1, k2, k3, k4⟩
theorem HRep.at_ {hp : List (List AV)} (h : HRep w S hb hp) {id b : Nat} (hb_ : hb[id]? = some b) {x : List AV} (hx : hp[id]? = some x) : CellsAt w S hb N b x 0 := by
  obtain ⟨arr, ty, h1, h2, h3⟩ := h.cells id b x hb_ hx
  intro j y hj
  obtain ⟨v, k1, k2, k3⟩ := h3 j y hj
  exact ⟨v, by rw [cell_of h1, Nat.zero_add]; exact k1, k2, crep_isCell k3 k2, crep_srep k3⟩

/-- Where a pointer leads, and what lies there. -/
theorem addr_ok (I : Inv w0 S0 hb0 xb st a w S hb lb) {i : TI} {p v : AV} {cp : Value} (hp : frep w S hb (nm st lb) p cp) (hv : loadAt i st p = some v) :
    ∃ b o xs, cp = .pointer (some ⟨b, o, none⟩) ∧ CellsAt w S hb (nm st lb) b xs o ∧ readCells i xs = some v := by
  cases p <;> simp only [loadAt, reduceCtorEq] at hv
  case eptr cs =>
    rw [frep_eq (by rfl)] at hp
    simp only [srep, crep] at hp
    obtain ⟨b, o, e1, _, e3⟩ := hp
    exact ⟨b, o, cs, e1, .of_crepAt e3, hv⟩
  case lptr d g k off =>
    split at hv
    · rename_i o e
      obtain ⟨e1, e2, e3⟩ := I.obj e
      rw [frep_eq (by rfl)] at hp
      obtain ⟨b, cap, k1, k2⟩ := hp.2 o (lobj_some.1 e).1 e1
      split at hv
      · cases hv
      · rename_i hit
        split at hv
        · rename_i x hx
          refine ⟨b, k * o.sz + off, x.drop off, k2, (e3.at_ (by simpa using hit) k1 hx).drop off, hv⟩
        · cases hv
    · cases hv
  case ptr id off =>
    rw [frep_eq (by rfl)] at hp
    simp only [srep, crep] at hp
    obtain ⟨b, e1, e2⟩ := hp
    split at hv
    · rename_i x hx
      refine ⟨b, off, x.drop off, e2, ?_, hv⟩
      have := (I.heap.at_ (N := nm st lb) e1 hx).drop off
      rwa [Nat.zero_add] at this
    · cases hv
theorem load_ok {cf : Cfg} (hT : TabOK P cf.tab) {o : Oper} {t : TypeId} {x : Operand} {i : TI} {p v : AV} (ho : o.op = .load t x) (I : Inv w0 S0 hb0 xb st a w S hb lb) (ht : cf.tab t = some i) (hx : opnd st x = some p) (hv : loadAt i st p = some v) : VOK P w0 S0 hb0 xb o a w v st := by
  obtain ⟨b, f, xs, e1, e2, e3⟩ := addr_ok I (I.opnd hx) hv
  obtain ⟨cv, k1, k2⟩ := read_ok hT ht e2 e3
  refine .here I (cv := cv) (run_v (s := Instr.loadAt t (a.eval x)) (by unfold execOp; rw [ho]) ?_) k2
  rw [e1]
  unfold Instr.loadAt
  simp only [Instr.sureAddr, Sem.run_bind, Sem.run_pure, Result.andThen_ok, k1]
end
end Go.Ev
