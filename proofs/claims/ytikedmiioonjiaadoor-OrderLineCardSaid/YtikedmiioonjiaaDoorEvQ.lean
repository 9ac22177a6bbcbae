/- The abstract interpreter: code. -/
import Derived.Test.YtikedmiioonjiaaDoorEvP
import Derived.LoopN
set_option linter.unusedVariables false
set_option linter.unusedSimpArgs false
set_option linter.unusedSectionVars false
set_option linter.defProp false
namespace Go.Ev
open Go
section
variable {P : Program} {w0 : World} {S0 : Nat → Prop} {hb0 : List Nat} {xb : Option Nat} {st st' : St} {a : Act} {w w' : World} {S S' : Nat → Prop} {hb hb' : List Nat} {lb lb' : Nat → Option (Nat × Nat)} {N : Nm}

/-- Where code ends. -/
def ExOK (w0 : World) (S0 : Nat → Prop) (hb0 : List Nat) (xb : Option Nat) (ex : Ex) (st : St) : Exit → Act → World → Prop
  | .normal, a, w => ex = .normal ∧ ∃ S hb lb, Inv w0 S0 hb0 xb st a w S hb lb
  | .exit j, a, w => ex = .exit j ∧ ∃ S hb lb, Inv w0 S0 hb0 xb st a w S hb lb
  | .ret, a, w => ex = .ret ∧ ∃ S hb lb, Inv w0 S0 hb0 xb st a w S hb lb
  | .panic chain, a, w => ∃ v cv, ex = .pan v ∧ chain = [{ v := cv, recovered := false }] ∧ ∃ S hb lb, Inv w0 S0 hb0 xb st a w S hb lb ∧ crep w S hb v cv
  | _, _, _ => False

theorem frep_no {N : Nm} : frep w S hb N (.tuple []) undef := by
  rw [frep_eq (by rfl)]
  show crep w S hb _ _
  rw [crep]
  exact ⟨#[], rfl, by simp [crepL]⟩
theorem wanted_ok {ops : Array Oper} (I : Inv w0 S0 hb0 xb st a w S hb lb) {o : Oper} {b : Bool} (h : wantedA ops st o = some b) : Region.wanted o (yielded ops a.tmps) = b := by
  unfold wantedA at h
  unfold Region.wanted
  split at h
  · rename_i hg
    simp only [Option.some.injEq] at h; subst h
    rw [hg]
  · rename_i j want hg
    rw [hg]
    split at h
    · rename_i oj hj
      split at h
      · rename_i d hd
        split at h
        · rename_i t ht
          simp only [Option.some.injEq] at h; subst h
          have hs := I.slot d
          rw [ht, frep_bool] at hs
          have hlt : d < a.tmps.size := by
            rw [I.frlen]
            rcases Nat.lt_or_ge d st.fr.length with hl | hl
            · exact hl
            · rw [List.getD_eq_getElem?_getD, List.getElem?_eq_none hl] at ht; cases ht
          have hs2 : a.tmps[d]? = some (.bool t) := by
            rw [Array.getD_eq_getD_getElem?, Array.getElem?_eq_getElem hlt] at hs
            rw [Array.getElem?_eq_getElem hlt]
            simpa using hs
          have : yielded ops a.tmps j = some t := by
            unfold yielded
            simp only [hj, Option.bind_some, hd, hs2]
          simp only [this]
          cases t <;> cases want <;> rfl
        · rename_i ht
          simp only [Option.some.injEq] at h; subst h
          have hs := I.slot d
          rw [ht, frep_eq (by rfl)] at hs
          have hs2 : crep w S hb (.tuple []) (a.tmps.getD d undef) := hs
          rw [crep] at hs2
          obtain ⟨z, k1, k2⟩ := hs2
          have hz : yielded ops a.tmps j = none := by
            unfold yielded
            simp only [hj, Option.bind_some, hd]
            rw [Array.getD_eq_getD_getElem?] at k1
            cases e : a.tmps[d]? with
            | none => rfl
            | some v => rw [e] at k1; simp only [Option.getD_some] at k1; subst k1; rfl
          simp only [hz]
          cases want <;> rfl
        · cases h
      · cases h
    · cases h
theorem ops_ok {cf : Cfg} {C : Callee} {esc : List Tmp} (hT : TabOK P cf.tab) (hM : MethOK P cf) (hC : COKat P cf C w0 S0 hb0 xb) {ops : Array Oper} : ∀ {l : List Oper} {st st' : St} {ex : Ex} {a : Act} {w : World} {S : Nat → Prop} {hb : List Nat} {lb : Nat → Option (Nat × Nat)}, Inv w0 S0 hb0 xb st a w S hb lb → evOps cf C esc ops l st = some (ex, st') → wpList P ops (ExOK w0 S0 hb0 xb ex st') l a w
  | [], st, st', ex, a, w, S, hb, lb, I, h => by
    simp only [evOps, Option.some.injEq, Prod.mk.injEq] at h
    obtain ⟨rfl, rfl⟩ := h
    exact ⟨rfl, S, hb, lb, I⟩
  | o :: os, st, st', ex, a, w, S, hb, lb, I, h => by
    simp only [evOps] at h
    unfold wpList
    split at h
    · rename_i hw
      rw [wanted_ok I hw]
      simp only [if_true]
      refine .inl ?_
      split at h
      · rename_i v s1 ho
        refine op_ok hT hM hC I ho _ _ (fun v' st'' e cv w' S' hb' lb' I' hv => ?_) (fun v' st'' e => by cases e)
        simp only [Out.val.injEq] at e
        obtain ⟨rfl, rfl⟩ := e
        exact ops_ok hT hM hC (I'.put o.dst hv) h
      · rename_i v s1 ho
        simp only [Option.some.injEq, Prod.mk.injEq] at h
        obtain ⟨rfl, rfl⟩ := h
        refine op_ok hT hM hC I ho _ _ (fun v' st'' e => by cases e) (fun v' st'' e cv w' S' hb' lb' I' hv => ?_)
        simp only [Out.pan.injEq] at e
        obtain ⟨rfl, rfl⟩ := e
        exact ⟨_, cv, rfl, rfl, S', hb', lb', I', hv⟩
      · cases h
    · rename_i hw
      rw [wanted_ok I hw]
      simp only [Bool.false_eq_true, if_false]
      exact ops_ok hT hM hC (I.put o.dst (x := .tuple []) (v := undef) frep_no) h
    · cases h
theorem Inv.mask1 (I : Inv w0 S0 hb0 xb st a w S hb lb) (d : Nat) : Inv w0 S0 hb0 xb { st with fr := st.fr.set d .undef } a w S hb lb :=
  { I with
    frlen := by simpa using I.frlen
    loclen := by simpa using I.loclen
    frame := fun i x hx => by
      rw [List.getElem?_set] at hx
      by_cases e : d = i
      · subst e
        simp only [if_true] at hx
        split at hx
        · rename_i hl
          simp only [Option.some.injEq] at hx; subst hx
          refine ⟨a.tmps[d]'(by rw [I.frlen]; exact hl), Array.getElem?_eq_getElem _, trivial⟩
        · cases hx
      · rw [if_neg e] at hx
        exact I.frame i x hx }
theorem Inv.maskF : ∀ (ts : List Nat) {st : St}, Inv w0 S0 hb0 xb st a w S hb lb → Inv w0 S0 hb0 xb { st with fr := maskFr ts st.fr } a w S hb lb
  | [], _, I => I
  | d :: ts, _, I => Inv.maskF ts (I.mask1 d)
/-- A local object that nobody looks at any more. -/
theorem Inv.drop (I : Inv w0 S0 hb0 xb st a w S hb lb) (d : Nat) : Inv w0 S0 hb0 xb { st with loc := st.loc.set d none } a w S hb lb := by
  have hd : ({ st with loc := st.loc.set d none } : St).loc.getD d none = none := by
    rw [List.getD_eq_getElem?_getD, List.getElem?_set]
    simp only [if_true]
    split <;> rfl
  exact (I.step (st' := { st with loc := st.loc.set d none }) (lb' := lb) d ⟨fun _ h => h, fun _ _ => rfl, fun _ _ h => h⟩ rfl rfl rfl (Nat.le_refl _) (fun _ _ _ _ => ⟨rfl, fun h => h⟩) I.Slt (fun _ h => .inl h) I.heap rfl (by simp) (fun _ => Nat.le_refl _)
    (fun e he => ⟨by show (st.loc.set d none).getD e none = _; rw [List.getD_eq_getElem?_getD, List.getD_eq_getElem?_getD, List.getElem?_set, if_neg (Ne.symm he)], rfl⟩) (fun o' h => by rw [hd] at h; cases h)).1
theorem Inv.maskL : ∀ (ts : List Nat) {st : St}, Inv w0 S0 hb0 xb st a w S hb lb → Inv w0 S0 hb0 xb { st with loc := maskLoc ts st.loc } a w S hb lb
  | [], _, I => I
  | d :: ts, _, I => Inv.maskL ts (I.drop d)
theorem Inv.mask (m : List Nat × List Nat) {st : St} (I : Inv w0 S0 hb0 xb st a w S hb lb) : Inv w0 S0 hb0 xb (maskSt m st) a w S hb lb :=
  Inv.maskL m.2 (Inv.maskF m.1 I)

/-- Regions that draw their order. -/
def DrawOK (P : Program) (cf : Cfg) : Prop :=
  ∀ (C : Callee) (esc : List Tmp) (ops : Array Oper) (id : Nat), staticB ops = true → ∀ (w0 : World) (S0 : Nat → Prop) (hb0 : List Nat) (xb : Option Nat) (st st' : St) (ex : Ex) (a : Act) (w : World) (S : Nat → Prop) (hb : List Nat) (lb : Nat → Option (Nat × Nat)),
    COKat P cf C w0 S0 hb0 xb → Inv w0 S0 hb0 xb st a w S hb lb → evD cf C esc ops st = some (ex, st') → (Code.region id ops true).wp P (ExOK w0 S0 hb0 xb ex st') a w
theorem code_ok {cf : Cfg} {C : Callee} {esc : List Tmp} (hT : TabOK P cf.tab) (hM : MethOK P cf) (hD : DrawOK P cf) (hC : COKat P cf C w0 S0 hb0 xb) (k : Nat) : ∀ (c : Code), codeB c = true → ∀ {st st' : St} {ex : Ex} {a : Act} {w : World} {S : Nat → Prop} {hb : List Nat} {lb : Nat → Option (Nat × Nat)}, Inv w0 S0 hb0 xb st a w S hb lb → evC cf C esc k c st = some (ex, st') → c.wp P (ExOK w0 S0 hb0 xb ex st') a w := by
  intro c
  induction c with
  | skip =>
    intro hS st st' ex a w S hb lb I h
    simp only [evC, Option.some.injEq, Prod.mk.injEq] at h
    obtain ⟨rfl, rfl⟩ := h
    exact wp_skip ⟨rfl, S, hb, lb, I⟩
  | region id ops dr =>
    intro hS st st' ex a w S hb lb I h
    simp only [evC] at h
    cases dr with
    | true => exact hD C esc ops id (by simpa [codeB] using hS) w0 S0 hb0 xb st st' ex a w S hb lb hC I (by simpa using h)
    | false => exact wp_region_list (ops_ok hT hM hC I (by simpa using h))
  | seq x y ihx ihy =>
    intro hS st st' ex a w S hb lb I h
    simp only [codeB, Bool.and_eq_true] at hS
    have ihx := @ihx hS.1
    have ihy := @ihy hS.2
    simp only [evC] at h
    refine wp_seq ?_
    split at h
    · rename_i s1 h1
      refine wp_mono (ihx I h1) fun e a1 w1 he => ?_
      cases e with
      | normal =>
        obtain ⟨_, S1, hb1, lb1, I1⟩ := he
        exact ihy I1 h
      | exit j => obtain ⟨e1, _⟩ := he; cases e1
      | ret => obtain ⟨e1, _⟩ := he; cases e1
      | panic ch => obtain ⟨v, cv, e1, _⟩ := he; cases e1
      | goto l => exact he.elim
      | outgrown => exact he.elim
    · rename_i hne
      have h1 : evC cf C esc k x st = some (ex, st') := h
      refine wp_mono (ihx I h1) fun e a1 w1 he => ?_
      cases e with
      | normal =>
        obtain ⟨e1, _⟩ := he
        subst e1
        exact (hne st' h1).elim
      | exit j => exact he
      | ret => exact he
      | panic ch => exact he
      | goto l => exact he
      | outgrown => exact he
  | cond c x y ihx ihy =>
    intro hS st st' ex a w S hb lb I h
    simp only [codeB, Bool.and_eq_true] at hS
    have ihx := @ihx hS.1
    have ihy := @ihy hS.2
    simp only [evC] at h
    split at h
    · rename_i hc
      exact wp_cond_true (frep_bool.1 (I.opnd hc)) (ihx I h)
    · rename_i hc
      exact wp_cond_false (frep_bool.1 (I.opnd hc)) (ihy I h)
    · cases h
  | block id c ih =>
    intro hS st st' ex a w S hb lb I h
    have ih := @ih hS
    simp only [evC] at h
    refine wp_block ?_
    split at h
    · rename_i j s1 h1
      refine wp_mono (ih I h1) fun e a1 w1 he => ?_
      cases e with
      | exit j' =>
        obtain ⟨e1, I1⟩ := he
        simp only [Ex.exit.injEq] at e1; subst e1
        show if _ then _ else _
        split at h
        · rename_i hj
          rw [if_pos hj]
          simp only [Option.some.injEq, Prod.mk.injEq] at h
          obtain ⟨rfl, rfl⟩ := h
          exact ⟨rfl, I1⟩
        · rename_i hj
          rw [if_neg hj]
          simp only [Option.some.injEq, Prod.mk.injEq] at h
          obtain ⟨rfl, rfl⟩ := h
          exact ⟨rfl, I1⟩
      | normal => obtain ⟨e1, _⟩ := he; cases e1
      | ret => obtain ⟨e1, _⟩ := he; cases e1
      | panic ch => obtain ⟨v, cv, e1, _⟩ := he; cases e1
      | goto l => exact he.elim
      | outgrown => exact he.elim
    · rename_i hne
      have h1 : evC cf C esc k c st = some (ex, st') := h
      refine wp_mono (ih I h1) fun e a1 w1 he => ?_
      cases e with
      | exit j' =>
        obtain ⟨e1, _⟩ := he
        subst e1
        exact (hne _ _ h1).elim
      | normal => exact he
      | ret => exact he
      | panic ch => exact he
      | goto l => exact he
      | outgrown => exact he
  | loop c ih =>
    intro hS st st' ex a w S hb lb I h
    have ih := @ih hS
    simp only [evC] at h
    refine wp_loop_rounds k ?_
    have key : ∀ (n : Nat) {st : St} {a : Act} {w : World} {S : Nat → Prop} {hb : List Nat} {lb : Nat → Option (Nat × Nat)}, Inv w0 S0 hb0 xb st a w S hb lb → loopN (evC cf C esc k c) (masks c) n st = some (ex, st') → Code.rounds P c (ExOK w0 S0 hb0 xb ex st') n a w := by
      intro n
      induction n with
      | zero => intro st a w S hb lb I h; simp [loopN] at h
      | succ n ihn =>
        intro st a w S hb lb I h
        simp only [loopN] at h
        rw [rounds_succ]
        split at h
        · rename_i s1 h1
          refine wp_mono (ih (I.mask _) h1) fun e a1 w1 he => ?_
          cases e with
          | normal =>
            obtain ⟨_, S1, hb1, lb1, I1⟩ := he
            exact ihn I1 h
          | exit j => obtain ⟨e1, _⟩ := he; cases e1
          | ret => obtain ⟨e1, _⟩ := he; cases e1
          | panic ch => obtain ⟨v, cv, e1, _⟩ := he; cases e1
          | goto l => exact he.elim
          | outgrown => exact he.elim
        · rename_i hne
          refine wp_mono (ih (I.mask _) h) fun e a1 w1 he => ?_
          cases e with
          | normal =>
            obtain ⟨e1, _⟩ := he
            subst e1
            exact (hne _ h).elim
          | exit j => exact he
          | ret => exact he
          | panic ch => exact he
          | goto l => exact he
          | outgrown => exact he
    exact key k I h
  | exit id =>
    intro hS st st' ex a w S hb lb I h
    simp only [evC, Option.some.injEq, Prod.mk.injEq] at h
    obtain ⟨rfl, rfl⟩ := h
    exact wp_exit ⟨rfl, S, hb, lb, I⟩
  | label l =>
    intro hS st st' ex a w S hb lb I h
    simp only [evC, Option.some.injEq, Prod.mk.injEq] at h
    obtain ⟨rfl, rfl⟩ := h
    exact wp_label ⟨rfl, S, hb, lb, I⟩
  | ret =>
    intro hS st st' ex a w S hb lb I h
    simp only [evC, Option.some.injEq, Prod.mk.injEq] at h
    obtain ⟨rfl, rfl⟩ := h
    exact wp_ret ⟨rfl, S, hb, lb, I⟩
  | _ => intro hS st st' ex a w S hb lb I h; simp [evC] at h
end
end Go.Ev
