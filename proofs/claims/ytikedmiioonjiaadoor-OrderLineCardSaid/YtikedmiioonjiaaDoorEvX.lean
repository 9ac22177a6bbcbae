/- The abstract interpreter: neighbours that no edge orders may be swapped. -/
import Derived.Test.YtikedmiioonjiaaDoorEvW
set_option linter.unusedVariables false
set_option linter.unusedSimpArgs false
set_option linter.unusedSectionVars false
set_option linter.defProp false
namespace Go.Ev
open Go
section
variable {s s1 s2 s3 t u : St} {cf : Cfg} {C : Callee} {esc : List Tmp} {o : Oper} {v : AV} {r : Rec} {ops : Array Oper}

theorem Par.refl (sl : List Nat) (s : St) : Par sl s s := ⟨rfl, fun _ _ => rfl, fun _ _ => rfl⟩
theorem HPar.refl (hk : HK) (s : St) : HPar hk s s := by cases hk <;> first | trivial | rfl
theorem act1_touch {n : Nat} {x : Prop} (h : act1 cf C esc ops o s v s1 r) (hk : r.hk = .touch n x) : r.hk = touchOf s s1 := by
  rcases h with ⟨_, _, h⟩ | ⟨_, _, _, rfl⟩
  · exact rec_touch h hk
  · cases hk
theorem act1_T (hw : wantedA ops s2 o = wantedA ops s o) (hev : ∀ x ∈ o.op.operands.toList, opnd s2 x = opnd s x) (h : Par r.slots s s2) (hh : HPar r.hk s s2) (e : act1 cf C esc ops o s v s1 r) :
    ∃ s3, act1 cf C esc ops o s2 v s3 r ∧ Par r.slots s1 s3 ∧ Rest r.slots s s1 ∧ Rest r.slots s2 s3 ∧ HOut r.hk s s2 s1 s3 ∧ (r.quiet = true → s1 = s ∧ s3 = s2) := by
  rcases e with ⟨h1, h2, h3⟩ | ⟨h1, rfl, rfl, rfl⟩
  · obtain ⟨s3, k1, k2, k3, k4, k5, k6, k7⟩ := aop_T hev h hh h2 h3
    exact ⟨s3, .inl ⟨by rw [hw]; exact h1, k1, k2⟩, k3, k4, k5, k6, k7⟩
  · exact ⟨s2, .inr ⟨by rw [hw]; exact h1, rfl, rfl, rfl⟩, h, .refl _ _, .refl _ _, ⟨rfl, rfl⟩, fun _ => ⟨rfl, rfl⟩⟩
theorem getD_ext {l m : List (Option LObj)} (h : l.length = m.length) (k : ∀ d, l.getD d none = m.getD d none) : l = m := by
  apply List.ext_getElem? 
  intro d
  have := k d
  simp only [List.getD_eq_getElem?_getD] at this
  by_cases hd : d < l.length
  · rw [List.getElem?_eq_getElem hd, List.getElem?_eq_getElem (h ▸ hd)] at this ⊢
    simpa using this
  · rw [List.getElem?_eq_none (by omega), List.getElem?_eq_none (by omega)]
theorem put_core {dst : Option Tmp} {w : AV} : (put s dst w).loc = s.loc ∧ (put s dst w).gen = s.gen ∧ (put s dst w).hp = s.hp := by
  cases dst <;> exact ⟨rfl, rfl, rfl⟩
theorem put_comm {d e : Option Tmp} {v w : AV} (h : ∀ x, d = some x → e ≠ some x) (f : List AV) : (put { s with fr := (put { s with fr := f } d v).fr } e w).fr = (put { s with fr := (put { s with fr := f } e w).fr } d v).fr := by
  cases d with
  | none => rfl
  | some d =>
    cases e with
    | none => rfl
    | some e =>
      have : d ≠ e := fun hh => h d rfl (by rw [hh])
      simp only [put]
      exact List.set_comm _ _ this
theorem put_fr {d : Option Tmp} {v : AV} : (put s d v).fr = (put { s1 with fr := s.fr } d v).fr := by
  cases d <;> rfl
/-- What the first does, the second does not see. -/
theorem hk_apart {p q : HK} {s s1 t1 s' : St} (hf : hkFit p q) (hp : ∀ n x, p = .touch n x → p = touchOf s s1) (h1 : HOut p s s' s1 t1) : HPar q s1 s := by
  cases q with
  | no => trivial
  | rd id =>
    show s.hp[id]? = s1.hp[id]?
    cases p with
    | no => rw [h1.1]
    | rd id' => rw [h1.1]
    | touch n x =>
      have hx := hp n x rfl
      obtain ⟨hx1, hx2⟩ : x ∧ id < n := hf
      simp only [touchOf, HK.touch.injEq] at hx
      obtain ⟨rfl, hx3⟩ := hx
      rw [hx3] at hx1
      obtain ⟨new, hx1⟩ := hx1
      rw [hx1, List.getElem?_append_left hx2]
  | touch n x =>
    show s.hp = s1.hp
    cases p with
    | no => exact h1.1.symm
    | rd id => exact h1.1.symm
    | touch n' x' => exact hf.elim
theorem disj_nil (xs : List Nat) : disj xs [] = true := by induction xs with | nil => rfl | cons x xs ih => simp [disj, ih]
theorem disj_symm {xs ys : List Nat} (h : disj xs ys = true) : disj ys xs = true := by
  have key : ∀ ys : List Nat, (∀ d, d ∈ ys → d ∉ xs) → disj ys xs = true := by
    intro ys
    induction ys with
    | nil => intro _; rfl
    | cons y ys ih =>
      intro h
      simp only [disj, Bool.and_eq_true, Bool.not_eq_true', List.contains_eq_mem, decide_eq_false_iff_not]
      exact ⟨h y (by simp), ih fun d hd => h d (by simp [hd])⟩
  exact key ys fun d hd hx => disj_mem h d hx hd
theorem hkFit_symm {p q : HK} (h : hkFit p q) : hkFit q p := by cases p <;> cases q <;> first | exact h | trivial
theorem fit_symm {p q : Rec} (h : fit p q) : fit q p := ⟨h.1.imp (fun k => ⟨k.2, k.1⟩) disj_symm, hkFit_symm h.2⟩

theorem swap {oi oj : Oper} {vi vj : AV} {s1 t1 : St} {qi qj : Rec} (hap : oi.apart ops oj = true) (hi : act1 cf C esc ops oi s vi s1 qi) (hj : act1 cf C esc ops oj (put s1 oi.dst vi) vj t1 qj) (hf : fit qi qj) :
    ∃ t3 t4, act1 cf C esc ops oj s vj t3 qj ∧ act1 cf C esc ops oi (put t3 oj.dst vj) vi t4 qi ∧ put t4 oi.dst vi = put t1 oj.dst vj := by
  obtain ⟨a1, a2, a3⟩ := Oper.apart_spec hap
  obtain ⟨_, _, _, ri, _, hoi, qti⟩ := act1_T rfl (fun _ _ => rfl) (Par.refl qi.slots s) (HPar.refl qi.hk s) hi
  obtain ⟨_, _, _, rj, _, hoj, qtj⟩ := act1_T rfl (fun _ _ => rfl) (Par.refl qj.slots _) (HPar.refl qj.hk _) hj
  have c1 := put_core (s := s1) (dst := oi.dst) (w := vi)
  -- the second, from the first's beginning
  have pj : Par qj.slots (put s1 oi.dst vi) s := by
    refine ⟨by rw [c1.1, ri.len], fun d hd => ?_, fun d hd => ?_⟩
    · rw [c1.1]
      rcases hf.1 with h | h
      · rw [(qti h.1).1]
      · exact (ri.loc d (fun hi => disj_mem h d hi hd)).symm
    · rw [c1.2.1]
      rcases hf.1 with h | h
      · rw [(qti h.1).1]
      · exact (ri.gen d (fun hi => disj_mem h d hi hd)).symm
  have hpj : HPar qj.hk (put s1 oi.dst vi) s := by
    have := hk_apart (t1 := _) (s' := _) hf.2 (fun n x h => act1_touch hi h) hoi
    cases hq : qj.hk with
    | no => trivial
    | rd id => rw [hq] at this; show s.hp[id]? = (put s1 oi.dst vi).hp[id]?; rw [c1.2.2]; exact this
    | touch n x => rw [hq] at this; show s.hp = (put s1 oi.dst vi).hp; rw [c1.2.2]; exact this
  obtain ⟨t3, j1, j2, j3, j4, j5, j6⟩ := act1_T (s2 := s) (by rw [wantedA_put (fun d hd => a1 d hd), wantedA_fr ri.fr]) (fun x hx => by rw [looks_opnd (fun d hd => a1 d hd) x hx, opnd_fr ri.fr]) pj hpj hj
  have c3 := put_core (s := t3) (dst := oj.dst) (w := vj)
  have pi : Par qi.slots s (put t3 oj.dst vj) := by
    refine ⟨by rw [c3.1, j4.len], fun d hd => ?_, fun d hd => ?_⟩
    · rw [c3.1]
      rcases hf.1 with h | h
      · rw [(j6 h.2).2]
      · exact j4.loc d (disj_mem h d hd)
    · rw [c3.2.1]
      rcases hf.1 with h | h
      · rw [(j6 h.2).2]
      · exact j4.gen d (disj_mem h d hd)
  have hpi : HPar qi.hk s (put t3 oj.dst vj) := by
    cases hq : qi.hk with
    | no => trivial
    | rd id =>
      show (put t3 oj.dst vj).hp[id]? = s.hp[id]?
      rw [c3.2.2]
      cases hqj : qj.hk with
      | no => rw [hqj] at j5; rw [j5.2]
      | rd id' => rw [hqj] at j5; rw [j5.2]
      | touch n x =>
        have hx := act1_touch j1 hqj
        rw [hqj] at hx
        have hff := hf.2
        rw [hq, hqj] at hff
        obtain ⟨hx1, hx2⟩ : x ∧ id < n := hff
        simp only [touchOf, HK.touch.injEq] at hx
        obtain ⟨rfl, hx3⟩ := hx
        rw [hx3] at hx1
        obtain ⟨new, hx1⟩ := hx1
        rw [hx1, List.getElem?_append_left hx2]
    | touch n x =>
      show (put t3 oj.dst vj).hp = s.hp
      rw [c3.2.2]
      have hff := hf.2
      rw [hq] at hff
      cases hqj : qj.hk with
      | no => rw [hqj] at j5; exact j5.2
      | rd id' => rw [hqj] at j5; exact j5.2
      | touch n' x' => rw [hqj] at hff; exact hff.elim
  obtain ⟨t4, i1, i2, i3, i4, i5, i6⟩ := act1_T (s2 := put t3 oj.dst vj) (by rw [wantedA_put (fun d hd => a3 d hd), wantedA_fr j4.fr]) (fun x hx => by rw [looks_opnd (fun d hd => a3 d hd) x hx, opnd_fr j4.fr]) pi hpi hi
  refine ⟨t3, t4, j1, i1, ?_⟩
  have c4 := put_core (s := t4) (dst := oi.dst) (w := vi)
  have ct := put_core (s := t1) (dst := oj.dst) (w := vj)
  have efr : (put t4 oi.dst vi).fr = (put t1 oj.dst vj).fr := by
    rw [put_fr (s1 := s) (s := t4), put_fr (s1 := s) (s := t1), i4.fr, put_fr (s1 := s) (s := t3), j4.fr, rj.fr, put_fr (s1 := s) (s := s1), ri.fr]
    exact put_comm (s := s) (fun x hx hy => a2 x hy hx) s.fr
  have eloc : (put t4 oi.dst vi).loc = (put t1 oj.dst vj).loc := by
    rw [c4.1, ct.1]
    refine getD_ext (by rw [i4.len, c3.1, j4.len, rj.len, c1.1, ri.len]) fun d => ?_
    by_cases hdi : d ∈ qi.slots
    · rcases hf.1 with h | h
      · rw [(i6 h.1).2, c3.1, (j6 h.2).2, (j6 h.2).1, c1.1, (qti h.1).1]
      · rw [i2.loc d hdi, rj.loc d (disj_mem h d hdi), c1.1]
    · rw [i4.loc d hdi, c3.1]
      by_cases hdj : d ∈ qj.slots
      · exact j2.loc d hdj
      · rw [j4.loc d hdj, rj.loc d hdj, c1.1, ri.loc d hdi]
  have egen : (put t4 oi.dst vi).gen = (put t1 oj.dst vj).gen := by
    rw [c4.2.1, ct.2.1]
    funext d
    by_cases hdi : d ∈ qi.slots
    · rcases hf.1 with h | h
      · rw [(i6 h.1).2, c3.2.1, (j6 h.2).2, (j6 h.2).1, c1.2.1, (qti h.1).1]
      · rw [i2.gen d hdi, rj.gen d (disj_mem h d hdi), c1.2.1]
    · rw [i4.gen d hdi, c3.2.1]
      by_cases hdj : d ∈ qj.slots
      · exact j2.gen d hdj
      · rw [j4.gen d hdj, rj.gen d hdj, c1.2.1, ri.gen d hdi]
  have ehp : (put t4 oi.dst vi).hp = (put t1 oj.dst vj).hp := by
    rw [c4.2.2, ct.2.2]
    have hff := hf.2
    cases hq : qi.hk with
    | touch n x =>
      rw [hq] at i5 hff
      have i5 : t4.hp = s1.hp := i5
      cases hqj : qj.hk with
      | no => rw [hqj] at j5; rw [i5, j5.1, c1.2.2]
      | rd id => rw [hqj] at j5; rw [i5, j5.1, c1.2.2]
      | touch n' x' => rw [hqj] at hff; exact hff.elim
    | no =>
      rw [hq] at i5
      have e1 : t4.hp = (put t3 oj.dst vj).hp := i5.2
      have e0 : s1.hp = s.hp := i5.1
      rw [e1, c3.2.2]
      cases hqj : qj.hk with
      | no => rw [hqj] at j5; rw [j5.2, j5.1, c1.2.2, e0]
      | rd id => rw [hqj] at j5; rw [j5.2, j5.1, c1.2.2, e0]
      | touch n' x' => rw [hqj] at j5; exact j5
    | rd id =>
      rw [hq] at i5
      have e1 : t4.hp = (put t3 oj.dst vj).hp := i5.2
      have e0 : s1.hp = s.hp := i5.1
      rw [e1, c3.2.2]
      cases hqj : qj.hk with
      | no => rw [hqj] at j5; rw [j5.2, j5.1, c1.2.2, e0]
      | rd id => rw [hqj] at j5; rw [j5.2, j5.1, c1.2.2, e0]
      | touch n' x' => rw [hqj] at j5; exact j5
  cases ha : put t4 oi.dst vi
  cases hb : put t1 oj.dst vj
  rw [ha, hb] at efr eloc egen ehp
  simp only at efr eloc egen ehp
  subst efr eloc egen ehp
  rfl
end
end Go.Ev
