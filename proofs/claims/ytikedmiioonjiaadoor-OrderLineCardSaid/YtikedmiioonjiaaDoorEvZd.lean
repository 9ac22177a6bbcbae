/- The abstract interpreter: what holds behind a piece of code, as a proposition that is reckoned step by step. -/
import Derived.Test.YtikedmiioonjiaaDoorEvZc
set_option linter.unusedVariables false
set_option linter.unusedSimpArgs false
set_option linter.unusedSectionVars false
set_option linter.defProp false
namespace Go.Ev
open Go

/-- An equation that is kept as one. -/
theorem nr.{u} {α : Sort u} {a b : α} (h : a = b) : a = b := h
/-- A branch. -/
def Br (t : Bool) (A B : Prop) : Prop := (t = true → A) ∧ (t = false → B)
theorem Br_true {A B : Prop} : Br true A B = A := by simp [Br]
theorem Br_false {A B : Prop} : Br false A B = B := by simp [Br]
theorem Br_not {t : Bool} {A B : Prop} : Br (!t) A B = Br t B A := by cases t <;> simp [Br]
theorem Br_of {t : Bool} {A B : Prop} (h : t = true → A) (g : t = false → B) : Br t A B := ⟨h, g⟩
theorem Br_dec {p : Prop} [Decidable p] {A B : Prop} (h : p → A) (g : ¬ p → B) : Br (decide p) A B := ⟨fun e => h (of_decide_eq_true e), fun e => g (of_decide_eq_false e)⟩
theorem Br_t {t : Bool} {A B : Prop} (h : t = true) (a : A) : Br t A B := ⟨fun _ => a, fun e => by rw [h] at e; cases e⟩
theorem Br_f {t : Bool} {A B : Prop} (h : t = false) (b : B) : Br t A B := ⟨fun e => (by rw [h] at e; cases e), fun _ => b⟩
theorem Br_yes {p : Prop} [Decidable p] {A B : Prop} (h : p) (a : A) : Br (decide p) A B := Br_t (decide_eq_true h) a
theorem Br_no {p : Prop} [Decidable p] {A B : Prop} (h : ¬ p) (b : B) : Br (decide p) A B := Br_f (decide_eq_false h) b

def setFr (st : St) (d : Nat) (v : AV) : St := { st with fr := st.fr.set d v }
def guardSlot (ops : Array Oper) (j : Nat) : Option Tmp := match ops[j]? with
  | some oj => oj.dst
  | none => none
theorem set_same {st : St} {d : Nat} {b : Bool} (h : st.fr.getD d .undef = .bool b) : setFr st d (.bool b) = st := by
  have hl : d < st.fr.length := by
    rcases Nat.lt_or_ge d st.fr.length with hl | hl
    · exact hl
    · rw [List.getD_eq_getElem?_getD, List.getElem?_eq_none hl] at h
      cases h
  have e : st.fr.set d (.bool b) = st.fr := by
    apply List.ext_getElem?
    intro i
    rw [List.getElem?_set]
    by_cases hi : d = i
    · subst hi
      rw [if_pos rfl, if_pos hl, List.getElem?_eq_getElem hl]
      rw [List.getD_eq_getElem?_getD, List.getElem?_eq_getElem hl] at h
      exact congrArg some h.symm
    · rw [if_neg hi]
  unfold setFr
  rw [e]
section
variable (cf : Cfg) (C : Callee) (esc : List Tmp)
def wpA (o : Oper) (st : St) (K : St → Prop) (Kp : AV → St → Prop) : Prop :=
  match aop cf C esc o st with
  | some (.val v st') => K (put st' o.dst v)
  | some (.pan v st') => Kp v st'
  | none => False
/-- A guarded operation: it is carried out, or it is not. -/
def wpG (ops : Array Oper) (o : Oper) (st : St) (K L : St → Prop) : Prop :=
  match o.guard with
  | none => K st
  | some (j, want) => match guardSlot ops j with
    | some d => match st.fr.getD d .undef with
      | .bool b => Br b ((if want then K else fun st => L (put st o.dst (.tuple []))) (setFr st d (.bool true))) ((if want then fun st => L (put st o.dst (.tuple [])) else K) (setFr st d (.bool false)))
      | .tuple [] => L (put st o.dst (.tuple []))
      | _ => False
    | none => False
def wpO (ops : Array Oper) : List Oper → St → (Ex → St → Prop) → Prop
  | [], st, Q => Q .normal st
  | o :: os, st, Q => wpG ops o st (fun st => wpA cf C esc o st (fun st => wpO ops os st Q) (fun v st => Q (.pan v) st)) (fun st => wpO ops os st Q)
/-- One operation of a region that draws. -/
def wpR (ops : Array Oper) (i : Nat) (done : List (Nat × Rec)) (o : Oper) (st : St) (K : Rec → St → Prop) : Prop :=
  match aop cf C esc o st with
  | some (.val v s1) => match recOf esc o st s1 with
    | some r => fitAll ops i r done ∧ K r (put s1 o.dst v)
    | none => False
  | _ => False
def wpD (ops : Array Oper) : Nat → List (Nat × Rec) → List Oper → St → (Ex → St → Prop) → Prop
  | _, _, [], st, Q => Q .normal st
  | i, done, o :: os, st, Q => wpG ops o st (fun st => wpR cf C esc ops i done o st (fun r st => wpD ops (i + 1) ((i, r) :: done) os st Q)) (fun st => wpD ops (i + 1) done os st Q)
/-- What a loop comes to. -/
def wpL (c : Code) (st : St) (Q : Ex → St → Prop) : Prop := ∃ ex st', loopL (EC cf C esc c) (masks c) st = some (ex, st') ∧ Q ex st'
def wp : Code → St → (Ex → St → Prop) → Prop
  | .skip, st, Q => Q .normal st
  | .region _ ops dr, st, Q => if dr then wpD cf C esc ops 0 [] ops.toList st Q else wpO cf C esc ops ops.toList st Q
  | .seq a b, st, Q => wp a st (fun ex st => match ex with
    | .normal => wp b st Q
    | ex => Q ex st)
  | .cond c a b, st, Q => match opnd st c with
    | some (.bool t) => Br t (wp a st Q) (wp b st Q)
    | _ => False
  | .block id c, st, Q => wp c st (fun ex st => match ex with
    | .exit j => if j = id then Q .normal st else Q (.exit j) st
    | ex => Q ex st)
  | .loop c, st, Q => wpL cf C esc c st Q
  | .exit id, st, Q => Q (.exit id) st
  | .ret, st, Q => Q .ret st
  | .label _, st, Q => Q .normal st
  | _, _, _ => False
end
section
variable {cf : Cfg} {C : Callee} {esc : List Tmp}
theorem wanted_none {ops : Array Oper} {o : Oper} {st : St} (h : o.guard = none) : wantedA ops st o = some true := by simp [wantedA, h]
theorem wanted_some {ops : Array Oper} {o : Oper} {st : St} {j : Nat} {want b : Bool} {d : Tmp} (h : o.guard = some (j, want)) (hj : guardSlot ops j = some d) (hb : st.fr.getD d .undef = .bool b) : wantedA ops st o = some (b == want) := by
  unfold guardSlot at hj
  split at hj
  · rename_i oj ho
    simp only [wantedA, h, ho, hj, hb]
  · cases hj
theorem wanted_no {ops : Array Oper} {o : Oper} {st : St} {j : Nat} {want : Bool} {d : Tmp} (h : o.guard = some (j, want)) (hj : guardSlot ops j = some d) (hb : st.fr.getD d .undef = .tuple []) : wantedA ops st o = some false := by
  unfold guardSlot at hj
  split at hj
  · rename_i oj ho
    simp only [wantedA, h, ho, hj, hb]
  · cases hj
theorem wpG_ok {ops : Array Oper} {o : Oper} {st : St} {K L : St → Prop} (h : wpG ops o st K L) : (wantedA ops st o = some true ∧ K st) ∨ (wantedA ops st o = some false ∧ L (put st o.dst (.tuple []))) := by
  unfold wpG at h
  split at h
  · rename_i hg
    exact .inl ⟨wanted_none hg, h⟩
  · rename_i j want hg
    split at h
    · rename_i d hd
      split at h
      · rename_i b hb
        have hw := wanted_some hg hd hb
        cases b with
        | true =>
          rw [Br_true, set_same hb] at h
          cases want with
          | true => exact .inl ⟨hw, h⟩
          | false => exact .inr ⟨hw, h⟩
        | false =>
          rw [Br_false, set_same hb] at h
          cases want with
          | true => exact .inr ⟨hw, h⟩
          | false => exact .inl ⟨hw, h⟩
      · rename_i hb
        exact .inr ⟨wanted_no hg hd hb, h⟩
      · exact h.elim
    · exact h.elim
theorem wpO_ok {ops : Array Oper} : ∀ {l : List Oper} {st : St} {Q : Ex → St → Prop}, wpO cf C esc ops l st Q → ∃ ex st', evOps cf C esc ops l st = some (ex, st') ∧ Q ex st'
  | [], st, Q, h => ⟨.normal, st, rfl, h⟩
  | o :: os, st, Q, h => by
    rw [wpO] at h
    rcases wpG_ok h with ⟨hw, h⟩ | ⟨hw, h⟩
    · unfold wpA at h
      split at h
      · rename_i v st' ha
        obtain ⟨ex, s2, h1, h2⟩ := wpO_ok h
        exact ⟨ex, s2, by rw [evOps, hw]; simp only [ha]; exact h1, h2⟩
      · rename_i v st' ha
        exact ⟨_, _, by rw [evOps, hw]; simp only [ha], h⟩
      · exact h.elim
    · obtain ⟨ex, s2, h1, h2⟩ := wpO_ok h
      exact ⟨ex, s2, by rw [evOps, hw]; exact h1, h2⟩
theorem wpD_ok {ops : Array Oper} : ∀ {l : List Oper} {i : Nat} {done : List (Nat × Rec)} {st : St} {Q : Ex → St → Prop}, wpD cf C esc ops i done l st Q → ∃ ex st', evDL cf C esc ops i done l st = some (ex, st') ∧ Q ex st'
  | [], _, _, st, Q, h => ⟨.normal, st, by rw [evDL], by rw [wpD] at h; exact h⟩
  | o :: os, i, done, st, Q, h => by
    rw [wpD] at h
    rcases wpG_ok h with ⟨hw, h⟩ | ⟨hw, h⟩
    · unfold wpR at h
      split at h
      · rename_i v st' ha
        split at h
        · rename_i r hr
          obtain ⟨hf, h⟩ := h
          obtain ⟨ex, s2, h1, h2⟩ := wpD_ok h
          exact ⟨ex, s2, by rw [evDL, hw]; simp only [ha, hr, if_pos hf]; exact h1, h2⟩
        · exact h.elim
      · exact h.elim
    · obtain ⟨ex, s2, h1, h2⟩ := wpD_ok h
      exact ⟨ex, s2, by rw [evDL, hw]; exact h1, h2⟩
theorem wp_ok : ∀ {c : Code} {st : St} {Q : Ex → St → Prop}, wp cf C esc c st Q → ∃ ex st', EC cf C esc c st = some (ex, st') ∧ Q ex st' := by
  intro c
  induction c with
  | skip => intro st Q h; exact ⟨_, _, rfl, h⟩
  | region id ops dr =>
    intro st Q h
    rw [wp] at h
    split at h
    · rename_i hd
      obtain ⟨ex, s, h1, h2⟩ := wpD_ok h
      exact ⟨ex, s, by rw [EC, if_pos hd, evD]; exact h1, h2⟩
    · rename_i hd
      obtain ⟨ex, s, h1, h2⟩ := wpO_ok h
      exact ⟨ex, s, by rw [EC, if_neg hd]; exact h1, h2⟩
  | seq a b iha ihb =>
    intro st Q h
    rw [wp] at h
    obtain ⟨ex, s, h1, h2⟩ := iha h
    cases ex with
    | normal =>
      obtain ⟨ex, s2, h3, h4⟩ := ihb h2
      exact ⟨ex, s2, by rw [EC, h1]; exact h3, h4⟩
    | exit j => exact ⟨_, s, by rw [EC, h1], h2⟩
    | ret => exact ⟨_, s, by rw [EC, h1], h2⟩
    | pan v => exact ⟨_, s, by rw [EC, h1], h2⟩
  | cond c a b iha ihb =>
    intro st Q h
    rw [wp] at h
    split at h
    · rename_i t hc
      cases t with
      | true =>
        rw [Br_true] at h
        obtain ⟨ex, s, h1, h2⟩ := iha h
        exact ⟨ex, s, by rw [EC, hc]; exact h1, h2⟩
      | false =>
        rw [Br_false] at h
        obtain ⟨ex, s, h1, h2⟩ := ihb h
        exact ⟨ex, s, by rw [EC, hc]; exact h1, h2⟩
    · exact h.elim
  | block id c ih =>
    intro st Q h
    rw [wp] at h
    obtain ⟨ex, s, h1, h2⟩ := ih h
    cases ex with
    | normal => exact ⟨_, s, by rw [EC, h1], h2⟩
    | exit j =>
      simp only at h2
      split at h2
      · rename_i hj
        exact ⟨_, s, by rw [EC, h1]; simp only [if_pos hj], h2⟩
      · rename_i hj
        exact ⟨_, s, by rw [EC, h1]; simp only [if_neg hj], h2⟩
    | ret => exact ⟨_, s, by rw [EC, h1], h2⟩
    | pan v => exact ⟨_, s, by rw [EC, h1], h2⟩
  | loop c ih =>
    intro st Q h
    rw [wp] at h
    obtain ⟨ex, s, h1, h2⟩ := h
    exact ⟨ex, s, by rw [EC]; exact h1, h2⟩
  | exit id => intro st Q h; exact ⟨_, _, rfl, h⟩
  | ret => intro st Q h; exact ⟨_, _, rfl, h⟩
  | label _ => intro st Q h; exact ⟨_, _, rfl, h⟩
  | _ => intro st Q h; simp [wp] at h
/-- A LOOP: what stands at its head, by a datum; a measure. -/
theorem wp_loop {α : Type} {c : Code} {m : List Nat × List Nat} (hm : masks c = m) (S : α → St) (I : α → Prop) (μ : α → Nat) {st : St} {Q : Ex → St → Prop} (a0 : α) (h0 : maskSt m st = S a0) (hI : I a0)
    (hs : ∀ a, I a → wp cf C esc c (S a) (fun ex st => match ex with
      | .normal => ∃ b, maskSt m st = S b ∧ I b ∧ μ b < μ a
      | ex => Q ex st)) : wp cf C esc (.loop c) st Q := by
  subst hm
  have key : ∀ n a st, μ a ≤ n → maskSt (masks c) st = S a → I a → ∃ ex st', loopL (EC cf C esc c) (masks c) st = some (ex, st') ∧ Q ex st' := by
    intro n
    induction n with
    | zero =>
      intro a st hn h0 hI
      obtain ⟨ex, s1, h1, h2⟩ := wp_ok (hs a hI)
      rw [← h0] at h1
      cases ex with
      | normal => obtain ⟨b, _, _, h⟩ := h2; omega
      | exit j => exact ⟨_, s1, by rw [loopL_eq, h1], h2⟩
      | ret => exact ⟨_, s1, by rw [loopL_eq, h1], h2⟩
      | pan v => exact ⟨_, s1, by rw [loopL_eq, h1], h2⟩
    | succ n ih =>
      intro a st hn h0 hI
      obtain ⟨ex, s1, h1, h2⟩ := wp_ok (hs a hI)
      rw [← h0] at h1
      cases ex with
      | normal =>
        obtain ⟨b, k1, k2, k3⟩ := h2
        obtain ⟨ex, s2, g1, g2⟩ := ih b s1 (by omega) k1 k2
        exact ⟨ex, s2, by rw [loopL_eq, h1]; exact g1, g2⟩
      | exit j => exact ⟨_, s1, by rw [loopL_eq, h1], h2⟩
      | ret => exact ⟨_, s1, by rw [loopL_eq, h1], h2⟩
      | pan v => exact ⟨_, s1, by rw [loopL_eq, h1], h2⟩
  rw [wp]
  exact key _ a0 st (Nat.le_refl _) h0 hI
/-- What holds behind a piece of code may be weakened: a cut. -/
theorem wp_mono' {c : Code} : ∀ {st : St} {Q R : Ex → St → Prop}, wp cf C esc c st Q → (∀ ex st, Q ex st → R ex st) → ∃ ex st', EC cf C esc c st = some (ex, st') ∧ R ex st' := by
  intro st Q R h hQ
  obtain ⟨ex, s, h1, h2⟩ := wp_ok h
  exact ⟨ex, s, h1, hQ _ _ h2⟩
end
/-! ### Continuations as data, so that no text is looked at before it is reached. -/
inductive Fr where
  | code (c : Code)
  | blk (id : Nat)
  | lp (c : Code)
section
variable (cf : Cfg) (C : Callee) (esc : List Tmp)
def wpK (k : List Fr) (Q : Ex → St → Prop) (ex : Ex) (st : St) : Prop := match k with
  | [] => Q ex st
  | .code b :: k => match ex with
    | .normal => wp cf C esc b st (wpK k Q)
    | ex => wpK k Q ex st
  | .blk id :: k => match ex with
    | .exit j => if j = id then wpK k Q .normal st else wpK k Q (.exit j) st
    | ex => wpK k Q ex st
  | .lp c :: k => match ex with
    | .normal => wp cf C esc (.loop c) st (wpK k Q)
    | ex => wpK k Q ex st
def wpX (ops : Array Oper) (os : List Oper) (Q : Ex → St → Prop) (d : Option Tmp) : Option Out → Prop
  | some (.val v st) => wpO cf C esc ops os (put st d v) Q
  | some (.pan v st) => Q (.pan v) st
  | none => False
/-- A branch whose ways are not yet gone. -/
def wpB (t : Bool) (a b : Code) (st : St) (Q : Ex → St → Prop) : Prop := Br t (wp cf C esc a st Q) (wp cf C esc b st Q)
/-- A guarded operation whose guard (slot e) is not known. -/
def wpY (ops : Array Oper) (os : List Oper) (Q : Ex → St → Prop) (o : Oper) (want : Bool) (e : Tmp) (st : St) (t : Bool) : Prop :=
  Br t (if want then wpX cf C esc ops os Q o.dst (aop cf C esc o (setFr st e (.bool true))) else wpO cf C esc ops os (put (setFr st e (.bool true)) o.dst (.tuple [])) Q)
    (if want then wpO cf C esc ops os (put (setFr st e (.bool false)) o.dst (.tuple [])) Q else wpX cf C esc ops os Q o.dst (aop cf C esc o (setFr st e (.bool false))))
/-- .. in a region that draws. -/
def wpZ2 (ops : Array Oper) (i : Nat) (done : List (Nat × Rec)) (os : List Oper) (Q : Ex → St → Prop) (d : Option Tmp) (v : AV) (s1 : St) : Option Rec → Prop
  | some r => fitAll ops i r done ∧ wpD cf C esc ops (i + 1) ((i, r) :: done) os (put s1 d v) Q
  | none => False
def wpZ (ops : Array Oper) (i : Nat) (done : List (Nat × Rec)) (os : List Oper) (Q : Ex → St → Prop) (o : Oper) (st : St) : Option Out → Prop
  | some (.val v s1) => wpZ2 cf C esc ops i done os Q o.dst v s1 (recOf esc o st s1)
  | _ => False
def wpW (ops : Array Oper) (i : Nat) (done : List (Nat × Rec)) (os : List Oper) (Q : Ex → St → Prop) (o : Oper) (want : Bool) (e : Tmp) (st : St) (t : Bool) : Prop :=
  Br t (if want then wpZ cf C esc ops i done os Q o (setFr st e (.bool true)) (aop cf C esc o (setFr st e (.bool true))) else wpD cf C esc ops (i + 1) done os (put (setFr st e (.bool true)) o.dst (.tuple [])) Q)
    (if want then wpD cf C esc ops (i + 1) done os (put (setFr st e (.bool false)) o.dst (.tuple [])) Q else wpZ cf C esc ops i done os Q o (setFr st e (.bool false)) (aop cf C esc o (setFr st e (.bool false))))
end
section
variable {cf : Cfg} {C : Callee} {esc : List Tmp} {k : List Fr} {Q : Ex → St → Prop} {st : St} {a b c : Code} {ops : Array Oper} {os : List Oper} {d : Option Tmp} {v : AV} {i : Nat} {done : List (Nat × Rec)}
theorem wpK_nil {ex : Ex} : wpK cf C esc [] Q ex st = Q ex st := nr rfl
theorem wpK_code : wpK cf C esc (.code b :: k) Q .normal st = wp cf C esc b st (wpK cf C esc k Q) := nr rfl
theorem wpK_code_ret : wpK cf C esc (.code b :: k) Q .ret st = wpK cf C esc k Q .ret st := nr rfl
theorem wpK_code_exit {j : Nat} : wpK cf C esc (.code b :: k) Q (.exit j) st = wpK cf C esc k Q (.exit j) st := nr rfl
theorem wpK_code_pan : wpK cf C esc (.code b :: k) Q (.pan v) st = wpK cf C esc k Q (.pan v) st := nr rfl
theorem wpK_blk {id : Nat} : wpK cf C esc (.blk id :: k) Q .normal st = wpK cf C esc k Q .normal st := nr rfl
theorem wpK_blk_ret {id : Nat} : wpK cf C esc (.blk id :: k) Q .ret st = wpK cf C esc k Q .ret st := nr rfl
theorem wpK_blk_exit {id j : Nat} : wpK cf C esc (.blk id :: k) Q (.exit j) st = (if j = id then wpK cf C esc k Q .normal st else wpK cf C esc k Q (.exit j) st) := nr rfl
theorem wpK_blk_pan {id : Nat} : wpK cf C esc (.blk id :: k) Q (.pan v) st = wpK cf C esc k Q (.pan v) st := nr rfl
theorem wpK_lp : wpK cf C esc (.lp b :: k) Q .normal st = wp cf C esc (.loop b) st (wpK cf C esc k Q) := nr rfl
theorem wpK_lp_ret : wpK cf C esc (.lp b :: k) Q .ret st = wpK cf C esc k Q .ret st := nr rfl
theorem wpK_lp_exit {j : Nat} : wpK cf C esc (.lp b :: k) Q (.exit j) st = wpK cf C esc k Q (.exit j) st := nr rfl
theorem wpK_lp_pan : wpK cf C esc (.lp b :: k) Q (.pan v) st = wpK cf C esc k Q (.pan v) st := nr rfl
/-- One round of a loop. -/
theorem ew_unroll {m : List Nat × List Nat} (hm : masks c = m) (h : wp cf C esc c (maskSt m st) (wpK cf C esc (.lp c :: k) Q)) : wp cf C esc (.loop c) st (wpK cf C esc k Q) := by
  subst hm
  obtain ⟨ex, s1, h1, h2⟩ := wp_ok h
  rw [wp]
  unfold wpL
  cases ex with
  | normal =>
    rw [wpK_lp, wp] at h2
    obtain ⟨ex, s2, h3, h4⟩ := h2
    exact ⟨ex, s2, by rw [loopL_eq, h1]; exact h3, h4⟩
  | exit j => exact ⟨_, s1, by rw [loopL_eq, h1], h2⟩
  | ret => exact ⟨_, s1, by rw [loopL_eq, h1], h2⟩
  | pan v => exact ⟨_, s1, by rw [loopL_eq, h1], h2⟩
theorem ew_seq : wp cf C esc (.seq a b) st (wpK cf C esc k Q) = wp cf C esc a st (wpK cf C esc (.code b :: k) Q) := nr rfl
theorem ew_block {id : Nat} : wp cf C esc (.block id c) st (wpK cf C esc k Q) = wp cf C esc c st (wpK cf C esc (.blk id :: k) Q) := nr rfl
theorem ew_skip : wp cf C esc .skip st (wpK cf C esc k Q) = wpK cf C esc k Q .normal st := nr rfl
theorem ew_exit {id : Nat} : wp cf C esc (.exit id) st (wpK cf C esc k Q) = wpK cf C esc k Q (.exit id) st := nr rfl
theorem ew_ret : wp cf C esc .ret st (wpK cf C esc k Q) = wpK cf C esc k Q .ret st := nr rfl
theorem ew_label {n : Nat} : wp cf C esc (.label n) st (wpK cf C esc k Q) = wpK cf C esc k Q .normal st := nr rfl
theorem ew_region {n : Nat} {l : List Oper} : wp cf C esc (.region n l.toArray false) st (wpK cf C esc k Q) = wpO cf C esc l.toArray l st (wpK cf C esc k Q) := nr rfl
theorem ew_draws {n : Nat} {l : List Oper} : wp cf C esc (.region n l.toArray true) st (wpK cf C esc k Q) = wpD cf C esc l.toArray 0 [] l st (wpK cf C esc k Q) := nr rfl
theorem ew_cond {t : Tmp} : wp cf C esc (.cond (.tmp t) a b) st (wpK cf C esc k Q) = (match st.fr.getD t .undef with
    | .bool t => wpB cf C esc t a b st (wpK cf C esc k Q)
    | _ => False) := by
  show (match some (st.fr.getD t .undef) with | some (.bool t) => _ | _ => False) = _
  cases st.fr.getD t .undef <;> rfl
theorem wpB_true : wpB cf C esc true a b st Q = wp cf C esc a st Q := Br_true
theorem wpB_false : wpB cf C esc false a b st Q = wp cf C esc b st Q := Br_false
theorem wpB_dec {p : Prop} [Decidable p] (h : p → wp cf C esc a st Q) (g : ¬ p → wp cf C esc b st Q) : wpB cf C esc (decide p) a b st Q := Br_dec h g
theorem wpB_of {t : Bool} (h : t = true → wp cf C esc a st Q) (g : t = false → wp cf C esc b st Q) : wpB cf C esc t a b st Q := Br_of h g
theorem wpB_yes {p : Prop} [Decidable p] (hp : p) (h : wp cf C esc a st Q) : wpB cf C esc (decide p) a b st Q := Br_yes hp h
theorem wpB_no {p : Prop} [Decidable p] (hp : ¬ p) (h : wp cf C esc b st Q) : wpB cf C esc (decide p) a b st Q := Br_no hp h
theorem wpO_nil : wpO cf C esc ops [] st (wpK cf C esc k Q) = wpK cf C esc k Q .normal st := nr rfl
theorem wpX_val : wpX cf C esc ops os Q d (some (.val v st)) = wpO cf C esc ops os (put st d v) Q := nr rfl
theorem wpX_pan : wpX cf C esc ops os (wpK cf C esc k Q) d (some (.pan v st)) = wpK cf C esc k Q (.pan v) st := nr rfl
section
variable {ty : TypeId} {pos : String} {after : Array Edge} {op : Op} {j : Nat}
theorem wpO_none : wpO cf C esc ops (⟨d, op, ty, pos, after, none⟩ :: os) st Q = wpX cf C esc ops os Q d (aop cf C esc ⟨d, op, ty, pos, after, none⟩ st) := by
  rw [wpO]
  have e : ∀ K L : St → Prop, wpG ops ⟨d, op, ty, pos, after, none⟩ st K L = K st := fun _ _ => rfl
  rw [e]
  unfold wpA
  cases aop cf C esc ⟨d, op, ty, pos, after, none⟩ st with
  | none => rfl
  | some o => cases o <;> rfl
theorem wpO_some {want : Bool} : wpO cf C esc ops (⟨d, op, ty, pos, after, some (j, want)⟩ :: os) st Q = (match guardSlot ops j with
    | some e => match st.fr.getD e .undef with
      | .bool t => wpY cf C esc ops os Q ⟨d, op, ty, pos, after, some (j, want)⟩ want e st t
      | .tuple [] => wpO cf C esc ops os (put st d (.tuple [])) Q
      | _ => False
    | none => False) := by
  have key : ∀ s, wpA cf C esc ⟨d, op, ty, pos, after, some (j, want)⟩ s (fun st => wpO cf C esc ops os st Q) (fun v st => Q (.pan v) st) = wpX cf C esc ops os Q d (aop cf C esc ⟨d, op, ty, pos, after, some (j, want)⟩ s) := by
    intro s
    unfold wpA
    cases aop cf C esc ⟨d, op, ty, pos, after, some (j, want)⟩ s with
    | none => rfl
    | some o => cases o <;> rfl
  rw [wpO]
  unfold wpG wpY
  simp only [key]
  cases guardSlot ops j with
  | none => rfl
  | some e => cases want <;> rfl
theorem wpY_true {o : Oper} {e : Tmp} : wpY cf C esc ops os Q o true e st true = wpX cf C esc ops os Q o.dst (aop cf C esc o (setFr st e (.bool true))) := Br_true
theorem wpY_off {o : Oper} {e : Tmp} : wpY cf C esc ops os Q o true e st false = wpO cf C esc ops os (put (setFr st e (.bool false)) o.dst (.tuple [])) Q := Br_false
theorem wpY_not {o : Oper} {e : Tmp} : wpY cf C esc ops os Q o false e st false = wpX cf C esc ops os Q o.dst (aop cf C esc o (setFr st e (.bool false))) := Br_false
theorem wpY_no {o : Oper} {e : Tmp} : wpY cf C esc ops os Q o false e st true = wpO cf C esc ops os (put (setFr st e (.bool true)) o.dst (.tuple [])) Q := Br_true
theorem wpY_t {o : Oper} {e : Tmp} {t : Bool} : wpY cf C esc ops os Q o true e st t = Br t (wpX cf C esc ops os Q o.dst (aop cf C esc o (setFr st e (.bool true)))) (wpO cf C esc ops os (put (setFr st e (.bool false)) o.dst (.tuple [])) Q) := by
  unfold wpY; simp
theorem wpY_f {o : Oper} {e : Tmp} {t : Bool} : wpY cf C esc ops os Q o false e st t = Br t (wpO cf C esc ops os (put (setFr st e (.bool true)) o.dst (.tuple [])) Q) (wpX cf C esc ops os Q o.dst (aop cf C esc o (setFr st e (.bool false)))) := by
  unfold wpY; simp
theorem wpD_nil : wpD cf C esc ops i done [] st (wpK cf C esc k Q) = wpK cf C esc k Q .normal st := nr rfl
theorem wpZ_val {o : Oper} {s1 : St} : wpZ cf C esc ops i done os Q o st (some (.val v s1)) = wpZ2 cf C esc ops i done os Q o.dst v s1 (recOf esc o st s1) := nr rfl
theorem wpZ2_some {s1 : St} {r : Rec} : wpZ2 cf C esc ops i done os Q d v s1 (some r) = (fitAll ops i r done ∧ wpD cf C esc ops (i + 1) ((i, r) :: done) os (put s1 d v) Q) := nr rfl
theorem wpD_none : wpD cf C esc ops i done (⟨d, op, ty, pos, after, none⟩ :: os) st Q = wpZ cf C esc ops i done os Q ⟨d, op, ty, pos, after, none⟩ st (aop cf C esc ⟨d, op, ty, pos, after, none⟩ st) := by
  rw [wpD]
  have e : ∀ K L : St → Prop, wpG ops ⟨d, op, ty, pos, after, none⟩ st K L = K st := fun _ _ => rfl
  rw [e]
  unfold wpR wpZ wpZ2
  cases aop cf C esc ⟨d, op, ty, pos, after, none⟩ st with
  | none => rfl
  | some o => cases o <;> rfl
theorem wpD_some {want : Bool} : wpD cf C esc ops i done (⟨d, op, ty, pos, after, some (j, want)⟩ :: os) st Q = (match guardSlot ops j with
    | some e => match st.fr.getD e .undef with
      | .bool t => wpW cf C esc ops i done os Q ⟨d, op, ty, pos, after, some (j, want)⟩ want e st t
      | .tuple [] => wpD cf C esc ops (i + 1) done os (put st d (.tuple [])) Q
      | _ => False
    | none => False) := by
  have key : ∀ s, wpR cf C esc ops i done ⟨d, op, ty, pos, after, some (j, want)⟩ s (fun r st => wpD cf C esc ops (i + 1) ((i, r) :: done) os st Q) = wpZ cf C esc ops i done os Q ⟨d, op, ty, pos, after, some (j, want)⟩ s (aop cf C esc ⟨d, op, ty, pos, after, some (j, want)⟩ s) := by
    intro s
    unfold wpR wpZ wpZ2
    cases aop cf C esc ⟨d, op, ty, pos, after, some (j, want)⟩ s with
    | none => rfl
    | some o => cases o <;> rfl
  rw [wpD]
  unfold wpG wpW
  simp only [key]
  cases guardSlot ops j with
  | none => rfl
  | some e => cases want <;> rfl
theorem wpW_true {o : Oper} {e : Tmp} : wpW cf C esc ops i done os Q o true e st true = wpZ cf C esc ops i done os Q o (setFr st e (.bool true)) (aop cf C esc o (setFr st e (.bool true))) := Br_true
theorem wpW_off {o : Oper} {e : Tmp} : wpW cf C esc ops i done os Q o true e st false = wpD cf C esc ops (i + 1) done os (put (setFr st e (.bool false)) o.dst (.tuple [])) Q := Br_false
theorem wpW_not {o : Oper} {e : Tmp} : wpW cf C esc ops i done os Q o false e st false = wpZ cf C esc ops i done os Q o (setFr st e (.bool false)) (aop cf C esc o (setFr st e (.bool false))) := Br_false
theorem wpW_no {o : Oper} {e : Tmp} : wpW cf C esc ops i done os Q o false e st true = wpD cf C esc ops (i + 1) done os (put (setFr st e (.bool true)) o.dst (.tuple [])) Q := Br_true
theorem wpW_t {o : Oper} {e : Tmp} {t : Bool} : wpW cf C esc ops i done os Q o true e st t = Br t (wpZ cf C esc ops i done os Q o (setFr st e (.bool true)) (aop cf C esc o (setFr st e (.bool true)))) (wpD cf C esc ops (i + 1) done os (put (setFr st e (.bool false)) o.dst (.tuple [])) Q) := by
  unfold wpW; simp
theorem wpW_f {o : Oper} {e : Tmp} {t : Bool} : wpW cf C esc ops i done os Q o false e st t = Br t (wpD cf C esc ops (i + 1) done os (put (setFr st e (.bool true)) o.dst (.tuple [])) Q) (wpZ cf C esc ops i done os Q o (setFr st e (.bool false)) (aop cf C esc o (setFr st e (.bool false)))) := by
  unfold wpW; simp
theorem wpB_br {t : Bool} : wpB cf C esc t a b st Q = Br t (wp cf C esc a st Q) (wp cf C esc b st Q) := nr rfl
theorem wpY_dec {o : Oper} {e : Tmp} {w : Bool} {p : Prop} [Decidable p] (h : p → wpY cf C esc ops os Q o w e st true) (g : ¬ p → wpY cf C esc ops os Q o w e st false) : wpY cf C esc ops os Q o w e st (decide p) := by
  by_cases hp : p
  · rw [decide_eq_true hp]; exact h hp
  · rw [decide_eq_false hp]; exact g hp
theorem wpW_dec {o : Oper} {e : Tmp} {w : Bool} {p : Prop} [Decidable p] (h : p → wpW cf C esc ops i done os Q o w e st true) (g : ¬ p → wpW cf C esc ops i done os Q o w e st false) : wpW cf C esc ops i done os Q o w e st (decide p) := by
  by_cases hp : p
  · rw [decide_eq_true hp]; exact h hp
  · rw [decide_eq_false hp]; exact g hp
theorem wpY_of {o : Oper} {e : Tmp} {w t : Bool} (h : t = true → wpY cf C esc ops os Q o w e st true) (g : t = false → wpY cf C esc ops os Q o w e st false) : wpY cf C esc ops os Q o w e st t := by
  cases t
  · exact g rfl
  · exact h rfl
theorem wpW_of {o : Oper} {e : Tmp} {w t : Bool} (h : t = true → wpW cf C esc ops i done os Q o w e st true) (g : t = false → wpW cf C esc ops i done os Q o w e st false) : wpW cf C esc ops i done os Q o w e st t := by
  cases t
  · exact g rfl
  · exact h rfl
end
/-- A LOOP, with what stands behind it as data. Q of a round: the next head, or the way out. -/
def wpH {α : Type} (m : List Nat × List Nat) (S : α → St) (I : α → Prop) (μ : α → Nat) (a : α) (Q : Ex → St → Prop) (ex : Ex) (st : St) : Prop := match ex with
  | .normal => ∃ b, maskSt m st = S b ∧ I b ∧ μ b < μ a
  | ex => Q ex st
section
variable {α : Type} {m : List Nat × List Nat} {S : α → St} {I : α → Prop} {μ : α → Nat} {x : α}
theorem wpH_normal : wpH m S I μ x Q .normal st = ∃ b, maskSt m st = S b ∧ I b ∧ μ b < μ x := nr rfl
theorem wpH_ret : wpH m S I μ x (wpK cf C esc k Q) .ret st = wpK cf C esc k Q .ret st := nr rfl
theorem wpH_exit {j : Nat} : wpH m S I μ x (wpK cf C esc k Q) (.exit j) st = wpK cf C esc k Q (.exit j) st := nr rfl
theorem wpH_pan : wpH m S I μ x (wpK cf C esc k Q) (.pan v) st = wpK cf C esc k Q (.pan v) st := nr rfl
end
theorem wp_loopK {α : Type} {m : List Nat × List Nat} (hm : masks c = m) (S : α → St) (I : α → Prop) (μ : α → Nat) (h0 : ∃ a, maskSt m st = S a ∧ I a)
    (hs : ∀ a, I a → wp cf C esc c (S a) (wpK cf C esc [] (wpH m S I μ a (wpK cf C esc k Q)))) : wp cf C esc (.loop c) st (wpK cf C esc k Q) := by
  obtain ⟨a0, h0, hI⟩ := h0
  refine wp_loop hm S I μ a0 h0 hI fun a ha => ?_
  have h := hs a ha
  have e : wpK cf C esc [] (wpH m S I μ a (wpK cf C esc k Q)) = fun ex st => (match ex with
      | .normal => ∃ b, maskSt m st = S b ∧ I b ∧ μ b < μ a
      | ex => wpK cf C esc k Q ex st) := by
    funext ex st
    cases ex <;> rfl
  rw [e] at h
  exact h
end
/-- What a function's end comes to. -/
def Fin (cf : Cfg) (f : FuncId) (rs : List ResultVar) (r : Res) (ex : Ex) (st : St) : Prop := finish cf f rs (some (ex, st)) = some r
theorem Fin_mk {cf : Cfg} {f : FuncId} {rs : List ResultVar} {r : Res} {ex : Ex} {fr : List AV} {loc : List (Option LObj)} {gen : Nat → Nat} {hp : List (List AV)} : Fin cf f rs r ex ⟨fr, loc, gen, hp⟩ = (finish cf f rs (some (ex, ⟨fr, loc, gen, hp⟩)) = some r) := nr rfl
/-- A function, by its text. -/
theorem F_wp {P : Program} {cf : Cfg} {pr : Callee → Callee} {f : FuncId} {fn : Func} {c : Code} {args : List AV} {hp : List (List AV)} {st : St} {r : Res} {rs : List ResultVar} (h : P.funcs[f]? = some fn) (hp_ : cf.prim f = false) (hb : fn.body = some c) (hs : begin_ (cf.xf f) fn.ntmps args hp = some st) (hrs : fn.results.toList = rs)
    (hw : wp cf (F P cf pr) (cf.esc f) c st (wpK cf (F P cf pr) (cf.esc f) [] (Fin cf f rs r))) : F P cf pr f args hp = some r := by
  subst hrs
  obtain ⟨ex, s, h1, h2⟩ := wp_ok hw
  exact F_in h hp_ hb hs (by rw [h1]; exact h2)
end Go.Ev
