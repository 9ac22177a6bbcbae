/- The abstract interpreter: without fuel. What a function comes to, when there is fuel enough. -/
import Derived.Test.YtikedmiioonjiaaDoorEvZb
set_option linter.unusedVariables false
set_option linter.unusedSimpArgs false
set_option linter.unusedSectionVars false
set_option linter.defProp false
namespace Go.Ev
open Go

/-- From some fuel on. -/
def Evt (p : Nat → Prop) : Prop := ∃ k0, ∀ k, k0 ≤ k → p k
theorem Evt.of {p : Nat → Prop} (h : ∀ k, p k) : Evt p := ⟨0, fun k _ => h k⟩
theorem Evt.and {p q : Nat → Prop} : Evt p → Evt q → Evt fun k => p k ∧ q k
  | ⟨a, h⟩, ⟨b, g⟩ => ⟨max a b, fun k hk => ⟨h k (by omega), g k (by omega)⟩⟩
theorem Evt.mono {p q : Nat → Prop} (h : Evt p) (f : ∀ k, p k → q k) : Evt q := by
  obtain ⟨a, h⟩ := h
  exact ⟨a, fun k hk => f k (h k hk)⟩
theorem Evt.next {p : Nat → Prop} : Evt (fun k => p (k + 1)) → Evt p
  | ⟨a, h⟩ => ⟨a + 1, fun k hk => by
    obtain ⟨j, rfl⟩ : ∃ j, k = j + 1 := ⟨k - 1, by omega⟩
    exact h j (by omega)⟩
theorem Evt.some {p : Nat → Prop} (h : Evt p) : ∃ k, p k := by
  obtain ⟨a, h⟩ := h
  exact ⟨a, h a (Nat.le_refl _)⟩

section
variable (P : Program) (cf : Cfg) (pr : Callee → Callee)
open Classical in
/-- What a function comes to. -/
noncomputable def F : Callee := fun f args hp => if h : ∃ r, Evt fun k => evF P cf pr k f args hp = some r then some (Classical.choose h) else none
variable {P cf pr}
theorem F_of {f : FuncId} {args : List AV} {hp : List (List AV)} {r : Res} (h : Evt fun k => evF P cf pr k f args hp = some r) : F P cf pr f args hp = some r := by
  have hh : ∃ r, Evt fun k => evF P cf pr k f args hp = some r := ⟨r, h⟩
  unfold F
  rw [dif_pos hh]
  obtain ⟨k, h1, h2⟩ := (h.and (Classical.choose_spec hh)).some
  rw [← h2, h1]
theorem F_evt {f : FuncId} {args : List AV} {hp : List (List AV)} {r : Res} (h : F P cf pr f args hp = some r) : Evt fun k => evF P cf pr k f args hp = some r := by
  unfold F at h
  split at h
  · rename_i hh
    simp only [Option.some.injEq] at h
    rw [← h]
    exact Classical.choose_spec hh
  · cases h
end

/-- A loop, as often as it goes. -/
theorem loopN_succ {body : St → Option (Ex × St)} {ts : List Nat × List Nat} : ∀ {n : Nat} {st : St} {r : Ex × St}, loopN body ts n st = some r → loopN body ts (n + 1) st = some r
  | 0, _, _, h => by simp [loopN] at h
  | n + 1, st, r, h => by
    rw [loopN] at h ⊢
    split at h
    · rename_i st' hb
      exact loopN_succ h
    · exact h
theorem loopN_le {body : St → Option (Ex × St)} {ts : List Nat × List Nat} {n m : Nat} {st : St} {r : Ex × St} (h : loopN body ts n st = some r) (hm : n ≤ m) : loopN body ts m st = some r := by
  obtain ⟨d, rfl⟩ := Nat.le.dest hm
  induction d with
  | zero => exact h
  | succ d ih => exact loopN_succ (ih (by omega))
open Classical in
noncomputable def loopL (body : St → Option (Ex × St)) (ts : List Nat × List Nat) (st : St) : Option (Ex × St) :=
  if h : ∃ r, ∃ n, loopN body ts n st = some r then some (Classical.choose h) else none
theorem loopL_of {body : St → Option (Ex × St)} {ts : List Nat × List Nat} {n : Nat} {st : St} {r : Ex × St} (h : loopN body ts n st = some r) : loopL body ts st = some r := by
  have hh : ∃ r, ∃ n, loopN body ts n st = some r := ⟨r, n, h⟩
  unfold loopL
  rw [dif_pos hh]
  obtain ⟨m, hm⟩ := Classical.choose_spec hh
  have h1 := loopN_le h (Nat.le_max_left n m)
  have h2 := loopN_le hm (Nat.le_max_right n m)
  rw [← h2, h1]
theorem loopL_ex {body : St → Option (Ex × St)} {ts : List Nat × List Nat} {st : St} {r : Ex × St} (h : loopL body ts st = some r) : ∃ n, loopN body ts n st = some r := by
  unfold loopL at h
  split at h
  · rename_i hh
    simp only [Option.some.injEq] at h
    rw [← h]
    exact Classical.choose_spec hh
  · cases h
theorem loopL_eq (body : St → Option (Ex × St)) (ts : List Nat × List Nat) (st : St) : loopL body ts st = match body (maskSt ts st) with
    | some (.normal, st') => loopL body ts st'
    | r => r := by
  split
  · rename_i st' hb
    cases hl : loopL body ts st' with
    | some r =>
      obtain ⟨n, hn⟩ := loopL_ex hl
      exact loopL_of (n := n + 1) (by rw [loopN, hb]; exact hn)
    | none =>
      cases hs : loopL body ts st with
      | none => rfl
      | some r =>
        obtain ⟨n, hn⟩ := loopL_ex hs
        cases n with
        | zero => simp [loopN] at hn
        | succ n =>
          rw [loopN, hb] at hn
          rw [loopL_of hn] at hl
          cases hl
  · rename_i hne
    cases hb : body (maskSt ts st) with
    | none =>
      cases hs : loopL body ts st with
      | none => rfl
      | some r =>
        obtain ⟨n, hn⟩ := loopL_ex hs
        cases n with
        | zero => simp [loopN] at hn
        | succ n => rw [loopN, hb] at hn; cases hn
    | some r =>
      obtain ⟨ex, st'⟩ := r
      refine loopL_of (n := 1) ?_
      rw [loopN, hb]
      cases ex with
      | normal => exact absurd hb (hne st')
      | exit _ => rfl
      | ret => rfl
      | pan _ => rfl

/-- Code, its callees as they come to. -/
noncomputable def EC (cf : Cfg) (C : Callee) (esc : List Tmp) : Code → St → Option (Ex × St)
  | .skip, st => some (.normal, st)
  | .region _ ops dr, st => if dr then evD cf C esc ops st else evOps cf C esc ops ops.toList st
  | .seq a b, st => match EC cf C esc a st with
    | some (.normal, st) => EC cf C esc b st
    | r => r
  | .cond c a b, st => match opnd st c with
    | some (.bool true) => EC cf C esc a st
    | some (.bool false) => EC cf C esc b st
    | _ => none
  | .block id c, st => match EC cf C esc c st with
    | some (.exit j, st) => if j = id then some (.normal, st) else some (.exit j, st)
    | r => r
  | .loop c, st => loopL (EC cf C esc c) (masks c) st
  | .exit id, st => some (.exit id, st)
  | .ret, st => some (.ret, st)
  | .label _, st => some (.normal, st)
  | _, _ => none

def Appr (C : Callee) (D : Nat → Callee) : Prop := ∀ f a h r, C f a h = some r → Evt fun k => D k f a h = some r
section
variable {cf : Cfg} {C : Callee} {D : Nat → Callee}
theorem callV_appr (hA : Appr C D) {st : St} {d : Option Tmp} {f : FuncId} {args : List AV} {o : Out} (h : callV cf C st d f args = some o) : Evt fun k => callV cf (D k) st d f args = some o := by
  unfold callV at h
  split at h
  · rename_i hx
    split at h
    · rename_i e g rest
      split at h
      · rename_i r hr
        split at h
        · rename_i ob ho
          split at h
          · rename_i hc
            cases hC : C f (.orow ob.ty ob.sz ob.xs :: r.1) r.2.hp with
            | none => rw [hC] at h; cases h
            | some x =>
              refine (hA _ _ _ _ hC).mono fun k hk => ?_
              rw [hC] at h
              unfold callV
              rw [if_pos hx]
              simp only [hr, ho, hk]
              rw [if_pos hc]
              exact h
          · cases h
        · cases h
      · cases h
    · cases h
  · rename_i hx
    split at h
    · rename_i r hr
      cases hC : C f r.1 r.2.hp with
      | none => rw [hC] at h; cases h
      | some x =>
        refine (hA _ _ _ _ hC).mono fun k hk => ?_
        rw [hC] at h
        unfold callV
        rw [if_neg hx]
        simp only [hr, hk]
        exact h
    · cases h
theorem aop_appr (hA : Appr C D) {esc : List Tmp} {o : Oper} {st : St} {out : Out} (h : aop cf C esc o st = some out) : Evt fun k => aop cf (D k) esc o st = some out := by
  cases hop : o.op with
  | call c =>
    cases hc : c.callee with
    | builtin b => exact .of fun k => by simpa only [aop, hop, hc] using h
    | value f =>
      simp only [aop, hop, hc] at h
      split at h
      · rename_i g cap hf
        split at h
        · rename_i as has
          exact (callV_appr hA h).mono fun k hk => by simp only [aop, hop, hc, hf, has, hk]
        · cases h
      · cases h
    | invoke r name =>
      simp only [aop, hop, hc] at h
      split at h
      · rename_i t v hr
        split at h
        · rename_i g hg
          split at h
          · rename_i as has
            exact (callV_appr hA h).mono fun k hk => by simp only [aop, hop, hc, hr, hg, has, hk]
          · cases h
        · cases h
      · cases h
  | _ => exact .of fun k => by simpa only [aop, hop] using h
theorem evOps_appr (hA : Appr C D) {esc : List Tmp} {ops : Array Oper} : ∀ {l : List Oper} {st : St} {r : Ex × St}, evOps cf C esc ops l st = some r → Evt fun k => evOps cf (D k) esc ops l st = some r
  | [], _, _, h => .of fun k => h
  | o :: os, st, r, h => by
    rw [evOps] at h
    split at h
    · rename_i hw
      split at h
      · rename_i v st' ha
        exact ((aop_appr hA ha).and (evOps_appr hA h)).mono fun k ⟨h1, h2⟩ => by rw [evOps, hw]; simp only [h1, h2]
      · rename_i v st' ha
        exact (aop_appr hA ha).mono fun k h1 => by rw [evOps, hw]; simp only [h1]; exact h
      · cases h
    · rename_i hw
      exact (evOps_appr hA h).mono fun k h2 => by rw [evOps, hw]; simp only [h2]
    · cases h
theorem evDL_appr (hA : Appr C D) {esc : List Tmp} {ops : Array Oper} : ∀ {l : List Oper} {i : Nat} {done : List (Nat × Rec)} {st : St} {r : Ex × St}, evDL cf C esc ops i done l st = some r → Evt fun k => evDL cf (D k) esc ops i done l st = some r
  | [], _, _, _, _, h => .of fun k => by rw [evDL] at h ⊢; exact h
  | o :: os, i, done, st, r, h => by
    rw [evDL] at h
    split at h
    · rename_i hw
      split at h
      · rename_i v st' ha
        split at h
        · rename_i rc hrc
          split at h
          · rename_i hf
            exact ((aop_appr hA ha).and (evDL_appr hA h)).mono fun k ⟨h1, h2⟩ => by rw [evDL, hw]; simp only [h1, hrc, h2, if_pos hf]
          · cases h
        · cases h
      · cases h
    · rename_i hw
      exact (evDL_appr hA h).mono fun k h2 => by rw [evDL, hw]; simp only [h2]
    · cases h
theorem EC_appr {P : Program} {pr : Callee → Callee} {esc : List Tmp} : ∀ {c : Code} {st : St} {r : Ex × St}, EC cf (F P cf pr) esc c st = some r → Evt fun k => evC cf (evF P cf pr k) esc k c st = some r := by
  have hA : Appr (F P cf pr) (evF P cf pr) := fun f a h r => F_evt
  intro c
  induction c with
  | skip => intro st r h; exact .of fun k => by rw [EC] at h; rw [evC]; exact h
  | region id ops dr =>
    intro st r h
    rw [EC] at h
    split at h
    · rename_i hd
      unfold evD at h
      exact (evDL_appr hA h).mono fun k hk => by rw [evC, if_pos hd, evD]; exact hk
    · rename_i hd
      exact (evOps_appr hA h).mono fun k hk => by rw [evC, if_neg hd]; exact hk
  | seq a b iha ihb =>
    intro st r h
    rw [EC] at h
    split at h
    · rename_i st' ha
      exact ((iha ha).and (ihb h)).mono fun k ⟨h1, h2⟩ => by rw [evC, h1]; exact h2
    · rename_i hne
      refine (iha h).mono fun k h1 => ?_
      rw [evC, h1]
      obtain ⟨ex, st'⟩ := r
      cases ex with
      | normal => exact absurd h (hne st')
      | _ => rfl
  | cond c a b iha ihb =>
    intro st r h
    rw [EC] at h
    split at h
    · rename_i hc
      exact (iha h).mono fun k hk => by rw [evC, hc]; exact hk
    · rename_i hc
      exact (ihb h).mono fun k hk => by rw [evC, hc]; exact hk
    · cases h
  | block id c ih =>
    intro st r h
    rw [EC] at h
    split at h
    · rename_i j st' hc
      exact (ih hc).mono fun k hk => by rw [evC, hk]; exact h
    · rename_i hne
      refine (ih h).mono fun k hk => ?_
      rw [evC, hk]
      obtain ⟨ex, st'⟩ := r
      cases ex with
      | exit j => exact absurd h (hne j st')
      | _ => rfl
  | loop c ih =>
    intro st r h
    rw [EC] at h
    obtain ⟨n, hn⟩ := loopL_ex h
    have key : ∀ n st r, loopN (EC cf (F P cf pr) esc c) (masks c) n st = some r → Evt fun k => loopN (evC cf (evF P cf pr k) esc k c) (masks c) n st = some r := by
      intro n
      induction n with
      | zero => intro st r h; simp [loopN] at h
      | succ n ihn =>
        intro st r h
        rw [loopN] at h
        split at h
        · rename_i st' hb
          exact ((ih hb).and (ihn _ _ h)).mono fun k ⟨h1, h2⟩ => by rw [loopN, h1]; exact h2
        · rename_i hne
          refine (ih h).mono fun k hk => ?_
          rw [loopN, hk]
          obtain ⟨ex, st'⟩ := r
          cases ex with
          | normal => exact absurd h (hne st')
          | _ => rfl
    obtain ⟨k0, hk⟩ := key n st r hn
    exact ⟨max k0 n, fun k hk' => by simp only [evC]; exact loopN_le (hk k (by omega)) (by omega)⟩
  | exit id => intro st r h; exact .of fun k => by rw [EC] at h; rw [evC]; exact h
  | ret => intro st r h; exact .of fun k => by rw [EC] at h; rw [evC]; exact h
  | label _ => intro st r h; exact .of fun k => by rw [EC] at h; rw [evC]; exact h
  | _ => intro st r h; simp [EC] at h
end
/-- How a function is entered. -/
theorem F_in {P : Program} {cf : Cfg} {pr : Callee → Callee} {f : FuncId} {fn : Func} {c : Code} {args : List AV} {hp : List (List AV)} {st : St} {r : Res} (h : P.funcs[f]? = some fn) (hp_ : cf.prim f = false) (hb : fn.body = some c) (hs : begin_ (cf.xf f) fn.ntmps args hp = some st)
    (hr : finish cf f fn.results.toList (EC cf (F P cf pr) (cf.esc f) c st) = some r) : F P cf pr f args hp = some r := by
  refine F_of (Evt.next ?_)
  cases he : EC cf (F P cf pr) (cf.esc f) c st with
  | none => rw [he] at hr; simp [finish] at hr
  | some x => exact (EC_appr he).mono fun k hk => by rw [evF_in h hp_ hb hs, hk, ← he]; exact hr
theorem F_prim {P : Program} {cf : Cfg} {pr : Callee → Callee} {f : FuncId} {args : List AV} {hp : List (List AV)} {r : Res} (hp_ : cf.prim f = true) (hr : ∀ C, pr C f args hp = some r) : F P cf pr f args hp = some r := by
  refine F_of (Evt.next (.of fun k => ?_))
  simp only [evF, hp_, if_true]
  exact hr _
theorem F_ok {P : Program} {cf : Cfg} {pr : Callee → Callee} (hC : ∀ k, COK P cf (evF P cf pr k)) : COK P cf (F P cf pr) := fun f args hp r h => by
  obtain ⟨k, hk⟩ := (F_evt h).some
  exact hC k f args hp r hk
end Go.Ev
