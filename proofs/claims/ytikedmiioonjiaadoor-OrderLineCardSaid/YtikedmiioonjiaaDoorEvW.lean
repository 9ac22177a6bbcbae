/- The abstract interpreter: an operation hangs on what its record names: calls; all of them; neighbours may be swapped. -/
import Derived.Test.YtikedmiioonjiaaDoorEvV
import Derived.Orders
set_option linter.unusedVariables false
set_option linter.unusedSimpArgs false
set_option linter.unusedSectionVars false
set_option linter.defProp false
namespace Go.Ev
open Go
section
variable {s s1 s2 s3 : St} {cf : Cfg} {C : Callee} {esc : List Tmp} {o : Oper} {v : AV} {r : Rec}

theorem callV_T {sl : List Nat} (h : Par sl s s2) (hhp : s2.hp = s.hp) {d : Option Tmp} {f : FuncId} {args : List AV} (hd : ∀ e, d = some e → e ∈ sl) (ha : ∀ e ∈ args.flatMap refs, e ∈ sl) (e : callV cf C s d f args = some (.val v s1)) :
    ∃ s3, callV cf C s2 d f args = some (.val v s3) ∧ Par sl s1 s3 ∧ Rest sl s s1 ∧ Rest sl s2 s3 ∧ s3.hp = s1.hp := by
  unfold callV at e ⊢
  split at e
  · rename_i hxf
    rw [if_pos hxf]
    split at e
    · rename_i k g rest
      have hk : k ∈ sl := ha k (by simp [refs, refC])
      have hr : ∀ e ∈ rest.flatMap refs, e ∈ sl := fun e he => ha e (by simp only [List.flatMap_cons, List.mem_append]; exact .inr he)
      split at e
      · rename_i q hq
        obtain ⟨t3, g1, g2⟩ := giveA_T h hr (ys := q.1) (s1 := q.2) hq
        have hq3 : t3.hp = q.2.hp := by rw [g2.2.2.2.2, g2.2.2.2.1, hhp]
        simp only [g1]
        split at e
        · rename_i ob hob
          have hob2 : t3.lobj k g = some ob := by rw [g2.1.lobj hk]; exact hob
          simp only [hob2]
          split at e
          · rename_i hc
            rw [if_pos hc, hq3]
            split at e
            · rename_i v' out hp' hC
              split at e
              · rename_i hc2
                simp only [Option.some.injEq, Out.val.injEq] at e
                obtain ⟨rfl, rfl⟩ := e
                try simp only [hC]
                rw [if_pos hc2]
                have hs := Same.setg g2.1 hk (some { ob with xs := out })
                exact ⟨_, rfl, hs.1.hp hp' hp', (g2.2.1.trans hs.2.1).hp _, (g2.2.2.1.trans hs.2.2.1).hp _, rfl⟩
              · cases e
            · cases e
          · cases e
        · cases e
      · cases e
    · cases e
  · rename_i hxf
    rw [if_neg hxf]
    split at e
    · rename_i q hq
      obtain ⟨t3, g1, g2⟩ := giveA_T h ha (ys := q.1) (s1 := q.2) hq
      have hq3 : t3.hp = q.2.hp := by rw [g2.2.2.2.2, g2.2.2.2.1, hhp]
      simp only [g1, hq3]
      split at e
      · rename_i ty sz xs out hp' hC
        split at e
        · rename_i d'
          have hdm := hd d' rfl
          simp only [Option.some.injEq, Out.val.injEq] at e
          obtain ⟨rfl, rfl⟩ := e
          have hs := Same.mk (g2.1.hp hp' hp') hdm false ty sz xs
          try simp only [hC]
          refine ⟨{ t3 with hp := hp' }.mk_ d' false ty sz xs, ?_, hs.1, (g2.2.1.hp _).trans hs.2.1, (g2.2.2.1.hp _).trans hs.2.2.1, rfl⟩
          rw [g2.1.gen d' hdm]
        · cases e
      · rename_i v' out hp' hno hC
        simp only [Option.some.injEq, Out.val.injEq] at e
        obtain ⟨rfl, rfl⟩ := e
        refine ⟨{ t3 with hp := hp' }, ?_, g2.1.hp _ _, g2.2.1.hp _, g2.2.2.1.hp _, rfl⟩
        simp only [hC]
      · cases e
      · cases e
    · cases e
theorem call_T {c : Call} {f : Operand} (ho : o.op = .call c) (hcv : c.callee = .value f) (hev : ∀ x ∈ o.op.operands.toList, opnd s2 x = opnd s x) (h : Par r.slots s s2) (hh : HPar r.hk s s2) (e : aop cf C esc o s = some (.val v s1)) (hr : recOf esc o s s1 = some r) : TOK cf C esc o s s2 s1 v r := by
  have hops : o.op.operands.toList = f :: c.args.toList := by rw [ho]; simp [Op.operands, Call.operands, hcv]
  have hf2 : opnd s2 f = opnd s f := hev f (by rw [hops]; simp)
  have hev' : ∀ x ∈ c.args.toList, opnd s2 x = opnd s x := fun x hx => hev x (by rw [hops]; simp [hx])
  have hro : refsOs s2 o.op.operands.toList = refsOs s o.op.operands.toList := refsOs_T hev
  have hcr : capR s2 f = capR s f := by unfold capR; rw [hf2]
  have hrec : ∀ a b, recOf esc o a b = some ⟨dstL o ++ (capR a f ++ refsOs a o.op.operands.toList), false, touchOf a b⟩ := fun a b => by
    unfold recOf; simp only [ho, hcv]
  rw [hrec] at hr
  simp only [Option.some.injEq] at hr; subst hr
  have hhp : s2.hp = s.hp := hh
  unfold aop at e
  simp only [ho, hcv] at e
  split at e
  · rename_i g cap hfv
    split at e
    · rename_i as has
      obtain ⟨t3, g1, g2, g3, g4, g5⟩ := callV_T h hhp (fun e he => by unfold dstL; rw [he]; simp) (fun e he => by
        simp only [List.flatMap_append, List.mem_append] at he
        refine List.mem_append_right _ ?_
        rcases he with he | he
        · exact List.mem_append_right _ (by rw [hops]; simp only [refsOs, List.mem_append]; exact .inr (mem_refsL has he))
        · exact List.mem_append_left _ (by unfold capR; rw [hfv]; exact he)) e
      refine ⟨t3, ?_, ?_, g2, g3, g4, touch_out rfl g5, fun h => by cases h⟩
      · unfold aop; simp only [ho, hcv, hf2, hfv, opndL_T hev', has, g1]
      · rw [hrec, hro, hcr]; simp only [touchOf, hhp, g5]
    · cases e
  · cases e

/-- EVERY OPERATION. -/
theorem aop_T (hev : ∀ x ∈ o.op.operands.toList, opnd s2 x = opnd s x) (h : Par r.slots s s2) (hh : HPar r.hk s s2) (e : aop cf C esc o s = some (.val v s1)) (hr : recOf esc o s s1 = some r) : TOK cf C esc o s s2 s1 v r := by
  cases ho : o.op with
  | move x => exact frame_T hev h e hr (by rw [ho]; trivial)
  | assign x => exact frame_T hev h e hr (by rw [ho]; trivial)
  | pick c x y => exact frame_T hev h e hr (by rw [ho]; trivial)
  | binOp op t x y u => exact frame_T hev h e hr (by rw [ho]; trivial)
  | unOp op t x => exact frame_T hev h e hr (by rw [ho]; trivial)
  | convert a b x => exact frame_T hev h e hr (by rw [ho]; trivial)
  | extract x i => exact frame_T hev h e hr (by rw [ho]; trivial)
  | index t x y => exact frame_T hev h e hr (by rw [ho]; trivial)
  | build t ps => exact build_T ho hev h e hr
  | nilCheck x => exact nilCheck_T ho hev h e hr
  | fieldAddr t x k => exact fieldAddr_T ho hev h e hr
  | indexAddr t x y => exact indexAddr_T ho hev h e hr
  | load t x => exact load_T ho hev h hh e hr
  | slice t x lo hi mx => exact slice_T ho hev h e hr
  | alloc t => exact alloc_T ho h hh e hr
  | box t x => exact box_T ho hev h hh e hr
  | buildSlice t n ps => exact buildSlice_T ho hev h e hr
  | store t x y => exact store_T ho hev h hh e hr
  | call c =>
    cases hc : c.callee with
    | builtin b => exact builtin_T ho hc hev h e hr
    | value f => exact call_T ho hc hev h hh e hr
    | invoke x n => simp [recOf, ho, hc] at hr
  | _ => simp [recOf, ho] at hr

/-! ### Neighbours -/
/-- One step of a region. -/
def act1 (cf : Cfg) (C : Callee) (esc : List Tmp) (ops : Array Oper) (o : Oper) (s : St) (v : AV) (s1 : St) (q : Rec) : Prop :=
  (wantedA ops s o = some true ∧ aop cf C esc o s = some (.val v s1) ∧ recOf esc o s s1 = some q) ∨ (wantedA ops s o = some false ∧ v = .tuple [] ∧ s1 = s ∧ q = ⟨[], true, .no⟩)
theorem disj_mem : ∀ {xs ys : List Nat}, disj xs ys = true → ∀ d, d ∈ xs → d ∉ ys
  | x :: xs, ys, h, d, hd, hy => by
    simp only [disj, Bool.and_eq_true, Bool.not_eq_true', List.contains_eq_mem, decide_eq_false_iff_not] at h
    rcases List.mem_cons.1 hd with rfl | hd
    · exact h.1 hy
    · exact disj_mem h.2 d hd hy
theorem opnd_put {dst : Option Tmp} {x : Operand} {u : AV} (h : ∀ d, dst = some d → x ≠ .tmp d) : opnd (put s dst u) x = opnd s x := by
  cases dst with
  | none => rfl
  | some d =>
    cases x with
    | tmp t =>
      have hne : d ≠ t := fun e => h d rfl (e ▸ rfl)
      simp only [opnd, put, List.getD_eq_getElem?_getD, List.getElem?_set, if_neg hne]
    | const c => rfl
    | global g => rfl
    | func f => rfl
theorem opnd_fr {x : Operand} (h : s1.fr = s.fr) : opnd s1 x = opnd s x := by
  cases x <;> simp only [opnd, h]
theorem wantedA_fr {ops : Array Oper} (h : s1.fr = s.fr) : wantedA ops s1 o = wantedA ops s o := by
  unfold wantedA; rw [h]
theorem wantedA_put {ops : Array Oper} {dst : Option Tmp} {u : AV} (h : ∀ d, dst = some d → d ∉ o.looksAt ops) : wantedA ops (put s dst u) o = wantedA ops s o := by
  unfold wantedA
  cases hg : o.guard with
  | none => rfl
  | some gw =>
    obtain ⟨j, want⟩ := gw
    simp only
    cases hj : ops[j]? with
    | none => rfl
    | some oj =>
      simp only
      cases hd : oj.dst with
      | none => rfl
      | some d' =>
        simp only
        cases dst with
        | none => rfl
        | some d =>
          have hne : d ≠ d' := fun e => h d rfl (by
            unfold Oper.looksAt
            rw [hg]
            simp [hj, hd, e])
          simp only [put, List.getD_eq_getElem?_getD, List.getElem?_set, if_neg hne]
theorem looks_opnd {ops : Array Oper} {dst : Option Tmp} {u : AV} (h : ∀ d, dst = some d → d ∉ o.looksAt ops) : ∀ x ∈ o.op.operands.toList, opnd (put s dst u) x = opnd s x := fun x hx =>
  opnd_put fun d hd e => h d hd (by
    unfold Oper.looksAt
    refine List.mem_append_left _ (List.mem_filterMap.2 ⟨x, hx, ?_⟩)
    rw [e])
theorem rec_touch {n : Nat} {x : Prop} (hr : recOf esc o s s1 = some r) (hk : r.hk = .touch n x) : r.hk = touchOf s s1 := by
  unfold recOf at hr
  split at hr
  all_goals try (simp only [Option.some.injEq] at hr; subst hr; first | rfl | (simp at hk; done) | skip)
  all_goals try (simp only [reduceCtorEq] at hr; done)
  all_goals first
    | (split at hk
       · rename_i h; simp only [h]; first | rfl | simp
       · simp at hk)
    | (split at hr <;> first
        | (simp only [Option.some.injEq] at hr; subst hr; first | rfl | (simp at hk; done))
        | cases hr)
    | (rename_i a' y' h'
       revert hk
       dsimp only
       cases opnd s a' with
       | none => simp
       | some p => cases p <;> simp)
end
end Go.Ev
