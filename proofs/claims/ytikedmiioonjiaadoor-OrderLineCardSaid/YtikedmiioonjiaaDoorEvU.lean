/- The abstract interpreter: an operation hangs on what its record names: those that look at objects or make them. -/
import Derived.Test.YtikedmiioonjiaaDoorEvT
set_option linter.unusedVariables false
set_option linter.unusedSimpArgs false
set_option linter.unusedSectionVars false
set_option linter.defProp false
namespace Go.Ev
open Go
section
variable {s s1 s2 s3 : St} {cf : Cfg} {C : Callee} {esc : List Tmp} {o : Oper} {v : AV} {r : Rec}

theorem build_T {t : TypeId} {parts : Array (Nat × Operand)} (ho : o.op = .build t parts) (hev : ∀ x ∈ o.op.operands.toList, opnd s2 x = opnd s x) (h : Par r.slots s s2) (e : aop cf C esc o s = some (.val v s1)) (hr : recOf esc o s s1 = some r) : TOK cf C esc o s s2 s1 v r := by
  have hmem : ∀ x ∈ parts.toList, opnd s2 x.2 = opnd s x.2 := fun x hx => hev x.2 (by rw [ho]; simp only [Op.operands]; exact List.mem_map_of_mem hx)
  have hrec : r = ⟨refsOs s o.op.operands.toList, true, .no⟩ := by unfold recOf at hr; simp only [ho] at hr; simp only [Option.some.injEq] at hr; rw [← hr, ho]
  have hrec2 : recOf esc o s2 s2 = some r := by rw [hrec]; unfold recOf; simp only [ho]; rw [ho] at hev; rw [refsOs_T hev]
  have hk : r.hk = .no := by rw [hrec]
  unfold aop at e
  simp only [ho] at e
  split at e
  · rename_i i ps hi hps
    have hsl : ∀ d ∈ ps.flatMap (fun p => refs p.2), d ∈ r.slots := fun d hd => by
      rw [hrec, ho]; simpa [Op.operands] using mem_refsP hps hd
    split at e
    · rename_i fs hd
      split at e
      · rename_i hkn
        split at e
        · rename_i cs hf
          simp only [Option.some.injEq, Out.val.injEq] at e; obtain ⟨rfl, rfl⟩ := e
          refine TOK.quiet h ?_ hrec2 (by rw [hk]; simp)
          unfold aop
          simp only [ho, hi, opndP_T hmem, hps, hd, hkn, if_true, fillA_T h _ hsl, hf]
        · cases e
      · cases e
    · cases e
  · cases e
theorem load_T {t : TypeId} {x : Operand} (ho : o.op = .load t x) (hev : ∀ x ∈ o.op.operands.toList, opnd s2 x = opnd s x) (h : Par r.slots s s2) (hh : HPar r.hk s s2) (e : aop cf C esc o s = some (.val v s1)) (hr : recOf esc o s s1 = some r) : TOK cf C esc o s s2 s1 v r := by
  have hx2 : opnd s2 x = opnd s x := hev x (by rw [ho]; simp [Op.operands])
  have hrec2 : recOf esc o s2 s2 = some r := by
    rw [← hr]; unfold recOf; simp only [ho, refsO, hx2]
  unfold aop at e
  simp only [ho] at e
  split at e
  · rename_i i p hi hp
    have hl : loadAt i s2 p = loadAt i s p := by
      unfold recOf at hr
      simp only [ho, hp, refsO] at hr
      cases p <;> try rfl
      case lptr d g k off =>
        simp only [Option.some.injEq] at hr; subst hr
        simp only [loadAt, h.lobj (d := d) (by simp [refs, refC])]
      case ptr id off =>
        simp only [Option.some.injEq] at hr; subst hr
        simp only [loadAt]
        rw [show s2.hp[id]? = s.hp[id]? from hh]
    split at e
    · rename_i u hu
      simp only [Option.some.injEq, Out.val.injEq] at e; obtain ⟨rfl, rfl⟩ := e
      refine TOK.quiet h ?_ hrec2 ?_
      · unfold aop
        simp only [ho, hi, hx2, hp, hl, hu]
      · intro n ex hk
        unfold recOf at hr
        simp only [ho, hp, refsO] at hr
        cases p <;> simp only [Option.some.injEq] at hr <;> subst hr <;> simp at hk
    · cases e
  · cases e
theorem nilCheck_T {x : Operand} (ho : o.op = .nilCheck x) (hev : ∀ x ∈ o.op.operands.toList, opnd s2 x = opnd s x) (h : Par r.slots s s2) (e : aop cf C esc o s = some (.val v s1)) (hr : recOf esc o s s1 = some r) : TOK cf C esc o s s2 s1 v r := by
  have hx2 : opnd s2 x = opnd s x := hev x (by rw [ho]; simp [Op.operands])
  have hrec : r = ⟨refsOs s o.op.operands.toList, true, .no⟩ := by unfold recOf at hr; simp only [ho] at hr; simp only [Option.some.injEq] at hr; rw [← hr, ho]
  have hrec2 : recOf esc o s2 s2 = some r := by rw [hrec]; unfold recOf; simp only [ho]; rw [ho] at hev; rw [refsOs_T hev]
  have hk : ∀ n ex, r.hk ≠ .touch n ex := by rw [hrec]; simp
  unfold aop at e
  simp only [ho] at e
  split at e
  · rename_i id off hp
    simp only [Option.some.injEq, Out.val.injEq] at e; obtain ⟨rfl, rfl⟩ := e
    exact TOK.quiet h (by unfold aop; simp only [ho, hx2, hp]) hrec2 hk
  · rename_i d g i off hp
    have hd : d ∈ r.slots := by rw [hrec, ho]; exact mem_refsOs (x := x) (by simp [Op.operands]) hp (by simp [refs, refC])
    split at e
    · rename_i q hq
      simp only [Option.some.injEq, Out.val.injEq] at e; obtain ⟨rfl, rfl⟩ := e
      exact TOK.quiet h (by unfold aop; simp only [ho, hx2, hp, h.lobj hd, hq]) hrec2 hk
    · cases e
  · rename_i cs hp
    simp only [Option.some.injEq, Out.val.injEq] at e; obtain ⟨rfl, rfl⟩ := e
    exact TOK.quiet h (by unfold aop; simp only [ho, hx2, hp]) hrec2 hk
  · cases e
theorem fieldAddr_T {t : TypeId} {x : Operand} {k : Nat} (ho : o.op = .fieldAddr t x k) (hev : ∀ x ∈ o.op.operands.toList, opnd s2 x = opnd s x) (h : Par r.slots s s2) (e : aop cf C esc o s = some (.val v s1)) (hr : recOf esc o s s1 = some r) : TOK cf C esc o s s2 s1 v r := by
  have hx2 : opnd s2 x = opnd s x := hev x (by rw [ho]; simp [Op.operands])
  have hrec : r = ⟨refsOs s o.op.operands.toList, true, .no⟩ := by unfold recOf at hr; simp only [ho] at hr; simp only [Option.some.injEq] at hr; rw [← hr, ho]
  have hrec2 : recOf esc o s2 s2 = some r := by rw [hrec]; unfold recOf; simp only [ho]; rw [ho] at hev; rw [refsOs_T hev]
  have hk : ∀ n ex, r.hk ≠ .touch n ex := by rw [hrec]; simp
  unfold aop at e
  simp only [ho] at e
  split at e
  · rename_i i p hi hp
    split at e
    · rename_i fs hd
      split at e
      · rename_i f hf
        split at e
        · rename_i j hj
          split at e
          · cases e
          · rename_i hz
            split at e
            · simp only [Option.some.injEq, Out.val.injEq] at e; obtain ⟨rfl, rfl⟩ := e
              exact TOK.quiet h (by unfold aop; simp only [ho, hi, hx2, hp, hd, hf, hj, hz, if_false]) hrec2 hk
            · rename_i d g j' off
              have hdm : d ∈ r.slots := by rw [hrec, ho]; exact mem_refsOs (x := x) (by simp [Op.operands]) hp (by simp [refs, refC])
              split at e
              · rename_i q hq
                simp only [Option.some.injEq, Out.val.injEq] at e; obtain ⟨rfl, rfl⟩ := e
                exact TOK.quiet h (by unfold aop; simp only [ho, hi, hx2, hp, hd, hf, hj, hz, if_false, h.lobj hdm, hq]) hrec2 hk
              · cases e
            · simp only [Option.some.injEq, Out.val.injEq] at e; obtain ⟨rfl, rfl⟩ := e
              exact TOK.quiet h (by unfold aop; simp only [ho, hi, hx2, hp, hd, hf, hj, hz, if_false]) hrec2 hk
            · cases e
        · cases e
      · cases e
    · cases e
  · cases e
theorem indexAddr_T {t : TypeId} {x y : Operand} (ho : o.op = .indexAddr t x y) (hev : ∀ x ∈ o.op.operands.toList, opnd s2 x = opnd s x) (h : Par r.slots s s2) (e : aop cf C esc o s = some (.val v s1)) (hr : recOf esc o s s1 = some r) : TOK cf C esc o s s2 s1 v r := by
  have hx2 : opnd s2 x = opnd s x := hev x (by rw [ho]; simp [Op.operands])
  have hy2 : opnd s2 y = opnd s y := hev y (by rw [ho]; simp [Op.operands])
  have hrec : r = ⟨refsOs s o.op.operands.toList, true, .no⟩ := by unfold recOf at hr; simp only [ho] at hr; simp only [Option.some.injEq] at hr; rw [← hr, ho]
  have hrec2 : recOf esc o s2 s2 = some r := by rw [hrec]; unfold recOf; simp only [ho]; rw [ho] at hev; rw [refsOs_T hev]
  have hk : ∀ n ex, r.hk ≠ .touch n ex := by rw [hrec]; simp
  unfold aop at e
  simp only [ho] at e
  split at e
  · rename_i i rr k n hi hx hy
    split at e
    · rename_i el hd
      split at e
      · rename_i ei hei
        split at e
        · rename_i full xs
          split at e
          · rename_i h0
            split at e
            · rename_i c hc
              split at e
              · rename_i hl
                simp only [Option.some.injEq, Out.val.injEq] at e; obtain ⟨rfl, rfl⟩ := e
                exact TOK.quiet h (by unfold aop; simp only [ho, hi, hx2, hy2, hx, hy, hd, hei, h0, if_true, hc, hl]) hrec2 hk
              · cases e
            · cases e
          · cases e
        · rename_i d g
          have hdm : d ∈ r.slots := by rw [hrec, ho]; exact mem_refsOs (x := x) (by simp [Op.operands]) hx (by simp [refs, refC])
          split at e
          · rename_i q hq
            split at e
            · rename_i hc
              simp only [Option.some.injEq, Out.val.injEq] at e; obtain ⟨rfl, rfl⟩ := e
              exact TOK.quiet h (by unfold aop; simp only [ho, hi, hx2, hy2, hx, hy, hd, hei, h.lobj hdm, hq]; rw [if_pos hc]) hrec2 hk
            · cases e
          · cases e
        · cases e
      · cases e
    · cases e
  · cases e
end
end Go.Ev
