/- The abstract interpreter: an operation hangs on what its record names. -/
import Derived.Test.YtikedmiioonjiaaDoorEvS
set_option linter.unusedVariables false
set_option linter.unusedSimpArgs false
set_option linter.unusedSectionVars false
set_option linter.defProp false
namespace Go.Ev
open Go
section
variable {s s1 s2 s3 : St}
def HPar : HK → St → St → Prop
  | .no, _, _ => True
  | .rd id, s, s2 => s2.hp[id]? = s.hp[id]?
  | .touch _ _, s, s2 => s2.hp = s.hp
def HOut : HK → St → St → St → St → Prop
  | .touch _ _, _, _, s1, s3 => s3.hp = s1.hp
  | _, s, s2, s1, s3 => s1.hp = s.hp ∧ s3.hp = s2.hp
/-- The same from both states. -/
def TOK (cf : Cfg) (C : Callee) (esc : List Tmp) (o : Oper) (s s2 s1 : St) (v : AV) (r : Rec) : Prop :=
  ∃ s3, aop cf C esc o s2 = some (.val v s3) ∧ recOf esc o s2 s3 = some r ∧ Par r.slots s1 s3 ∧ Rest r.slots s s1 ∧ Rest r.slots s2 s3 ∧ HOut r.hk s s2 s1 s3 ∧ (r.quiet = true → s1 = s ∧ s3 = s2)
theorem opndL_T : ∀ {xs : List Operand}, (∀ x ∈ xs, opnd s2 x = opnd s x) → opndL s2 xs = opndL s xs
  | [], _ => rfl
  | x :: xs, h => by simp only [opndL, h x (by simp), opndL_T (xs := xs) fun y hy => h y (by simp [hy])]
theorem opndP_T : ∀ {xs : List (Nat × Operand)}, (∀ x ∈ xs, opnd s2 x.2 = opnd s x.2) → opndP s2 xs = opndP s xs
  | [], _ => rfl
  | (i, x) :: xs, h => by simp only [opndP, h (i, x) (by simp), opndP_T (xs := xs) fun y hy => h y (by simp [hy])]
theorem refsOs_T : ∀ {xs : List Operand}, (∀ x ∈ xs, opnd s2 x = opnd s x) → refsOs s2 xs = refsOs s xs
  | [], _ => rfl
  | x :: xs, h => by simp only [refsOs, refsO, h x (by simp), refsOs_T (xs := xs) fun y hy => h y (by simp [hy])]
theorem mem_refsOs : ∀ {xs : List Operand} {x : Operand} {v : AV} {d : Nat}, x ∈ xs → opnd s x = some v → d ∈ refs v → d ∈ refsOs s xs
  | y :: ys, x, v, d, hx, e, hd => by
    simp only [refsOs, List.mem_append]
    rcases List.mem_cons.1 hx with rfl | hx
    · left; simp only [refsO, e]; exact hd
    · right; exact mem_refsOs hx e hd
theorem mem_refsL : ∀ {xs : List Operand} {vs : List AV} {d : Nat}, opndL s xs = some vs → d ∈ vs.flatMap refs → d ∈ refsOs s xs
  | [], vs, d, e, hd => by simp only [opndL, Option.some.injEq] at e; subst e; simp at hd
  | x :: xs, vs, d, e, hd => by
    simp only [opndL] at e
    split at e
    · rename_i v hv
      split at e
      · rename_i vs' hvs
        simp only [Option.some.injEq] at e; subst e
        simp only [List.flatMap_cons, List.mem_append] at hd
        simp only [refsOs, List.mem_append]
        rcases hd with hd | hd
        · left; simp only [refsO, hv]; exact hd
        · right; exact mem_refsL hvs hd
      · cases e
    · cases e
theorem mem_refsP : ∀ {xs : List (Nat × Operand)} {vs : List (Nat × AV)} {d : Nat}, opndP s xs = some vs → d ∈ vs.flatMap (fun p => refs p.2) → d ∈ refsOs s (xs.map (·.2))
  | [], vs, d, e, hd => by simp only [opndP, Option.some.injEq] at e; subst e; simp at hd
  | (i, x) :: xs, vs, d, e, hd => by
    simp only [opndP] at e
    split at e
    · rename_i v hv
      split at e
      · rename_i vs' hvs
        simp only [Option.some.injEq] at e; subst e
        simp only [List.flatMap_cons, List.mem_append] at hd
        simp only [List.map_cons, refsOs, List.mem_append]
        rcases hd with hd | hd
        · left; simp only [refsO, hv]; exact hd
        · right; exact mem_refsP hvs hd
      · cases e
    · cases e
theorem TOK.quiet {cf : Cfg} {C : Callee} {esc : List Tmp} {o : Oper} {v : AV} {r : Rec} (h : Par r.slots s s2) (he : aop cf C esc o s2 = some (.val v s2)) (hr : recOf esc o s2 s2 = some r) (hk : ∀ n x, r.hk ≠ .touch n x) : TOK cf C esc o s s2 s v r :=
  ⟨s2, he, hr, h, .refl _ _, .refl _ _, by cases hh : r.hk <;> first | exact ⟨rfl, rfl⟩ | exact (hk _ _ hh).elim, fun _ => ⟨rfl, rfl⟩⟩
theorem TOK.same {cf : Cfg} {C : Callee} {esc : List Tmp} {o : Oper} {v : AV} {r : Rec} (hs : Same r.slots s s2 s1 s3) (he : aop cf C esc o s2 = some (.val v s3)) (hr : recOf esc o s2 s3 = some r) (hk : r.hk = .no) (hq : r.quiet = false) : TOK cf C esc o s s2 s1 v r :=
  ⟨s3, he, hr, hs.1, hs.2.1, hs.2.2.1, by rw [hk]; exact hs.2.2.2, fun h => by rw [hq] at h; cases h⟩

variable {cf : Cfg} {C : Callee} {esc : List Tmp} {o : Oper} {v : AV} {r : Rec}
/-- Operations that only compute. -/
theorem frame_T (hev : ∀ x ∈ o.op.operands.toList, opnd s2 x = opnd s x) (h : Par r.slots s s2) (e : aop cf C esc o s = some (.val v s1)) (hr : recOf esc o s s1 = some r)
    (hk : match o.op with | .move _ | .assign _ | .pick .. | .binOp .. | .unOp .. | .convert .. | .extract .. | .index .. => True | _ => False) : TOK cf C esc o s s2 s1 v r := by
  have key : s1 = s ∧ aop cf C esc o s2 = some (.val v s2) := by
    unfold aop at e ⊢
    split at e <;> rename_i ho <;> simp only [ho] at hk hev ⊢ <;> try (exact hk.elim)
    · rw [hev _ (by simp [Op.operands])]
      split at e
      · simp only [Option.some.injEq, Out.val.injEq] at e; obtain ⟨rfl, rfl⟩ := e; simp [*]
      · cases e
    · rw [hev _ (by simp [Op.operands])]
      split at e
      · simp only [Option.some.injEq, Out.val.injEq] at e; obtain ⟨rfl, rfl⟩ := e; simp [*]
      · cases e
    · rename_i c x y
      rw [hev c (by simp [Op.operands])]
      split at e
      · rename_i t ht
        try simp only [ht]
        rw [hev (if t = true then x else y) (by cases t <;> simp [Op.operands])]
        split at e
        · rename_i u hu
          simp only [Option.some.injEq, Out.val.injEq] at e; obtain ⟨rfl, rfl⟩ := e; exact ⟨rfl, by first | rfl | simp [*]⟩
        · cases e
      · cases e
    · rename_i op t x y u
      rw [hev x (by simp [Op.operands]), hev y (by simp [Op.operands])]
      split at e
      · rename_i p q hp hq
        try simp only [hp, hq]
        split at e
        · rename_i u' hu
          simp only [Option.some.injEq, Out.val.injEq] at e; obtain ⟨rfl, rfl⟩ := e; exact ⟨rfl, by first | rfl | simp [*]⟩
        · cases e
      · cases e
    · rename_i op t x
      rw [hev x (by simp [Op.operands])]
      split at e
      · rename_i b hb_
        simp only [Option.some.injEq, Out.val.injEq] at e; obtain ⟨rfl, rfl⟩ := e; exact ⟨rfl, by first | rfl | simp [*]⟩
      · rename_i k n hb_
        simp only [Option.some.injEq, Out.val.injEq] at e; obtain ⟨rfl, rfl⟩ := e; exact ⟨rfl, by first | rfl | simp [*]⟩
      · cases e
    · rename_i src dst x
      rw [hev x (by simp [Op.operands])]
      split at e
      · rename_i p hp
        try simp only [hp]
        split at e
        · rename_i u' hu
          simp only [Option.some.injEq, Out.val.injEq] at e; obtain ⟨rfl, rfl⟩ := e; exact ⟨rfl, by first | rfl | simp [*]⟩
        · cases e
      · cases e
    · rename_i t x y
      rw [hev x (by simp [Op.operands]), hev y (by simp [Op.operands])]
      split at e
      · rename_i i b k n hi hx hy
        try simp only [hi, hx, hy]
        split at e
        · rename_i hd
          try simp only [hd]
          split at e
          · rename_i h0
            rw [if_pos h0]
            split at e
            · rename_i b hb_
              simp only [Option.some.injEq, Out.val.injEq] at e; obtain ⟨rfl, rfl⟩ := e; exact ⟨rfl, by first | rfl | simp [*]⟩
            · cases e
          · cases e
        · cases e
      · cases e
    · rename_i x i
      rw [hev x (by simp [Op.operands])]
      split at e
      · rename_i vs hvs
        try simp only [hvs]
        split at e
        · rename_i u' hu
          simp only [Option.some.injEq, Out.val.injEq] at e; obtain ⟨rfl, rfl⟩ := e; exact ⟨rfl, by first | rfl | simp [*]⟩
        · cases e
      · cases e
  obtain ⟨rfl, k2⟩ := key
  have hrr : r = ⟨[], true, .no⟩ ∧ recOf esc o s2 s2 = some ⟨[], true, .no⟩ := by
    unfold recOf at hr ⊢
    split at hr <;> rename_i ho <;> simp only [ho] at hk ⊢ <;> try (exact hk.elim)
    all_goals first
      | (simp only [Option.some.injEq] at hr; exact ⟨hr.symm, trivial⟩)
      | (simp only [Option.some.injEq] at hr; exact ⟨hr.symm, rfl⟩)
  obtain ⟨rfl, k3⟩ := hrr
  exact TOK.quiet h k2 k3 (by simp)
end
end Go.Ev
