/- The abstract interpreter: an operation hangs on what its record names: those that act. -/
import Derived.Test.YtikedmiioonjiaaDoorEvU
set_option linter.unusedVariables false
set_option linter.unusedSimpArgs false
set_option linter.unusedSectionVars false
set_option linter.defProp false
namespace Go.Ev
open Go
section
variable {s s1 s2 s3 : St} {cf : Cfg} {C : Callee} {esc : List Tmp} {o : Oper} {v : AV} {r : Rec}

theorem Par.hp {sl : List Nat} (h : Par sl s s2) (x y : List (List AV)) : Par sl { s with hp := x } { s2 with hp := y } := ⟨h.len, h.loc, h.gen⟩
theorem Rest.hp {sl : List Nat} (h : Rest sl s s1) (y : List (List AV)) : Rest sl s { s1 with hp := y } := ⟨h.fr, h.len, h.loc, h.gen⟩
theorem touch_eq (h : s2.hp = s.hp) (k : s3.hp = s1.hp) : touchOf s2 s3 = touchOf s s1 := by unfold touchOf; rw [h, k]
theorem touch_par {hk : HK} (e : hk = touchOf s s1) (h : HPar hk s s2) : s2.hp = s.hp := by subst e; exact h
theorem touch_out {hk : HK} (e : hk = touchOf s s1) (h : s3.hp = s1.hp) : HOut hk s s2 s1 s3 := by subst e; exact h
theorem alloc_T {t : TypeId} (ho : o.op = .alloc t) (h : Par r.slots s s2) (hh : HPar r.hk s s2) (e : aop cf C esc o s = some (.val v s1)) (hr : recOf esc o s s1 = some r) : TOK cf C esc o s s2 s1 v r := by
  have hrec : ∀ a b, recOf esc o a b = some ⟨dstL o, false, if esc.contains (o.dst.getD 0) then touchOf a b else .no⟩ := fun a b => by
    unfold recOf; simp only [ho]; simp [Op.operands, refsOs]
  rw [hrec] at hr
  simp only [Option.some.injEq] at hr; subst hr
  unfold aop at e
  simp only [ho] at e
  split at e
  · rename_i d i hd hi
    have hdm : d ∈ dstL o := by unfold dstL; rw [hd]; simp
    split at e
    · rename_i hesc
      simp only [Option.some.injEq, Out.val.injEq] at e; obtain ⟨rfl, rfl⟩ := e
      have hes : esc.contains (o.dst.getD 0) = true := by rw [hd]; exact hesc
      simp only [hes, if_true] at h hh ⊢
      have hhp : s2.hp = s.hp := hh
      refine ⟨{ s2 with hp := s2.hp ++ [i.zero] }, ?_, ?_, h.hp _ _, (Rest.refl _ _).hp _, (Rest.refl _ _).hp _, ?_, fun h => by cases h⟩
      · unfold aop; simp only [ho, hd, hi, hesc, if_true, hhp]
      · rw [hrec]; simp only [hes, if_true]; simp only [touchOf, hhp]
      · exact touch_out rfl (by show s2.hp ++ _ = s.hp ++ _; rw [hhp])
    · rename_i hesc
      simp only [Option.some.injEq, Out.val.injEq] at e; obtain ⟨rfl, rfl⟩ := e
      have hes : ¬ esc.contains (o.dst.getD 0) = true := by rw [hd]; exact hesc
      simp only [hes, Bool.false_eq_true, if_false] at h hh ⊢
      refine TOK.same (Same.mk h hdm false t i.size [i.zero]) ?_ ?_ rfl rfl
      · unfold aop; simp only [ho, hd, hi]; rw [if_neg hesc]; rw [h.gen d hdm]
      · rw [hrec]; simp only [hes, Bool.false_eq_true, if_false]
  · cases e
theorem box_T {t : TypeId} {x : Operand} (ho : o.op = .box t x) (hev : ∀ x ∈ o.op.operands.toList, opnd s2 x = opnd s x) (h : Par r.slots s s2) (hh : HPar r.hk s s2) (e : aop cf C esc o s = some (.val v s1)) (hr : recOf esc o s s1 = some r) : TOK cf C esc o s s2 s1 v r := by
  have hx2 : opnd s2 x = opnd s x := hev x (by rw [ho]; simp [Op.operands])
  have hrec : ∀ a b, recOf esc o a b = some ⟨dstL o ++ refsOs a [x], false, if esc.contains (o.dst.getD 0) then touchOf a b else .no⟩ := fun a b => by
    unfold recOf; simp only [ho]; simp [Op.operands]
  have hro : refsOs s2 [x] = refsOs s [x] := refsOs_T (by simp [hx2])
  rw [hrec] at hr
  simp only [Option.some.injEq] at hr; subst hr
  unfold aop at e
  simp only [ho] at e
  split at e
  · rename_i d i u hd hi hu
    have hdm : d ∈ dstL o ++ refsOs s [x] := by unfold dstL; rw [hd]; simp
    have hrm : ∀ d ∈ refs u, d ∈ dstL o ++ refsOs s [x] := fun d hd => List.mem_append_right _ (mem_refsOs (x := x) (by simp) hu hd)
    split at e
    · rename_i hc
      have hc2 : (cellsOf u).length = i.size ∧ okCells s2 u = true := ⟨hc.1, by rw [okCells_T h hrm]; exact hc.2⟩
      split at e
      · rename_i hesc
        split at e
        · rename_i q hq
          simp only [Option.some.injEq, Out.val.injEq] at e; obtain ⟨rfl, rfl⟩ := e
          have hes : esc.contains (o.dst.getD 0) = true := by rw [hd]; exact hesc
          simp only [hes, if_true] at h hh ⊢
          have hhp : s2.hp = s.hp := hh
          obtain ⟨t3, g1, g2⟩ := giveV_T h hrm (y := q.1) (s1 := q.2) hq
          have hq3 : t3.hp = q.2.hp := by rw [g2.2.2.2.2, g2.2.2.2.1, hhp]
          refine ⟨{ t3 with hp := t3.hp ++ [cellsOf q.1] }, ?_, ?_, g2.1.hp _ _, g2.2.1.hp _, g2.2.2.1.hp _, ?_, fun h => by cases h⟩
          · unfold aop; simp only [ho, hd, hi, hx2, hu]; rw [if_pos hc2]; simp only [hesc, if_true, g1, hq3]
          · rw [hrec, hro]; simp only [hes, if_true]; simp only [touchOf, hhp, hq3]
          · exact touch_out rfl (by show t3.hp ++ _ = q.2.hp ++ _; rw [hq3])
        · cases e
      · rename_i hesc
        simp only [Option.some.injEq, Out.val.injEq] at e; obtain ⟨rfl, rfl⟩ := e
        have hes : ¬ esc.contains (o.dst.getD 0) = true := by rw [hd]; exact hesc
        simp only [hes, Bool.false_eq_true, if_false] at h hh ⊢
        refine TOK.same (Same.mk h hdm false t i.size [cellsOf u]) ?_ ?_ rfl rfl
        · unfold aop; simp only [ho, hd, hi, hx2, hu]; rw [if_pos hc2, if_neg hesc, h.gen d hdm]
        · rw [hrec, hro]; simp only [hes, Bool.false_eq_true, if_false]
    · cases e
  · cases e
theorem buildSlice_T {t : TypeId} {len : Nat} {parts : Array (Nat × Operand)} (ho : o.op = .buildSlice t len parts) (hev : ∀ x ∈ o.op.operands.toList, opnd s2 x = opnd s x) (h : Par r.slots s s2) (e : aop cf C esc o s = some (.val v s1)) (hr : recOf esc o s s1 = some r) : TOK cf C esc o s s2 s1 v r := by
  have hmem : ∀ x ∈ parts.toList, opnd s2 x.2 = opnd s x.2 := fun x hx => hev x.2 (by rw [ho]; simp only [Op.operands]; exact List.mem_map_of_mem hx)
  have hrec : ∀ a b, recOf esc o a b = some ⟨dstL o ++ refsOs a (parts.toList.map (·.2)), false, .no⟩ := fun a b => by
    unfold recOf; simp only [ho]; simp [Op.operands]
  have hro : refsOs s2 (parts.toList.map (·.2)) = refsOs s (parts.toList.map (·.2)) := refsOs_T (fun x hx => by
    obtain ⟨p, hp, rfl⟩ := List.mem_map.1 hx
    exact hmem p hp)
  rw [hrec] at hr
  simp only [Option.some.injEq] at hr; subst hr
  unfold aop at e
  simp only [ho] at e
  split at e
  · rename_i d i ps hd hi hps
    have hdm : d ∈ dstL o ++ refsOs s (parts.toList.map (·.2)) := by unfold dstL; rw [hd]; simp
    have hrm : ∀ d ∈ (ps.map (·.2)).flatMap refs, d ∈ dstL o ++ refsOs s (parts.toList.map (·.2)) := fun d hd => List.mem_append_right _ (mem_refsP hps (by simpa [List.flatMap_map] using hd))
    split at e
    · rename_i el hde
      split at e
      · rename_i ei hei
        split at e
        · rename_i hc
          split at e
          · rename_i q hq
            split at e
            · rename_i hc2
              simp only [Option.some.injEq, Out.val.injEq] at e; obtain ⟨rfl, rfl⟩ := e
              obtain ⟨t3, g1, g2⟩ := giveA_T h hrm (ys := q.1) (s1 := q.2) hq
              refine TOK.same (g2.trans (Same.mk g2.1 hdm false el ei.size (q.1.map cellsOf))) ?_ ?_ rfl rfl
              · unfold aop
                simp only [ho, hd, hi, opndP_T hmem, hps, hde, hei]
                rw [if_pos hc]
                simp only [g1]
                rw [if_pos hc2, g2.1.gen d hdm]
              · rw [hrec, hro]
            · cases e
          · cases e
        · cases e
      · cases e
    · cases e
  · cases e
theorem slice_T {t : TypeId} {x : Operand} {lo hi mx : Option Operand} (ho : o.op = .slice t x lo hi mx) (hev : ∀ x ∈ o.op.operands.toList, opnd s2 x = opnd s x) (h : Par r.slots s s2) (e : aop cf C esc o s = some (.val v s1)) (hr : recOf esc o s s1 = some r) : TOK cf C esc o s s2 s1 v r := by
  have hx2 : opnd s2 x = opnd s x := hev x (by rw [ho]; simp [Op.operands])
  have hopt : ∀ y : Option Operand, (∀ z, y = some z → opnd s2 z = opnd s z) → optIdx s2 y = optIdx s y := fun y hy => by
    cases y with
    | none => rfl
    | some z => simp only [optIdx, hy z rfl]
  have hl2 := hopt lo (fun z hz => hev z (by rw [ho, hz]; simp [Op.operands]))
  have hh2 := hopt hi (fun z hz => hev z (by rw [ho, hz]; simp [Op.operands]))
  have hm2 := hopt mx (fun z hz => hev z (by rw [ho, hz]; simp [Op.operands]))
  have hrec2 : ∀ b, recOf esc o s2 b = some r := fun b => by
    rw [← hr]; unfold recOf; simp only [ho, hx2]
  unfold aop at e
  simp only [ho] at e
  split at e
  · rename_i i u l hh m ht hx hl hhi hm
    unfold recOf at hr
    simp only [ho, hx] at hr
    split at e
    · rename_i el u hde
      split at e
      · rename_i full xs
        simp only [Option.some.injEq] at hr; subst hr
        split at e
        · rename_i ei hei
          split at e
          · rename_i hsz
            split at e
            · rename_i rr hrr
              simp only [Option.some.injEq, Out.val.injEq] at e; obtain ⟨rfl, rfl⟩ := e
              exact TOK.quiet h (by unfold aop; simp only [ho, ht, hx2, hl2, hh2, hm2, hx, hl, hhi, hm, hde, hei, hsz, if_true, hrr]) (hrec2 _) (by simp)
            · cases e
          · cases e
        · cases e
      · rename_i d g
        simp only [Option.some.injEq] at hr; subst hr
        split at e
        · rename_i ei full xs s' hei hg
          split at e
          · rename_i hsz
            split at e
            · rename_i rr hrr
              simp only [Option.some.injEq, Out.val.injEq] at e; obtain ⟨rfl, rfl⟩ := e
              obtain ⟨t3, g1, g2⟩ := give1_T h (x := .lrow d g) (fun d' hd' => by simpa [refC] using hd') hg
              exact TOK.same g2 (by unfold aop; simp only [ho, ht, hx2, hl2, hh2, hm2, hx, hl, hhi, hm, hde, hei, g1, hsz, if_true, hrr]) (hrec2 _) rfl rfl
            · cases e
          · cases e
        · cases e
      · cases e
    · rename_i str hds
      simp only [Option.some.injEq] at hr; subst hr
      split at e
      · cases e
      · split at e
        · rename_i rr hrr
          simp only [Option.some.injEq, Out.val.injEq] at e; obtain ⟨rfl, rfl⟩ := e
          exact TOK.quiet h (by unfold aop; simp only [ho, ht, hx2, hl2, hh2, hm2, hx, hl, hhi, hm, hds, hrr]) (hrec2 _) (by simp)
        · cases e
    · cases e
  · cases e
theorem store_T {t : TypeId} {x y : Operand} (ho : o.op = .store t x y) (hev : ∀ x ∈ o.op.operands.toList, opnd s2 x = opnd s x) (h : Par r.slots s s2) (hh : HPar r.hk s s2) (e : aop cf C esc o s = some (.val v s1)) (hr : recOf esc o s s1 = some r) : TOK cf C esc o s s2 s1 v r := by
  have hx2 : opnd s2 x = opnd s x := hev x (by rw [ho]; simp [Op.operands])
  have hy2 : opnd s2 y = opnd s y := hev y (by rw [ho]; simp [Op.operands])
  have hrec : ∀ a b, recOf esc o a b = some ⟨refsOs a [x, y], false, match opnd a x with | some (.ptr ..) => touchOf a b | _ => .no⟩ := fun a b => by
    unfold recOf; simp only [ho]; simp [Op.operands]
    cases opnd a x with
    | none => rfl
    | some p => cases p <;> rfl
  have hro : refsOs s2 [x, y] = refsOs s [x, y] := refsOs_T (by simp [hx2, hy2])
  rw [hrec] at hr
  simp only [Option.some.injEq] at hr; subst hr
  unfold aop at e
  simp only [ho] at e
  split at e
  · rename_i i p u ht hp hu
    have hpm : ∀ d ∈ refs p, d ∈ refsOs s [x, y] := fun d hd => mem_refsOs (x := x) (by simp) hp hd
    have hum : ∀ d ∈ refs u, d ∈ refsOs s [x, y] := fun d hd => mem_refsOs (x := y) (by simp) hu hd
    split at e
    · rename_i q hq
      simp only [Option.some.injEq, Out.val.injEq] at e; obtain ⟨rfl, rfl⟩ := e
      simp only [hp] at h hh ⊢
      have fin : ∀ t3, storeAt i s2 p u = some t3 → aop cf C esc o s2 = some (.val .undef t3) := fun t3 h3 => by
        unfold aop; simp only [ho, ht, hx2, hy2, hp, hu, h3]
      unfold storeAt at hq
      split at hq
      · rename_i hc
        have hc2 : (cellsOf u).length = i.size ∧ okCells s2 u = true := ⟨hc.1, by rw [okCells_T h hum]; exact hc.2⟩
        split at hq
        · rename_i d g k off
          have hd := hpm d (by simp [refs, refC])
          split at hq
          · rename_i ob hob
            split at hq
            · cases hq
            · rename_i hno
              split at hq
              · rename_i z hz
                split at hq
                · rename_i hoff
                  simp only [Option.some.injEq] at hq; subst hq
                  refine TOK.same (Same.setg h hd _) (fin _ ?_) ?_ rfl rfl
                  · unfold storeAt
                    rw [if_pos hc2]
                    simp only [h.lobj hd, hob]
                    rw [if_neg hno]
                    simp only [hz]
                    rw [if_pos hoff]
                  · rw [hrec, hro]; simp only [hx2, hp]
                · cases hq
              · cases hq
          · cases hq
        · rename_i id off
          split at hq
          · rename_i rr hrr
            split at hq
            · rename_i z hz
              split at hq
              · rename_i hoff
                simp only [Option.some.injEq] at hq; subst hq
                have hhp : s2.hp = s.hp := hh
                obtain ⟨t3, g1, g2⟩ := giveV_T h hum (y := rr.1) (s1 := rr.2) hrr
                have hq3 : t3.hp = rr.2.hp := by rw [g2.2.2.2.2, g2.2.2.2.1, hhp]
                refine ⟨{ t3 with hp := t3.hp.set id (writeCells z off (cellsOf rr.1)) }, fin _ ?_, ?_, g2.1.hp _ _, g2.2.1.hp _, g2.2.2.1.hp _, ?_, fun h => by cases h⟩
                · unfold storeAt
                  rw [if_pos hc2]
                  simp only [g1, hq3, hz]
                  rw [if_pos hoff]
                · rw [hrec, hro]; simp only [hx2, hp]; simp only [touchOf, hhp, hq3]
                · exact touch_out rfl (by show t3.hp.set _ _ = rr.2.hp.set _ _; rw [hq3])
              · cases hq
            · cases hq
          · cases hq
        · cases hq
      · cases hq
    · cases e
  · cases e
theorem builtin_T {c : Call} {b : Builtin} (ho : o.op = .call c) (hb_ : c.callee = .builtin b) (hev : ∀ x ∈ o.op.operands.toList, opnd s2 x = opnd s x) (h : Par r.slots s s2) (e : aop cf C esc o s = some (.val v s1)) (hr : recOf esc o s s1 = some r) : TOK cf C esc o s s2 s1 v r := by
  have hops : o.op.operands.toList = c.args.toList := by rw [ho]; simp [Op.operands, Call.operands, hb_]
  have hev' : ∀ x ∈ c.args.toList, opnd s2 x = opnd s x := fun x hx => hev x (by rw [hops]; exact hx)
  have hro : refsOs s2 c.args.toList = refsOs s c.args.toList := refsOs_T hev'
  unfold aop at e
  simp only [ho, hb_] at e
  split at e
  · rename_i as has
    have has2 : opndL s2 c.args.toList = some as := by rw [opndL_T hev', has]
    have fin : ∀ t3, builtinA cf.tab s2 (o.dst.getD 0) b c.argTypes.toList as = some (.val v t3) → aop cf C esc o s2 = some (.val v t3) := fun t3 h3 => by
      unfold aop; simp only [ho, hb_, has2, h3]
    unfold builtinA at e
    split at e
    · have hrec : ∀ a b, recOf esc o a b = some ⟨refsOs a c.args.toList, true, .no⟩ := fun a b => by
        unfold recOf; simp only [ho, hb_]; simp [Op.operands, Call.operands, hb_]
      rw [hrec] at hr
      simp only [Option.some.injEq] at hr; subst hr
      split at e
      · rename_i t ts x e1
        have hxm : ∀ d ∈ refs x, d ∈ refsOs s c.args.toList := fun d hd => mem_refsL has (by simpa using hd)
        split at e
        · rename_i i ht
          split at e
          · rename_i str hd
            simp only [Option.some.injEq, Out.val.injEq] at e; obtain ⟨rfl, rfl⟩ := e
            exact TOK.quiet h (fin _ (by unfold builtinA; simp only [e1, ht, hd])) (by rw [hrec, hro]) (by simp)
          · rename_i el hd
            split at e
            · cases e
            · rename_i hne
              split at e
              · rename_i n hn
                simp only [Option.some.injEq, Out.val.injEq] at e; obtain ⟨rfl, rfl⟩ := e
                refine TOK.quiet h (fin _ ?_) (by rw [hrec, hro]) (by simp)
                unfold builtinA
                simp only [e1, ht, hd]
                rw [lenA_T h hxm, hn]
              · cases e
          · cases e
        · cases e
      · cases e
    · have hrec : ∀ a b, recOf esc o a b = some ⟨(o.dst.getD 0) :: refsOs a c.args.toList, false, .no⟩ := fun a b => by
        unfold recOf; simp only [ho, hb_]; simp [Op.operands, Call.operands, hb_]
      rw [hrec] at hr
      simp only [Option.some.injEq] at hr; subst hr
      split at e
      · rename_i t u sv x e1
        have hxm : ∀ d ∈ refs x, d ∈ (o.dst.getD 0) :: refsOs s c.args.toList := fun d hd => List.mem_cons_of_mem _ (mem_refsL has (by simp [hd]))
        have hsm : ∀ d ∈ refs sv, d ∈ (o.dst.getD 0) :: refsOs s c.args.toList := fun d hd => List.mem_cons_of_mem _ (mem_refsL has (by simp [hd]))
        split at e
        · rename_i i j ht hu
          split at e
          · rename_i el el' hd hd'
            split at e
            · rename_i ei hei
              split at e
              · rename_i ys hys
                obtain ⟨t3, g1, g2⟩ := appendA_T h (by simp) hsm e
                refine TOK.same g2 (fin _ ?_) (by rw [hrec, hro]) rfl rfl
                unfold builtinA
                simp only [e1, ht, hu, hd, hd', hei, elemsOf_T h hxm, hys, g1]
              · cases e
            · cases e
          · cases e
        · cases e
      · cases e
    · cases e
  · cases e
end
end Go.Ev
