/- The functions that are taken by contract do what 'pr' says. -/
import Derived.Test.YtikedmiioonjiaaDoorSt
import Derived.Test.YtikedmiioonjiaaDoorShelf
import Derived.BigQuiet
import Derived.WalkKit
set_option linter.unusedVariables false
set_option linter.unusedSimpArgs false
set_option linter.unusedSectionVars false
set_option linter.defProp false
namespace Go.Proofs.YtikedmiioonjiaaDoor
open Go Go.Ev Sp
set_option maxRecDepth 100000
set_option linter.unusedSimpArgs false
set_option linter.unusedVariables false
variable {W : World} {hp : List (List AV)}
theorem cmp_lib : ∀ a b : List UInt8, Lib.compareBytes a b = cmpB a b
  | [], [] => rfl
  | [], _ :: _ => rfl
  | _ :: _, [] => rfl
  | a :: l, b :: l' => by rw [Lib.compareBytes, cmpB, cmp_lib l l']
theorem eff_same {w w' : World} {S : Nat → Prop} {hb : List Nat} (hH : HRep w S hb hp) (hS : ∀ b, S b → b < w.heap.size) (hb' : RowKit.Below w.heap.size w w') : Eff w S hb none w' S hb hp ∧ Stays w w' S S hb hb := by
  have hlt : ∀ b ∈ hb, b < w.heap.size := fun b hm => by
    obtain ⟨i, hi⟩ := List.getElem?_of_mem hm
    have hl : i < hp.length := by rw [← hH.len]; exact (List.getElem?_eq_some_iff.1 hi).1
    obtain ⟨arr, ty, h1, _⟩ := hH.cells i b _ hi (List.getElem?_eq_getElem hl)
    exact (Array.getElem?_eq_some_iff.1 h1).1
  have H : Stays w w' S S hb hb := ⟨fun _ h => h, fun b h => hb'.block b (hS b h), fun _ _ h => h⟩
  exact ⟨⟨hb'.os, hb'.tape, hb'.output, hb'.size, fun b h _ _ => hb'.block b h, fun _ h => h, fun _ h => .inl h, fun b h => Nat.lt_of_lt_of_le (hS b h) hb'.size, fun _ _ h => h, fun _ h => .inl h,
    HRep_mono H (fun b hm => hb'.block b (hlt b hm)) hH.out hH⟩, H⟩
theorem enters {f : FuncId} {fn : Func} {c : Code} (h1 : Tryd.prog.funcs[f]? = some fn) (h2 : fn.body = some c) (h3 : (fn.name == "runtime.NumGoroutine") = false) : ∃ fn c, Tryd.prog.funcs[f]? = some fn ∧ fn.body = some c ∧ (fn.name == "runtime.NumGoroutine") = false := ⟨fn, c, h1, h2, h3⟩
theorem tabs {W w : World} {S : Nat → Prop} (hT : Lib.Utf8Tabs 1 2 W) (hL : Lay (cf W) w S) : Lib.Utf8Tabs 1 2 w := by
  have h1 := (hL 1 (by simp [cf])).2
  have h2 := (hL 2 (by simp [cf])).2
  exact ⟨fun c hc => by rw [cell_same h1]; exact hT.1 c hc, fun i hi => by rw [cell_same h2, cell_same h2]; exact hT.2 i hi⟩
/-- slices.Clone of a row that is not nil: by its own text. -/
noncomputable abbrev cfC (W : World) : Cfg := { tab := (cf W).tab, meth := fun _ _ => none, esc := fun _ => [], own := ownF, xf := xF, prim := fun _ => false, laid := (cf W).laid, laidIn := W }
theorem clone_run {fl : Bool} {x : List AV} {xs : List (List AV)} (h1 : ((xs.length + 1) * 56 ≤ 140737488355328) = True) (h2 : (x.length == 4) = true) (h3 : (xs.all fun y => y.length == 4 && y.all clean1) = true) (h4 : x.all clean1 = true) (h5 : (xs.all fun y => y.all clean1) = true) :
    F Tryd.prog (cfC W) pr 28 [.rows fl (x :: xs)] hp = some (.ret (.orow 24 4 (x :: xs)) [] hp) := by
  refine F_wp (st := ⟨((.rows fl (x :: xs)) :: .undef :: .undef :: .undef :: .undef :: .undef :: .undef :: .undef :: []), (none :: none :: none :: none :: none :: none :: none :: none :: []), fun _ => 0, hp⟩) (rs := [.tmp 2]) Tryd.func28 rfl rfl rfl rfl ?_
  simp only [qaa, qab, qac, qad, qae, qaf, qag, qah, qai, qaj, qak, qal, qam, qan, qao, qap, qaq, qar, qas, qat, qau, qav, qaw, qax, qay, qaz, qba, qbb, qbc, qbd, qbe, qbf, qbg, qbh, qbi, qbj, qbk, qbl, qbm, qbn, qbo, qbp, qbq, qbr, qbs, qbt, qbu, qbv, qbw, qbx, qby, qbz, qca, qcb, qcc, qcd, qce, qcf, qcg, qch, qci, qcj, qck, qcl, qcm, qcn, qco, qcp, qcq, qcr, qcs, qct, qcu, qcv, qcw, qcx, qcy, qcz, qda, qdb, qdc, qdd, opndL, opndP, qde, qdf, qdg, qdh, qdi, qdj, St.lobj, bump, loadAt, storeAt, readCells, TI.agg, cellsOf, okCells, clean1, isCell, qdk, qdl, qdm, qdn, qdo, qdp, qdq, binopA, intBin, strBin, eqBin, isNilConst, isNilSl, kindOf, convA, fieldOf, fillA, known, elemsOf, appendA, lenA, builtinA, cutA, cutS, optIdx, idx, cleanRows, isORow, giveV, give1, giveL, giveA, giveC, giveC1, recOf, refC, refs, refsO, refsOs, touchOf, dstL, capR, disj, hkFit, fit, fitAll, Op.operands, Go.Call.operands, finish, resultL, result1, obj0, out1, qdr, ↓qds, ↓qdt, qdu, qdv, qdw, qdx, qdy, qdz, qea, qeb, qec, qed, qee, qef, qeg, qeh, qei, qej, qek, qel, qem, qen, qeo, qep, ↓reduceIte, reduceCtorEq, qeq, qer, qes, qet, qeu, qev, qew, qex, qey, qez, qfa, qfb, qfc, qfd, qfe, qff, qfg, qfh, qfi, qfj, qfk, qfl, qfm, qfn, qfo, qfp, qfq, qfr, qfs, qft, qfu, qfv, qfw, qfx, qfy, qfz, qga, qgb, qgc, qgd, qge, qgf, qgg, qgh, qgi, Nat.reduceAdd, Nat.reduceSub, Nat.reduceMul, Nat.reduceLT, Nat.reduceLeDiff, Nat.reduceEqDiff, Nat.reduceBEq, Nat.reduceBNe, qgj, qgk, qgl, qgm, qgn, qgo, Int.reduceNeg, Int.reduceLT, Int.reduceLE, Int.reduceGT, Int.reduceGE, Nat.reduceGT, qgp, Int.reduceEq, Int.reduceAdd, Int.reduceSub, Int.reduceToNat, qgq, qgr, qgs, qgt, qgu, qgv, qgw, qgx, qgy, qgz, qha, qhb, qhc, qhd, qhe, qhf, qhg, qhh, qhi, qhj, qhk, qhl, qhm, qhn, qho, qhp, qhq, qhr, qhs, qht, roomB, qhu, Int.reduceBNe, Int.reduceBEq, qhv, qhw, qhx, qhy, qhz, qia, qib, qic, qid, qie, qif, qig, qih, qii, qij, qik, qil, qim, xF, ownF, qin, qio, qip, qiq, ty1, ty2, ty3, ty4, ty5, ty6, ty9, ty21, ty22, ty24, ty26, ty27, ty38, ty40, ty44, ty61, ty63, ty66, ty71, ty72, ty74, ty85, ty87, ty94, ty97, ty103, ty107, h1, h2, h3, h4, h5, cfC]
theorem eql_some (w : World) (a : Addr) (n c : Nat) : (binOp .eql 22 (.slice (some a) n c) (.slice none 0 0)).run Tryd.prog w = .ok (.bool false) w := by
  have e0 : (Op.equal 22 (.slice (some a) n c) (.slice none 0 0)).run Tryd.prog w = .ok false w := by
    refine run_equal ?_
    unfold Op.equalIn
    simp only [Sem.run_bind, run_underlying_ Tryd.underlying22, Result.andThen_ok]
    rfl
  show ((do pure (Value.bool (← Op.equal 22 _ _)) : Sem Value)).run Tryd.prog w = _
  simp only [Sem.run_bind, e0, Result.andThen_ok]; rfl
theorem eql_none (w : World) (c : Nat) : (binOp .eql 22 (.slice none 0 c) (.slice none 0 0)).run Tryd.prog w = .ok (.bool true) w := by
  have e0 : (Op.equal 22 (.slice none 0 c) (.slice none 0 0)).run Tryd.prog w = .ok true w := by
    refine run_equal ?_
    unfold Op.equalIn
    simp only [Sem.run_bind, run_underlying_ Tryd.underlying22, Result.andThen_ok]
    rfl
  show ((do pure (Value.bool (← Op.equal 22 _ _)) : Sem Value)).run Tryd.prog w = _
  simp only [Sem.run_bind, e0, Result.andThen_ok]; rfl
theorem clone_none (w : World) (c : Nat) : Calls Tryd.prog 28 #[.slice none 0 c] w fun e w' => e = .returned (.slice none 0 0) ∧ w' = w := by
  have h0 := eql_none w c
  go_enter Tryd.func28, Tryd.ntmps28
  go_wp2
  go_ret
  exact ⟨rfl, rfl⟩
theorem clone_empty (w : World) (a : Addr) (c : Nat) : Calls Tryd.prog 28 #[.slice (some a) 0 c] w fun e w' => (∃ A, e = .returned (.slice A 0 0)) ∧ RowKit.Below w.heap.size w w' := by
  have h0 := eql_some w a 0 c
  go_enter Tryd.func28, Tryd.ntmps28
  go_wp2
  go_ret
  exact ⟨⟨_, rfl⟩, (RowKit.Below.refl _ _).alloc (Nat.le_refl _) _⟩
theorem follows : Tryd.prog.follows .mixedOrders = true := by decide +kernel
theorem textOK : textB Tryd.prog = true := by decide +kernel
theorem methOK (W : World) : MethOK Tryd.prog (cf W) := fun t name g h => by cases h
theorem cloneOK (W : World) : COK Tryd.prog (cfC W) (F Tryd.prog (cfC W) pr) :=
  F_ok (ev_all rfl (fun t name g h => by cases h) follows textOK fun C hC f args hp r h => by cases h)
theorem primOK {W : World} (hT : Lib.Utf8Tabs 1 2 W) : PrimOK Tryd.prog (cf W) pr := by
  intro C hC f args hp r hpf hpr
  unfold pr at hpr
  split at hpr
  · rename_i hf
    subst hf
    split at hpr
    · rename_i a b
      simp only [Option.some.injEq] at hpr
      subst hpr
      refine ⟨⟨_, _, Tryd.func26, rfl, rfl⟩, fun w S hb xb vs hL hH hS hA => ?_⟩
      obtain ⟨rfl, hr⟩ := hA
      simp only [crepL, crep] at hr
      obtain ⟨_, _, rfl, rfl, _, _, rfl, rfl, rfl⟩ := hr
      refine (Tryd.strings_Compare a b w).mono fun e w' ⟨he, hw⟩ => ?_
      subst he hw
      obtain ⟨E, H⟩ := eff_same hH hS (RowKit.Below.refl _ _)
      refine ⟨_, _, _, S, hb, rfl, E, ?_, fun h => by cases h⟩
      show crep _ _ _ _ _
      rw [crep, cmp_lib]
      rfl
    · cases hpr
  · split at hpr
    · rename_i hf
      subst hf
      split at hpr
      · rename_i a
        simp only [Option.some.injEq] at hpr
        subst hpr
        refine ⟨⟨_, _, Tryd.func73, rfl, rfl⟩, fun w S hb xb vs hL hH hS hA => ?_⟩
        obtain ⟨rfl, hr⟩ := hA
        simp only [crepL, crep] at hr
        obtain ⟨_, _, rfl, rfl, rfl⟩ := hr
        refine (Tryd.utf8_DecodeRuneInString a w (tabs hT hL)).mono fun e w' ⟨he, hb'⟩ => ?_
        subst he
        obtain ⟨E, H⟩ := eff_same hH hS hb'
        refine ⟨_, _, _, S, hb, rfl, E, ?_, fun h => by cases h⟩
        show crep _ _ _ _ _
        rw [crep]
        refine ⟨_, rfl, ?_⟩
        simp only [crepL, crep]
        exact ⟨_, _, rfl, rfl, _, _, rfl, rfl, rfl⟩
      · cases hpr
    · split at hpr
      · rename_i hf
        subst hf
        split at hpr
        · rename_i fl xs
          split at hpr
          · rename_i hcond
            simp only [Option.some.injEq] at hpr
            subst hpr
            refine ⟨⟨_, _, Tryd.func28, rfl, rfl⟩, fun w S hb xb vs hL hH hS hA => ?_⟩
            cases xs with
            | nil =>
              obtain ⟨rfl, hr⟩ := hA
              simp only [crepL, crep] at hr
              obtain ⟨_, _, rfl, ⟨A, c, rfl, _⟩, rfl⟩ := hr
              cases A with
              | none =>
                refine (clone_none w c).mono fun e w' ⟨he, hw⟩ => ?_
                subst he hw
                obtain ⟨E, H⟩ := eff_same hH hS (RowKit.Below.refl _ _)
                exact ⟨_, _, _, S, hb, rfl, E, ⟨none, 0, .inl ⟨rfl, rfl, rfl, none, rfl⟩, fun b h => by cases h⟩, fun h => by cases h⟩
              | some a =>
                refine (clone_empty w a c).mono fun e w' ⟨⟨A, he⟩, hb'⟩ => ?_
                subst he
                obtain ⟨E, H⟩ := eff_same hH hS hb'
                exact ⟨_, _, _, S, hb, rfl, E, ⟨none, 0, .inl ⟨rfl, rfl, rfl, A, rfl⟩, fun b h => by cases h⟩, fun h => by cases h⟩
            | cons x xs =>
              have h0 := hcond.2
              simp only [List.all_cons, Bool.and_eq_true] at h0
              obtain ⟨⟨a1, a2⟩, a3⟩ := h0
              have a4 : (xs.all fun y => y.length == 4 && y.all clean1) = true := by
                rw [List.all_eq_true] at a3 ⊢
                intro y hy
                have := a3 y hy
                simpa using this
              have a5 : (xs.all fun y => y.all clean1) = true := by
                rw [List.all_eq_true] at a4 ⊢
                intro y hy
                have := a4 y hy
                rw [Bool.and_eq_true] at this
                exact this.2
              have hrun := clone_run (W := W) (hp := hp) (fl := fl) (x := x) (xs := xs) (by have := hcond.1; simp only [List.length_cons, roomB] at this; simp only [eq_iff_iff, iff_true]; exact this) a1 a4 a2 a5
              exact (cloneOK W _ _ _ _ hrun).2 w S hb xb vs hL hH hS hA
          · cases hpr
        · cases hpr
      · cases hpr
theorem cok {W : World} (hT : Lib.Utf8Tabs 1 2 W) : COK Tryd.prog (cf W) (FF W) :=
  F_ok (ev_all rfl (methOK W) follows textOK (primOK hT))
end Go.Proofs.YtikedmiioonjiaaDoor
