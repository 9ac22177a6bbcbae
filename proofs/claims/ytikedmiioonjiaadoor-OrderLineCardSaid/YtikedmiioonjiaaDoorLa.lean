/- Each order is one line: plain Lean; and what the law OrderLine comes to. -/
import Derived.Test.YtikedmiioonjiaaDoorVi
set_option linter.unusedVariables false
set_option linter.unusedSimpArgs false
set_option linter.unusedSectionVars false
set_option linter.defProp false
namespace Sp
open Go Go.Ev
theorem cmpI_bd (a b : Int) : -1 ≤ cmpI a b ∧ cmpI a b ≤ 1 := by unfold cmpI; (repeat' split) <;> omega
theorem cmpB_bd : ∀ a b, -1 ≤ cmpB a b ∧ cmpB a b ≤ 1
  | [], [] => by simp [cmpB]
  | [], _ :: _ => by simp [cmpB]
  | _ :: _, [] => by simp [cmpB]
  | a :: as_, b :: bs => by
    rw [cmpB]
    split
    · omega
    · split
      · omega
      · exact cmpB_bd as_ bs
theorem cmp_bd_all : (∀ a b : S24, -1 ≤ cmpV a b ∧ cmpV a b ≤ 1) ∧ (∀ a b : List S24, -1 ≤ cmpL a b ∧ cmpL a b ≤ 1) := by
  have key : ∀ (Q : List S24 → Prop) (P : S24 → Prop), (∀ k n t l, Q l → P ⟨k, n, t, l⟩) → Q [] → (∀ a l, P a → Q l → Q (a :: l)) → (∀ a, P a) ∧ (∀ a, Q a) :=
    fun Q P h1 h2 h3 => ⟨ind2 h1 h2 h3, ind2L h1 h2 h3⟩
  refine key (fun a => ∀ b, -1 ≤ cmpL a b ∧ cmpL a b ≤ 1) (fun a => ∀ b, -1 ≤ cmpV a b ∧ cmpV a b ≤ 1) ?_ ?_ ?_
  · intro k n t l ih b
    have h1 := cmpI_bd k b.f0
    have h2 := cmpI_bd n b.f1
    have h3 := cmpB_bd t.data.toList b.f2.data.toList
    have h4 := ih b.f3
    rw [cmpV_eq]
    (repeat' split) <;> first | exact h1 | exact h2 | exact h3 | exact h4 | omega
  · intro b
    cases b <;> simp [cmpL]
  · intro a l ha hl b
    cases b with
    | nil => simp [cmpL]
    | cons b bs =>
      have h1 := ha b
      have h2 := hl bs
      rw [cmpL]
      split <;> omega
theorem orI_bd {x y : Int} (hx : -1 ≤ x ∧ x ≤ 1) (hy : -1 ≤ y ∧ y ≤ 1) : -1 ≤ orI x y ∧ orI x y ≤ 1 := by unfold orI; split <;> omega
theorem ordC_bd (o : Nat) (a b : S24) : -1 ≤ ordC o a b ∧ ordC o a b ≤ 1 := by
  have h := cmp_bd_all.1 a b
  have h' := cmp_bd_all.1 b a
  match o with
  | 0 => exact h
  | 1 => exact h'
  | 2 => exact orI_bd (cmpI_bd _ _) h
  | 3 => exact orI_bd (cmpI_bd _ _) h
  | 4 =>
    show -1 ≤ (if _ then _ else _) ∧ (if _ then _ else _) ≤ _
    split
    · exact orI_bd (cmpI_bd _ _) h
    · exact h
  | _ + 5 =>
    show -1 ≤ (if _ then _ else _) ∧ (if _ then _ else _) ≤ _
    split
    · exact orI_bd (cmpI_bd _ _) (cmpI_bd _ _)
    · exact h
theorem cmpV_kind {a b : S24} (h : a.f0 ≠ b.f0) : cmpV a b = cmpI a.f0 b.f0 := by rw [cmpV_eq, if_pos h]
/-- An order that asks something of its own of two values of one kind. -/
theorem good_kind (κ : Int) {e : S24 → S24 → Int} (he : Good e) : Good (fun a b => if a.f0 = κ ∧ b.f0 = κ then e a b else cmpV a b) where
  swap a b := by
    by_cases ha : a.f0 = κ <;> by_cases hb : b.f0 = κ <;> simp only [ha, hb, and_self, and_true, and_false, false_and, if_true, if_false]
    · exact he.swap a b
    all_goals exact good_cmpV.swap a b
  le_trans a b d := by
    have t := good_cmpV.le_trans a b d
    have cI : ∀ x y : Int, cmpI x y ≤ 0 ↔ x ≤ y := fun x y => by unfold cmpI; (repeat' split) <;> omega
    by_cases ha : a.f0 = κ <;> by_cases hb : b.f0 = κ <;> by_cases hd : d.f0 = κ <;> simp only [ha, hb, hd, and_self, and_true, and_false, false_and, if_true, if_false]
    · exact he.le_trans a b d
    · intro _ h
      rw [cmpV_kind (by rw [hb]; exact Ne.symm hd), hb] at h
      rw [cmpV_kind (by rw [ha]; exact Ne.symm hd), ha]
      exact h
    · intro h1 h2
      exfalso
      rw [cmpV_kind (by rw [ha]; exact Ne.symm hb), ha, cI] at h1
      rw [cmpV_kind (by rw [hd]; exact hb), hd, cI] at h2
      omega
    · exact t
    · intro h _
      rw [cmpV_kind (by rw [hb]; exact ha), hb] at h
      rw [cmpV_kind (by rw [hd]; exact ha), hd]
      exact h
    all_goals exact t
theorem good_ordC (o : Nat) : Good (ordC o) := by
  match o with
  | 0 => exact good_cmpV
  | 1 => exact good_flip good_cmpV
  | 2 => exact good_or (good_by good_cmpI hashV) good_cmpV
  | 3 => exact good_or (good_by good_cmpI sizeV) good_cmpV
  | 4 => exact good_kind 3 (good_or (good_by good_cmpI fun v : S24 => (runesP v.f2 0 : Int)) good_cmpV)
  | _ + 5 => exact good_kind 2 (good_or (good_by good_cmpI fun v : S24 => farU v.f1) (good_by good_cmpI fun v : S24 => v.f1))
theorem orI_zero {x y : Int} (h : orI x y = 0) : x = 0 ∧ y = 0 := by
  unfold orI at h
  split at h
  · omega
  · omega
theorem ordC_zero {o : Nat} {a b : S24} (h : ordC o a b = 0) : cmpV a b = 0 := by
  match o, h with
  | 0, h => exact h
  | 1, h => have := good_cmpV.swap b a; change cmpV b a = 0 at h; omega
  | 2, h => exact (orI_zero h).2
  | 3, h => exact (orI_zero h).2
  | 4, h =>
    change (if _ then _ else _) = (0 : Int) at h
    split at h
    · exact (orI_zero h).2
    · exact h
  | _ + 5, h =>
    change (if _ then _ else _) = (0 : Int) at h
    split at h
    · rename_i hk
      have h2 := (orI_zero h).2
      rw [cmpV_eq, if_neg (by omega), if_pos (by omega)]
      exact h2
    · exact h
theorem ordC_eq {o : Nat} {a b : S24} (ha : Right a) (hb : Right b) : (ordC o a b == 0) = (cmpV a b == 0) := by
  rw [Bool.eq_iff_iff, beq_iff_eq, beq_iff_eq]
  constructor
  · exact ordC_zero
  · intro h
    have e : a = b := eq_of_cmp ha hb h
    subst e
    exact (good_ordC o).self a
end Sp
namespace Go.Proofs.YtikedmiioonjiaaDoor
open Go Go.Ev Sp
set_option maxRecDepth 100000
set_option linter.unusedSimpArgs false
set_option linter.unusedVariables false
variable {W : World} {hp : List (List AV)}
theorem equal {a b : S24} (hs : sizeV a < 9223372036854775807) : FF W 7 [.agg [.int .i64 a.f0, .int .i64 a.f1, .str a.f2, .rows false (a.f3.map cellsS)], .agg [.int .i64 b.f0, .int .i64 b.f1, .str b.f2, .rows false (b.f3.map cellsS)]] hp = some (.ret (.bool (cmpV a b == 0)) [] hp) := by
  have hc := compare (W := W) (hp := hp) a b hs
  refine F_wp (st := ⟨((.agg [.int .i64 a.f0, .int .i64 a.f1, .str a.f2, .rows false (a.f3.map cellsS)]) :: (.agg [.int .i64 b.f0, .int .i64 b.f1, .str b.f2, .rows false (b.f3.map cellsS)]) :: .undef :: .undef :: .undef :: .undef :: .undef :: .undef :: .undef :: []), (none :: none :: none :: none :: none :: none :: none :: none :: none :: []), fun _ => 0, hp⟩) (rs := [.tmp 4]) Tryd.func7 rfl rfl rfl rfl ?_
  simp only [qaa, qab, qac, qad, qae, qaf, qag, qah, qai, qaj, qak, qal, qam, qan, qao, qap, qaq, qar, qas, qat, qau, qav, qaw, qax, qay, qaz, qba, qbb, qbc, qbd, qbe, qbf, qbg, qbh, qbi, qbj, qbk, qbl, qbm, qbn, qbo, qbp, qbq, qbr, qbs, qbt, qbu, qbv, qbw, qbx, qby, qbz, qca, qcb, qcc, qcd, qce, qcf, qcg, qch, qci, qcj, qck, qcl, qcm, qcn, qco, qcp, qcq, qcr, qcs, qct, qcu, qcv, qcw, qcx, qcy, qcz, qda, qdb, qdc, qdd, opndL, opndP, qde, qdf, qdg, qdh, qdi, qdj, St.lobj, bump, loadAt, storeAt, readCells, TI.agg, cellsOf, okCells, clean1, isCell, qdk, qdl, qdm, qdn, qdo, qdp, qdq, binopA, intBin, strBin, eqBin, isNilConst, isNilSl, kindOf, convA, fieldOf, fillA, known, elemsOf, appendA, lenA, builtinA, cutA, cutS, optIdx, idx, cleanRows, isORow, giveV, give1, giveL, giveA, giveC, giveC1, recOf, refC, refs, refsO, refsOs, touchOf, dstL, capR, disj, hkFit, fit, fitAll, Op.operands, Go.Call.operands, finish, resultL, result1, obj0, out1, qdr, ↓qds, ↓qdt, qdu, qdv, qdw, qdx, qdy, qdz, qea, qeb, qec, qed, qee, qef, qeg, qeh, qei, qej, qek, qel, qem, qen, qeo, qep, ↓reduceIte, reduceCtorEq, qeq, qer, qes, qet, qeu, qev, qew, qex, qey, qez, qfa, qfb, qfc, qfd, qfe, qff, qfg, qfh, qfi, qfj, qfk, qfl, qfm, qfn, qfo, qfp, qfq, qfr, qfs, qft, qfu, qfv, qfw, qfx, qfy, qfz, qga, qgb, qgc, qgd, qge, qgf, qgg, qgh, qgi, Nat.reduceAdd, Nat.reduceSub, Nat.reduceMul, Nat.reduceLT, Nat.reduceLeDiff, Nat.reduceEqDiff, Nat.reduceBEq, Nat.reduceBNe, qgj, qgk, qgl, qgm, qgn, qgo, Int.reduceNeg, Int.reduceLT, Int.reduceLE, Int.reduceGT, Int.reduceGE, Nat.reduceGT, qgp, Int.reduceEq, Int.reduceAdd, Int.reduceSub, Int.reduceToNat, qgq, qgr, qgs, qgt, qgu, qgv, qgw, qgx, qgy, qgz, qha, qhb, qhc, qhd, qhe, qhf, qhg, qhh, qhi, qhj, qhk, qhl, qhm, qhn, qho, qhp, qhq, qhr, qhs, qht, roomB, qhu, Int.reduceBNe, Int.reduceBEq, qhv, qhw, qhx, qhy, qhz, qia, qib, qic, qid, qie, qif, qig, qih, qii, qij, qik, qil, qim, xF, ownF, qin, qio, qip, qiq, ty1, ty2, ty3, ty4, ty5, ty6, ty9, ty21, ty22, ty24, ty26, ty27, ty38, ty40, ty44, ty61, ty63, ty66, ty71, ty72, ty74, ty85, ty87, ty94, ty97, ty103, ty107, hc]
set_option maxHeartbeats 4000000 in
theorem orderLine {o : Int} {a b c : S24} : FF W 3 [.agg [.int .i64 o, .int .i64 a.f0, .int .i64 a.f1, .str a.f2, .rows false (a.f3.map cellsS), .int .i64 b.f0, .int .i64 b.f1, .str b.f2, .rows false (b.f3.map cellsS), .int .i64 c.f0, .int .i64 c.f1, .str c.f2, .rows false (c.f3.map cellsS)]] hp = some (.ret (.bool true) [] hp) := by
  have hab := ordCompare (W := W) (hp := hp) (o := o) (a := a) (b := b)
  have hba := ordCompare (W := W) (hp := hp) (o := o) (a := b) (b := a)
  have hbc := ordCompare (W := W) (hp := hp) (o := o) (a := b) (b := c)
  have hac := ordCompare (W := W) (hp := hp) (o := o) (a := a) (b := c)
  refine F_wp (st := ⟨((.agg [.int .i64 o, .int .i64 a.f0, .int .i64 a.f1, .str a.f2, .rows false (a.f3.map cellsS), .int .i64 b.f0, .int .i64 b.f1, .str b.f2, .rows false (b.f3.map cellsS), .int .i64 c.f0, .int .i64 c.f1, .str c.f2, .rows false (c.f3.map cellsS)]) :: .undef :: .undef :: .undef :: .undef :: .undef :: .undef :: .undef :: .undef :: .undef :: .undef :: .undef :: .undef :: .undef :: .undef :: .undef :: .undef :: .undef :: .undef :: .undef :: .undef :: .undef :: .undef :: .undef :: .undef :: .undef :: .undef :: .undef :: .undef :: .undef :: .undef :: .undef :: .undef :: .undef :: .undef :: .undef :: .undef :: .undef :: .undef :: .undef :: .undef :: .undef :: .undef :: .undef :: .undef :: .undef :: .undef :: .undef :: .undef :: .undef :: .undef :: .undef :: .undef :: .undef :: .undef :: .undef :: .undef :: .undef :: .undef :: .undef :: .undef :: .undef :: .undef :: .undef :: .undef :: .undef :: .undef :: .undef :: .undef :: .undef :: .undef :: .undef :: .undef :: .undef :: .undef :: .undef :: .undef :: .undef :: .undef :: .undef :: .undef :: .undef :: .undef :: .undef :: .undef :: .undef :: .undef :: .undef :: .undef :: .undef :: .undef :: .undef :: .undef :: .undef :: .undef :: []), (none :: none :: none :: none :: none :: none :: none :: none :: none :: none :: none :: none :: none :: none :: none :: none :: none :: none :: none :: none :: none :: none :: none :: none :: none :: none :: none :: none :: none :: none :: none :: none :: none :: none :: none :: none :: none :: none :: none :: none :: none :: none :: none :: none :: none :: none :: none :: none :: none :: none :: none :: none :: none :: none :: none :: none :: none :: none :: none :: none :: none :: none :: none :: none :: none :: none :: none :: none :: none :: none :: none :: none :: none :: none :: none :: none :: none :: none :: none :: none :: none :: none :: none :: none :: none :: none :: none :: none :: none :: none :: none :: none :: none :: none :: none :: []), fun _ => 0, hp⟩) (rs := [.tmp 2]) Tryd.func3 rfl rfl rfl rfl ?_
  by_cases e1 : listE o [a, b] = 0
  · by_cases e2 : listE o [b, a] = 0
    · by_cases e3 : listE o [b, c] = 0
      · by_cases e4 : listE o [a, c] = 0
        · obtain ⟨n, rfl, hn, _, hr⟩ := listE_zero e1
          have ha : Right a := hr a (by simp)
          have hb : Right b := hr b (by simp)
          rw [e1, if_pos rfl, Int.toNat_natCast] at hab
          rw [e2, if_pos rfl, Int.toNat_natCast] at hba
          rw [e3, if_pos rfl, Int.toNat_natCast] at hbc
          rw [e4, if_pos rfl, Int.toNat_natCast] at hac
          have heq := equal (W := W) (hp := hp) (a := a) (b := b) (by have := ha.size; omega)
          have hsw := (good_ordC n).swap b a
          have hbd := ordC_bd n b a
          have hw : IntKind.wrap .i64 (0 - ordC n b a) = ordC n a b := by rw [wrap_i64 (by omega)]; omega
          have htr := (good_ordC n).le_trans a b c
          have hz := ordC_eq (o := n) ha hb
          by_cases c1 : ordC n a b > 0
          · simp only [qaa, qab, qac, qad, qae, qaf, qag, qah, qai, qaj, qak, qal, qam, qan, qao, qap, qaq, qar, qas, qat, qau, qav, qaw, qax, qay, qaz, qba, qbb, qbc, qbd, qbe, qbf, qbg, qbh, qbi, qbj, qbk, qbl, qbm, qbn, qbo, qbp, qbq, qbr, qbs, qbt, qbu, qbv, qbw, qbx, qby, qbz, qca, qcb, qcc, qcd, qce, qcf, qcg, qch, qci, qcj, qck, qcl, qcm, qcn, qco, qcp, qcq, qcr, qcs, qct, qcu, qcv, qcw, qcx, qcy, qcz, qda, qdb, qdc, qdd, opndL, opndP, qde, qdf, qdg, qdh, qdi, qdj, St.lobj, bump, loadAt, storeAt, readCells, TI.agg, cellsOf, okCells, clean1, isCell, qdk, qdl, qdm, qdn, qdo, qdp, qdq, binopA, intBin, strBin, eqBin, isNilConst, isNilSl, kindOf, convA, fieldOf, fillA, known, elemsOf, appendA, lenA, builtinA, cutA, cutS, optIdx, idx, cleanRows, isORow, giveV, give1, giveL, giveA, giveC, giveC1, recOf, refC, refs, refsO, refsOs, touchOf, dstL, capR, disj, hkFit, fit, fitAll, Op.operands, Go.Call.operands, finish, resultL, result1, obj0, out1, qdr, ↓qds, ↓qdt, qdu, qdv, qdw, qdx, qdy, qdz, qea, qeb, qec, qed, qee, qef, qeg, qeh, qei, qej, qek, qel, qem, qen, qeo, qep, ↓reduceIte, reduceCtorEq, qeq, qer, qes, qet, qeu, qev, qew, qex, qey, qez, qfa, qfb, qfc, qfd, qfe, qff, qfg, qfh, qfi, qfj, qfk, qfl, qfm, qfn, qfo, qfp, qfq, qfr, qfs, qft, qfu, qfv, qfw, qfx, qfy, qfz, qga, qgb, qgc, qgd, qge, qgf, qgg, qgh, qgi, Nat.reduceAdd, Nat.reduceSub, Nat.reduceMul, Nat.reduceLT, Nat.reduceLeDiff, Nat.reduceEqDiff, Nat.reduceBEq, Nat.reduceBNe, qgj, qgk, qgl, qgm, qgn, qgo, Int.reduceNeg, Int.reduceLT, Int.reduceLE, Int.reduceGT, Int.reduceGE, Nat.reduceGT, qgp, Int.reduceEq, Int.reduceAdd, Int.reduceSub, Int.reduceToNat, qgq, qgr, qgs, qgt, qgu, qgv, qgw, qgx, qgy, qgz, qha, qhb, qhc, qhd, qhe, qhf, qhg, qhh, qhi, qhj, qhk, qhl, qhm, qhn, qho, qhp, qhq, qhr, qhs, qht, roomB, qhu, Int.reduceBNe, Int.reduceBEq, qhv, qhw, qhx, qhy, qhz, qia, qib, qic, qid, qie, qif, qig, qih, qii, qij, qik, qil, qim, xF, ownF, qin, qio, qip, qiq, ty1, ty2, ty3, ty4, ty5, ty6, ty9, ty21, ty22, ty24, ty26, ty27, ty38, ty40, ty44, ty61, ty63, ty66, ty71, ty72, ty74, ty85, ty87, ty94, ty97, ty103, ty107, hab, hba, hbc, hac, hw, c1, heq, speaks, bne_self_eq_false, hz]
          · by_cases c2 : ordC n b c > 0
            · simp only [qaa, qab, qac, qad, qae, qaf, qag, qah, qai, qaj, qak, qal, qam, qan, qao, qap, qaq, qar, qas, qat, qau, qav, qaw, qax, qay, qaz, qba, qbb, qbc, qbd, qbe, qbf, qbg, qbh, qbi, qbj, qbk, qbl, qbm, qbn, qbo, qbp, qbq, qbr, qbs, qbt, qbu, qbv, qbw, qbx, qby, qbz, qca, qcb, qcc, qcd, qce, qcf, qcg, qch, qci, qcj, qck, qcl, qcm, qcn, qco, qcp, qcq, qcr, qcs, qct, qcu, qcv, qcw, qcx, qcy, qcz, qda, qdb, qdc, qdd, opndL, opndP, qde, qdf, qdg, qdh, qdi, qdj, St.lobj, bump, loadAt, storeAt, readCells, TI.agg, cellsOf, okCells, clean1, isCell, qdk, qdl, qdm, qdn, qdo, qdp, qdq, binopA, intBin, strBin, eqBin, isNilConst, isNilSl, kindOf, convA, fieldOf, fillA, known, elemsOf, appendA, lenA, builtinA, cutA, cutS, optIdx, idx, cleanRows, isORow, giveV, give1, giveL, giveA, giveC, giveC1, recOf, refC, refs, refsO, refsOs, touchOf, dstL, capR, disj, hkFit, fit, fitAll, Op.operands, Go.Call.operands, finish, resultL, result1, obj0, out1, qdr, ↓qds, ↓qdt, qdu, qdv, qdw, qdx, qdy, qdz, qea, qeb, qec, qed, qee, qef, qeg, qeh, qei, qej, qek, qel, qem, qen, qeo, qep, ↓reduceIte, reduceCtorEq, qeq, qer, qes, qet, qeu, qev, qew, qex, qey, qez, qfa, qfb, qfc, qfd, qfe, qff, qfg, qfh, qfi, qfj, qfk, qfl, qfm, qfn, qfo, qfp, qfq, qfr, qfs, qft, qfu, qfv, qfw, qfx, qfy, qfz, qga, qgb, qgc, qgd, qge, qgf, qgg, qgh, qgi, Nat.reduceAdd, Nat.reduceSub, Nat.reduceMul, Nat.reduceLT, Nat.reduceLeDiff, Nat.reduceEqDiff, Nat.reduceBEq, Nat.reduceBNe, qgj, qgk, qgl, qgm, qgn, qgo, Int.reduceNeg, Int.reduceLT, Int.reduceLE, Int.reduceGT, Int.reduceGE, Nat.reduceGT, qgp, Int.reduceEq, Int.reduceAdd, Int.reduceSub, Int.reduceToNat, qgq, qgr, qgs, qgt, qgu, qgv, qgw, qgx, qgy, qgz, qha, qhb, qhc, qhd, qhe, qhf, qhg, qhh, qhi, qhj, qhk, qhl, qhm, qhn, qho, qhp, qhq, qhr, qhs, qht, roomB, qhu, Int.reduceBNe, Int.reduceBEq, qhv, qhw, qhx, qhy, qhz, qia, qib, qic, qid, qie, qif, qig, qih, qii, qij, qik, qil, qim, xF, ownF, qin, qio, qip, qiq, ty1, ty2, ty3, ty4, ty5, ty6, ty9, ty21, ty22, ty24, ty26, ty27, ty38, ty40, ty44, ty61, ty63, ty66, ty71, ty72, ty74, ty85, ty87, ty94, ty97, ty103, ty107, hab, hba, hbc, hac, hw, c1, c2, heq, speaks, bne_self_eq_false, hz]
            · have c3 : ordC n a c ≤ 0 := htr (by omega) (by omega)
              simp only [qaa, qab, qac, qad, qae, qaf, qag, qah, qai, qaj, qak, qal, qam, qan, qao, qap, qaq, qar, qas, qat, qau, qav, qaw, qax, qay, qaz, qba, qbb, qbc, qbd, qbe, qbf, qbg, qbh, qbi, qbj, qbk, qbl, qbm, qbn, qbo, qbp, qbq, qbr, qbs, qbt, qbu, qbv, qbw, qbx, qby, qbz, qca, qcb, qcc, qcd, qce, qcf, qcg, qch, qci, qcj, qck, qcl, qcm, qcn, qco, qcp, qcq, qcr, qcs, qct, qcu, qcv, qcw, qcx, qcy, qcz, qda, qdb, qdc, qdd, opndL, opndP, qde, qdf, qdg, qdh, qdi, qdj, St.lobj, bump, loadAt, storeAt, readCells, TI.agg, cellsOf, okCells, clean1, isCell, qdk, qdl, qdm, qdn, qdo, qdp, qdq, binopA, intBin, strBin, eqBin, isNilConst, isNilSl, kindOf, convA, fieldOf, fillA, known, elemsOf, appendA, lenA, builtinA, cutA, cutS, optIdx, idx, cleanRows, isORow, giveV, give1, giveL, giveA, giveC, giveC1, recOf, refC, refs, refsO, refsOs, touchOf, dstL, capR, disj, hkFit, fit, fitAll, Op.operands, Go.Call.operands, finish, resultL, result1, obj0, out1, qdr, ↓qds, ↓qdt, qdu, qdv, qdw, qdx, qdy, qdz, qea, qeb, qec, qed, qee, qef, qeg, qeh, qei, qej, qek, qel, qem, qen, qeo, qep, ↓reduceIte, reduceCtorEq, qeq, qer, qes, qet, qeu, qev, qew, qex, qey, qez, qfa, qfb, qfc, qfd, qfe, qff, qfg, qfh, qfi, qfj, qfk, qfl, qfm, qfn, qfo, qfp, qfq, qfr, qfs, qft, qfu, qfv, qfw, qfx, qfy, qfz, qga, qgb, qgc, qgd, qge, qgf, qgg, qgh, qgi, Nat.reduceAdd, Nat.reduceSub, Nat.reduceMul, Nat.reduceLT, Nat.reduceLeDiff, Nat.reduceEqDiff, Nat.reduceBEq, Nat.reduceBNe, qgj, qgk, qgl, qgm, qgn, qgo, Int.reduceNeg, Int.reduceLT, Int.reduceLE, Int.reduceGT, Int.reduceGE, Nat.reduceGT, qgp, Int.reduceEq, Int.reduceAdd, Int.reduceSub, Int.reduceToNat, qgq, qgr, qgs, qgt, qgu, qgv, qgw, qgx, qgy, qgz, qha, qhb, qhc, qhd, qhe, qhf, qhg, qhh, qhi, qhj, qhk, qhl, qhm, qhn, qho, qhp, qhq, qhr, qhs, qht, roomB, qhu, Int.reduceBNe, Int.reduceBEq, qhv, qhw, qhx, qhy, qhz, qia, qib, qic, qid, qie, qif, qig, qih, qii, qij, qik, qil, qim, xF, ownF, qin, qio, qip, qiq, ty1, ty2, ty3, ty4, ty5, ty6, ty9, ty21, ty22, ty24, ty26, ty27, ty38, ty40, ty44, ty61, ty63, ty66, ty71, ty72, ty74, ty85, ty87, ty94, ty97, ty103, ty107, hab, hba, hbc, hac, hw, c1, c2, c3, heq, speaks, bne_self_eq_false, hz]
        · have n1 : (listE o [a, b] != 0) = false := by simpa using e1
          have n2 : (listE o [b, a] != 0) = false := by simpa using e2
          have n3 : (listE o [b, c] != 0) = false := by simpa using e3
          have n4 : (listE o [a, c] != 0) = true := by simpa using e4
          simp only [qaa, qab, qac, qad, qae, qaf, qag, qah, qai, qaj, qak, qal, qam, qan, qao, qap, qaq, qar, qas, qat, qau, qav, qaw, qax, qay, qaz, qba, qbb, qbc, qbd, qbe, qbf, qbg, qbh, qbi, qbj, qbk, qbl, qbm, qbn, qbo, qbp, qbq, qbr, qbs, qbt, qbu, qbv, qbw, qbx, qby, qbz, qca, qcb, qcc, qcd, qce, qcf, qcg, qch, qci, qcj, qck, qcl, qcm, qcn, qco, qcp, qcq, qcr, qcs, qct, qcu, qcv, qcw, qcx, qcy, qcz, qda, qdb, qdc, qdd, opndL, opndP, qde, qdf, qdg, qdh, qdi, qdj, St.lobj, bump, loadAt, storeAt, readCells, TI.agg, cellsOf, okCells, clean1, isCell, qdk, qdl, qdm, qdn, qdo, qdp, qdq, binopA, intBin, strBin, eqBin, isNilConst, isNilSl, kindOf, convA, fieldOf, fillA, known, elemsOf, appendA, lenA, builtinA, cutA, cutS, optIdx, idx, cleanRows, isORow, giveV, give1, giveL, giveA, giveC, giveC1, recOf, refC, refs, refsO, refsOs, touchOf, dstL, capR, disj, hkFit, fit, fitAll, Op.operands, Go.Call.operands, finish, resultL, result1, obj0, out1, qdr, ↓qds, ↓qdt, qdu, qdv, qdw, qdx, qdy, qdz, qea, qeb, qec, qed, qee, qef, qeg, qeh, qei, qej, qek, qel, qem, qen, qeo, qep, ↓reduceIte, reduceCtorEq, qeq, qer, qes, qet, qeu, qev, qew, qex, qey, qez, qfa, qfb, qfc, qfd, qfe, qff, qfg, qfh, qfi, qfj, qfk, qfl, qfm, qfn, qfo, qfp, qfq, qfr, qfs, qft, qfu, qfv, qfw, qfx, qfy, qfz, qga, qgb, qgc, qgd, qge, qgf, qgg, qgh, qgi, Nat.reduceAdd, Nat.reduceSub, Nat.reduceMul, Nat.reduceLT, Nat.reduceLeDiff, Nat.reduceEqDiff, Nat.reduceBEq, Nat.reduceBNe, qgj, qgk, qgl, qgm, qgn, qgo, Int.reduceNeg, Int.reduceLT, Int.reduceLE, Int.reduceGT, Int.reduceGE, Nat.reduceGT, qgp, Int.reduceEq, Int.reduceAdd, Int.reduceSub, Int.reduceToNat, qgq, qgr, qgs, qgt, qgu, qgv, qgw, qgx, qgy, qgz, qha, qhb, qhc, qhd, qhe, qhf, qhg, qhh, qhi, qhj, qhk, qhl, qhm, qhn, qho, qhp, qhq, qhr, qhs, qht, roomB, qhu, Int.reduceBNe, Int.reduceBEq, qhv, qhw, qhx, qhy, qhz, qia, qib, qic, qid, qie, qif, qig, qih, qii, qij, qik, qil, qim, xF, ownF, qin, qio, qip, qiq, ty1, ty2, ty3, ty4, ty5, ty6, ty9, ty21, ty22, ty24, ty26, ty27, ty38, ty40, ty44, ty61, ty63, ty66, ty71, ty72, ty74, ty85, ty87, ty94, ty97, ty103, ty107, hab, hba, hbc, hac, n1, n2, n3, n4, speaks]
      · have n1 : (listE o [a, b] != 0) = false := by simpa using e1
        have n2 : (listE o [b, a] != 0) = false := by simpa using e2
        have n3 : (listE o [b, c] != 0) = true := by simpa using e3
        simp only [qaa, qab, qac, qad, qae, qaf, qag, qah, qai, qaj, qak, qal, qam, qan, qao, qap, qaq, qar, qas, qat, qau, qav, qaw, qax, qay, qaz, qba, qbb, qbc, qbd, qbe, qbf, qbg, qbh, qbi, qbj, qbk, qbl, qbm, qbn, qbo, qbp, qbq, qbr, qbs, qbt, qbu, qbv, qbw, qbx, qby, qbz, qca, qcb, qcc, qcd, qce, qcf, qcg, qch, qci, qcj, qck, qcl, qcm, qcn, qco, qcp, qcq, qcr, qcs, qct, qcu, qcv, qcw, qcx, qcy, qcz, qda, qdb, qdc, qdd, opndL, opndP, qde, qdf, qdg, qdh, qdi, qdj, St.lobj, bump, loadAt, storeAt, readCells, TI.agg, cellsOf, okCells, clean1, isCell, qdk, qdl, qdm, qdn, qdo, qdp, qdq, binopA, intBin, strBin, eqBin, isNilConst, isNilSl, kindOf, convA, fieldOf, fillA, known, elemsOf, appendA, lenA, builtinA, cutA, cutS, optIdx, idx, cleanRows, isORow, giveV, give1, giveL, giveA, giveC, giveC1, recOf, refC, refs, refsO, refsOs, touchOf, dstL, capR, disj, hkFit, fit, fitAll, Op.operands, Go.Call.operands, finish, resultL, result1, obj0, out1, qdr, ↓qds, ↓qdt, qdu, qdv, qdw, qdx, qdy, qdz, qea, qeb, qec, qed, qee, qef, qeg, qeh, qei, qej, qek, qel, qem, qen, qeo, qep, ↓reduceIte, reduceCtorEq, qeq, qer, qes, qet, qeu, qev, qew, qex, qey, qez, qfa, qfb, qfc, qfd, qfe, qff, qfg, qfh, qfi, qfj, qfk, qfl, qfm, qfn, qfo, qfp, qfq, qfr, qfs, qft, qfu, qfv, qfw, qfx, qfy, qfz, qga, qgb, qgc, qgd, qge, qgf, qgg, qgh, qgi, Nat.reduceAdd, Nat.reduceSub, Nat.reduceMul, Nat.reduceLT, Nat.reduceLeDiff, Nat.reduceEqDiff, Nat.reduceBEq, Nat.reduceBNe, qgj, qgk, qgl, qgm, qgn, qgo, Int.reduceNeg, Int.reduceLT, Int.reduceLE, Int.reduceGT, Int.reduceGE, Nat.reduceGT, qgp, Int.reduceEq, Int.reduceAdd, Int.reduceSub, Int.reduceToNat, qgq, qgr, qgs, qgt, qgu, qgv, qgw, qgx, qgy, qgz, qha, qhb, qhc, qhd, qhe, qhf, qhg, qhh, qhi, qhj, qhk, qhl, qhm, qhn, qho, qhp, qhq, qhr, qhs, qht, roomB, qhu, Int.reduceBNe, Int.reduceBEq, qhv, qhw, qhx, qhy, qhz, qia, qib, qic, qid, qie, qif, qig, qih, qii, qij, qik, qil, qim, xF, ownF, qin, qio, qip, qiq, ty1, ty2, ty3, ty4, ty5, ty6, ty9, ty21, ty22, ty24, ty26, ty27, ty38, ty40, ty44, ty61, ty63, ty66, ty71, ty72, ty74, ty85, ty87, ty94, ty97, ty103, ty107, hab, hba, hbc, hac, n1, n2, n3, speaks]
    · have n1 : (listE o [a, b] != 0) = false := by simpa using e1
      have n2 : (listE o [b, a] != 0) = true := by simpa using e2
      simp only [qaa, qab, qac, qad, qae, qaf, qag, qah, qai, qaj, qak, qal, qam, qan, qao, qap, qaq, qar, qas, qat, qau, qav, qaw, qax, qay, qaz, qba, qbb, qbc, qbd, qbe, qbf, qbg, qbh, qbi, qbj, qbk, qbl, qbm, qbn, qbo, qbp, qbq, qbr, qbs, qbt, qbu, qbv, qbw, qbx, qby, qbz, qca, qcb, qcc, qcd, qce, qcf, qcg, qch, qci, qcj, qck, qcl, qcm, qcn, qco, qcp, qcq, qcr, qcs, qct, qcu, qcv, qcw, qcx, qcy, qcz, qda, qdb, qdc, qdd, opndL, opndP, qde, qdf, qdg, qdh, qdi, qdj, St.lobj, bump, loadAt, storeAt, readCells, TI.agg, cellsOf, okCells, clean1, isCell, qdk, qdl, qdm, qdn, qdo, qdp, qdq, binopA, intBin, strBin, eqBin, isNilConst, isNilSl, kindOf, convA, fieldOf, fillA, known, elemsOf, appendA, lenA, builtinA, cutA, cutS, optIdx, idx, cleanRows, isORow, giveV, give1, giveL, giveA, giveC, giveC1, recOf, refC, refs, refsO, refsOs, touchOf, dstL, capR, disj, hkFit, fit, fitAll, Op.operands, Go.Call.operands, finish, resultL, result1, obj0, out1, qdr, ↓qds, ↓qdt, qdu, qdv, qdw, qdx, qdy, qdz, qea, qeb, qec, qed, qee, qef, qeg, qeh, qei, qej, qek, qel, qem, qen, qeo, qep, ↓reduceIte, reduceCtorEq, qeq, qer, qes, qet, qeu, qev, qew, qex, qey, qez, qfa, qfb, qfc, qfd, qfe, qff, qfg, qfh, qfi, qfj, qfk, qfl, qfm, qfn, qfo, qfp, qfq, qfr, qfs, qft, qfu, qfv, qfw, qfx, qfy, qfz, qga, qgb, qgc, qgd, qge, qgf, qgg, qgh, qgi, Nat.reduceAdd, Nat.reduceSub, Nat.reduceMul, Nat.reduceLT, Nat.reduceLeDiff, Nat.reduceEqDiff, Nat.reduceBEq, Nat.reduceBNe, qgj, qgk, qgl, qgm, qgn, qgo, Int.reduceNeg, Int.reduceLT, Int.reduceLE, Int.reduceGT, Int.reduceGE, Nat.reduceGT, qgp, Int.reduceEq, Int.reduceAdd, Int.reduceSub, Int.reduceToNat, qgq, qgr, qgs, qgt, qgu, qgv, qgw, qgx, qgy, qgz, qha, qhb, qhc, qhd, qhe, qhf, qhg, qhh, qhi, qhj, qhk, qhl, qhm, qhn, qho, qhp, qhq, qhr, qhs, qht, roomB, qhu, Int.reduceBNe, Int.reduceBEq, qhv, qhw, qhx, qhy, qhz, qia, qib, qic, qid, qie, qif, qig, qih, qii, qij, qik, qil, qim, xF, ownF, qin, qio, qip, qiq, ty1, ty2, ty3, ty4, ty5, ty6, ty9, ty21, ty22, ty24, ty26, ty27, ty38, ty40, ty44, ty61, ty63, ty66, ty71, ty72, ty74, ty85, ty87, ty94, ty97, ty103, ty107, hab, hba, hbc, hac, n1, n2, speaks]
  · have n1 : (listE o [a, b] != 0) = true := by simpa using e1
    simp only [qaa, qab, qac, qad, qae, qaf, qag, qah, qai, qaj, qak, qal, qam, qan, qao, qap, qaq, qar, qas, qat, qau, qav, qaw, qax, qay, qaz, qba, qbb, qbc, qbd, qbe, qbf, qbg, qbh, qbi, qbj, qbk, qbl, qbm, qbn, qbo, qbp, qbq, qbr, qbs, qbt, qbu, qbv, qbw, qbx, qby, qbz, qca, qcb, qcc, qcd, qce, qcf, qcg, qch, qci, qcj, qck, qcl, qcm, qcn, qco, qcp, qcq, qcr, qcs, qct, qcu, qcv, qcw, qcx, qcy, qcz, qda, qdb, qdc, qdd, opndL, opndP, qde, qdf, qdg, qdh, qdi, qdj, St.lobj, bump, loadAt, storeAt, readCells, TI.agg, cellsOf, okCells, clean1, isCell, qdk, qdl, qdm, qdn, qdo, qdp, qdq, binopA, intBin, strBin, eqBin, isNilConst, isNilSl, kindOf, convA, fieldOf, fillA, known, elemsOf, appendA, lenA, builtinA, cutA, cutS, optIdx, idx, cleanRows, isORow, giveV, give1, giveL, giveA, giveC, giveC1, recOf, refC, refs, refsO, refsOs, touchOf, dstL, capR, disj, hkFit, fit, fitAll, Op.operands, Go.Call.operands, finish, resultL, result1, obj0, out1, qdr, ↓qds, ↓qdt, qdu, qdv, qdw, qdx, qdy, qdz, qea, qeb, qec, qed, qee, qef, qeg, qeh, qei, qej, qek, qel, qem, qen, qeo, qep, ↓reduceIte, reduceCtorEq, qeq, qer, qes, qet, qeu, qev, qew, qex, qey, qez, qfa, qfb, qfc, qfd, qfe, qff, qfg, qfh, qfi, qfj, qfk, qfl, qfm, qfn, qfo, qfp, qfq, qfr, qfs, qft, qfu, qfv, qfw, qfx, qfy, qfz, qga, qgb, qgc, qgd, qge, qgf, qgg, qgh, qgi, Nat.reduceAdd, Nat.reduceSub, Nat.reduceMul, Nat.reduceLT, Nat.reduceLeDiff, Nat.reduceEqDiff, Nat.reduceBEq, Nat.reduceBNe, qgj, qgk, qgl, qgm, qgn, qgo, Int.reduceNeg, Int.reduceLT, Int.reduceLE, Int.reduceGT, Int.reduceGE, Nat.reduceGT, qgp, Int.reduceEq, Int.reduceAdd, Int.reduceSub, Int.reduceToNat, qgq, qgr, qgs, qgt, qgu, qgv, qgw, qgx, qgy, qgz, qha, qhb, qhc, qhd, qhe, qhf, qhg, qhh, qhi, qhj, qhk, qhl, qhm, qhn, qho, qhp, qhq, qhr, qhs, qht, roomB, qhu, Int.reduceBNe, Int.reduceBEq, qhv, qhw, qhx, qhy, qhz, qia, qib, qic, qid, qie, qif, qig, qih, qii, qij, qik, qil, qim, xF, ownF, qin, qio, qip, qiq, ty1, ty2, ty3, ty4, ty5, ty6, ty9, ty21, ty22, ty24, ty26, ty27, ty38, ty40, ty44, ty61, ty63, ty66, ty71, ty72, ty74, ty85, ty87, ty94, ty97, ty103, ty107, hab, hba, hbc, hac, n1, speaks]
end Go.Proofs.YtikedmiioonjiaaDoor
