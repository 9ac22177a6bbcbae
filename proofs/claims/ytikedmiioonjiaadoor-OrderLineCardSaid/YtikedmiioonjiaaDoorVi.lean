/- What the statements' own check comes to; one line. -/
import Derived.Test.YtikedmiioonjiaaDoorVh
set_option linter.unusedVariables false
set_option linter.unusedSimpArgs false
set_option linter.unusedSectionVars false
set_option linter.defProp false
namespace Go.Proofs.YtikedmiioonjiaaDoor
open Go Go.Ev Sp
set_option maxRecDepth 100000
set_option linter.unusedSimpArgs false
set_option linter.unusedVariables false
variable {W : World} {hp : List (List AV)}
theorem right_int (n : Int) : Right ⟨2, n, ⟨#[]⟩, []⟩ := by
  simp [Right, rightV, okV, plainV, formV, okL, sizeV, sizeL, depV, depL]
  rfl
theorem speak_sort : insSort (ordC 5) 0 4 [⟨2, -2, ⟨#[]⟩, []⟩, ⟨2, 1, ⟨#[]⟩, []⟩, ⟨2, -1, ⟨#[]⟩, []⟩, ⟨2, 0, ⟨#[]⟩, []⟩] = [⟨2, 0, ⟨#[]⟩, []⟩, ⟨2, -1, ⟨#[]⟩, []⟩, ⟨2, 1, ⟨#[]⟩, []⟩, ⟨2, -2, ⟨#[]⟩, []⟩] := by
  kernel_rfl
theorem speaks : FF W 6 [] hp = some (.ret (.bool true) [] hp) := by
  have i1 := plainInts4 (W := W) (hp := hp) (f := false) (a := -2) (b := 1) (c := -1) (d := 0)
  have i2 := plainInts4 (W := W) (hp := hp) (f := false) (a := 0) (b := -1) (c := 1) (d := -2)
  have i3 := plainInts2 (W := W) (hp := hp) (f := false) (a := 1) (b := 3)
  have s1 := ordSort20 (W := W) (hp := hp) (o := 5) (by omega) (fl := false) (xs := [⟨2, -2, ⟨#[]⟩, []⟩, ⟨2, 1, ⟨#[]⟩, []⟩, ⟨2, -1, ⟨#[]⟩, []⟩, ⟨2, 0, ⟨#[]⟩, []⟩]) (by
    intro x hx
    simp only [List.mem_cons, List.mem_nil_iff, or_false] at hx
    rcases hx with rfl | rfl | rfl | rfl <;> exact right_int _) (by simp)
  have s2 := plainValues (W := W) (hp := hp) (f := false) (f' := false) (l := [⟨2, 0, ⟨#[]⟩, []⟩, ⟨2, -1, ⟨#[]⟩, []⟩, ⟨2, 1, ⟨#[]⟩, []⟩, ⟨2, -2, ⟨#[]⟩, []⟩]) (l' := [⟨2, 0, ⟨#[]⟩, []⟩, ⟨2, -1, ⟨#[]⟩, []⟩, ⟨2, 1, ⟨#[]⟩, []⟩, ⟨2, -2, ⟨#[]⟩, []⟩]) (by simp [sizeL, sizeV])
  have s3 := ordPlace (W := W) (hp := hp) (o := 0) (fl := false) (l := [⟨2, 1, ⟨#[]⟩, []⟩, ⟨2, 3, ⟨#[]⟩, []⟩]) (v := ⟨2, 2, ⟨#[]⟩, []⟩)
  have p1 := plainInt (W := W) (hp := hp) (n := 2)
  have hp0 : placeE 0 [⟨2, 1, ⟨#[]⟩, []⟩, ⟨2, 3, ⟨#[]⟩, []⟩] ⟨2, 2, ⟨#[]⟩, []⟩ = 0 := by
    have r1 : rightV utfS ⟨2, 1, ⟨#[]⟩, []⟩ = true := right_int 1
    have r2 : rightV utfS ⟨2, 2, ⟨#[]⟩, []⟩ = true := right_int 2
    have r3 : rightV utfS ⟨2, 3, ⟨#[]⟩, []⟩ = true := right_int 3
    have hs : srt (ordC 0) [⟨2, 1, ⟨#[]⟩, []⟩, ⟨2, 3, ⟨#[]⟩, []⟩] = true := by kernel_rfl
    unfold placeE listE
    simp [r1, r2, r3, hs]
  have hb : bsP (ordC 0) [⟨2, 1, ⟨#[]⟩, []⟩, ⟨2, 3, ⟨#[]⟩, []⟩] ⟨2, 2, ⟨#[]⟩, []⟩ 0 2 = 1 := by
    rw [bsP, if_pos (by omega)]
    have h1 : ltV (ordC 0) [⟨2, 1, ⟨#[]⟩, []⟩, ⟨2, 3, ⟨#[]⟩, []⟩] ((0 + 2) / 2) ⟨2, 2, ⟨#[]⟩, []⟩ = false := by kernel_rfl
    rw [h1, if_neg (by simp), bsP, if_pos (by omega)]
    have h2 : ltV (ordC 0) [⟨2, 1, ⟨#[]⟩, []⟩, ⟨2, 3, ⟨#[]⟩, []⟩] ((0 + (0 + 2) / 2) / 2) ⟨2, 2, ⟨#[]⟩, []⟩ = true := by kernel_rfl
    rw [h2, if_pos rfl, bsP, if_neg (by omega)]
  have he : eqAt (ordC 0) [⟨2, 1, ⟨#[]⟩, []⟩, ⟨2, 3, ⟨#[]⟩, []⟩] 1 ⟨2, 2, ⟨#[]⟩, []⟩ = false := by kernel_rfl
  have hel : eqL [⟨2, 0, ⟨#[]⟩, []⟩, ⟨2, -1, ⟨#[]⟩, []⟩, ⟨2, 1, ⟨#[]⟩, []⟩, ⟨2, -2, ⟨#[]⟩, []⟩] [⟨2, 0, ⟨#[]⟩, []⟩, ⟨2, -1, ⟨#[]⟩, []⟩, ⟨2, 1, ⟨#[]⟩, []⟩, ⟨2, -2, ⟨#[]⟩, []⟩] = true := eqL_self _
  simp only [List.length_cons, List.length_nil, Nat.zero_add, Nat.reduceAdd, speak_sort, hp0, if_true, Int.toNat_zero, hb, he, hel, beq_self_eq_true, Bool.and_true, List.map_cons, List.map_nil, cellsS_eq, Int.cast_ofNat_Int] at i1 i2 i3 s1 s2 s3
  refine F_wp (st := ⟨(.undef :: .undef :: .undef :: .undef :: .undef :: .undef :: .undef :: .undef :: .undef :: .undef :: .undef :: .undef :: .undef :: .undef :: .undef :: .undef :: .undef :: .undef :: .undef :: .undef :: .undef :: .undef :: .undef :: .undef :: .undef :: .undef :: .undef :: .undef :: .undef :: .undef :: .undef :: .undef :: .undef :: .undef :: .undef :: .undef :: .undef :: .undef :: .undef :: .undef :: []), (none :: none :: none :: none :: none :: none :: none :: none :: none :: none :: none :: none :: none :: none :: none :: none :: none :: none :: none :: none :: none :: none :: none :: none :: none :: none :: none :: none :: none :: none :: none :: none :: none :: none :: none :: none :: none :: none :: none :: none :: []), fun _ => 0, hp⟩) (rs := [.tmp 0]) Tryd.func6 rfl rfl rfl rfl ?_
  simp only [qaa, qab, qac, qad, qae, qaf, qag, qah, qai, qaj, qak, qal, qam, qan, qao, qap, qaq, qar, qas, qat, qau, qav, qaw, qax, qay, qaz, qba, qbb, qbc, qbd, qbe, qbf, qbg, qbh, qbi, qbj, qbk, qbl, qbm, qbn, qbo, qbp, qbq, qbr, qbs, qbt, qbu, qbv, qbw, qbx, qby, qbz, qca, qcb, qcc, qcd, qce, qcf, qcg, qch, qci, qcj, qck, qcl, qcm, qcn, qco, qcp, qcq, qcr, qcs, qct, qcu, qcv, qcw, qcx, qcy, qcz, qda, qdb, qdc, qdd, opndL, opndP, qde, qdf, qdg, qdh, qdi, qdj, St.lobj, bump, loadAt, storeAt, readCells, TI.agg, cellsOf, okCells, clean1, isCell, qdk, qdl, qdm, qdn, qdo, qdp, qdq, binopA, intBin, strBin, eqBin, isNilConst, isNilSl, kindOf, convA, fieldOf, fillA, known, elemsOf, appendA, lenA, builtinA, cutA, cutS, optIdx, idx, cleanRows, isORow, giveV, give1, giveL, giveA, giveC, giveC1, recOf, refC, refs, refsO, refsOs, touchOf, dstL, capR, disj, hkFit, fit, fitAll, Op.operands, Go.Call.operands, finish, resultL, result1, obj0, out1, qdr, ↓qds, ↓qdt, qdu, qdv, qdw, qdx, qdy, qdz, qea, qeb, qec, qed, qee, qef, qeg, qeh, qei, qej, qek, qel, qem, qen, qeo, qep, ↓reduceIte, reduceCtorEq, qeq, qer, qes, qet, qeu, qev, qew, qex, qey, qez, qfa, qfb, qfc, qfd, qfe, qff, qfg, qfh, qfi, qfj, qfk, qfl, qfm, qfn, qfo, qfp, qfq, qfr, qfs, qft, qfu, qfv, qfw, qfx, qfy, qfz, qga, qgb, qgc, qgd, qge, qgf, qgg, qgh, qgi, Nat.reduceAdd, Nat.reduceSub, Nat.reduceMul, Nat.reduceLT, Nat.reduceLeDiff, Nat.reduceEqDiff, Nat.reduceBEq, Nat.reduceBNe, qgj, qgk, qgl, qgm, qgn, qgo, Int.reduceNeg, Int.reduceLT, Int.reduceLE, Int.reduceGT, Int.reduceGE, Nat.reduceGT, qgp, Int.reduceEq, Int.reduceAdd, Int.reduceSub, Int.reduceToNat, qgq, qgr, qgs, qgt, qgu, qgv, qgw, qgx, qgy, qgz, qha, qhb, qhc, qhd, qhe, qhf, qhg, qhh, qhi, qhj, qhk, qhl, qhm, qhn, qho, qhp, qhq, qhr, qhs, qht, roomB, qhu, Int.reduceBNe, Int.reduceBEq, qhv, qhw, qhx, qhy, qhz, qia, qib, qic, qid, qie, qif, qig, qih, qii, qij, qik, qil, qim, xF, ownF, qin, qio, qip, qiq, ty1, ty2, ty3, ty4, ty5, ty6, ty9, ty21, ty22, ty24, ty26, ty27, ty38, ty40, ty44, ty61, ty63, ty66, ty71, ty72, ty74, ty85, ty87, ty94, ty97, ty103, ty107, i1, i2, i3, s1, s2, s3, p1]
end Go.Proofs.YtikedmiioonjiaaDoor
