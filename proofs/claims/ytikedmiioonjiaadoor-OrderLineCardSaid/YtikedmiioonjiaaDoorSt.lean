/- This seat's settings: its types, which functions hand over rows of their own, which write the row of their first parameter, which are taken by contract. -/
import Derived.Test.YtikedmiioonjiaaDoorEvZe
import Derived.Test.YtikedmiioonjiaaDoorPu
import Derived.Test.YtikedmiioonjiaaDoorProg
set_option linter.unusedVariables false
set_option linter.unusedSimpArgs false
set_option linter.unusedSectionVars false
set_option linter.defProp false
namespace Go.Proofs.YtikedmiioonjiaaDoor
open Go Go.Ev
set_option maxRecDepth 100000
def ownF (f : Nat) : Bool := f == 28 || f == 30
def xF (f : Nat) : Bool := f == 29 || f == 36 || f == 46 || f == 47 || f == 59 || f == 64
def primF (f : Nat) : Bool := f == 28 || f == 30 || f == 26 || f == 73
noncomputable def cf (W : World) : Cfg := { tab := tabOf Tryd.prog, meth := fun _ _ => none, esc := fun _ => [], own := ownF, xf := xF, prim := primF, laid := [1, 2], laidIn := W }
/-- -1, 0, 1, as a text stands ahead of another one, is it, or stands behind it. -/
def cmpStr (a b : ByteArray) : Int := Sp.cmpB a.data.toList b.data.toList
def decStr (s : ByteArray) : Nat × Nat := if s.size = 0 then (65533, 0) else Utf8.decode s 0
def pr : Ev.Callee → Ev.Callee := fun _ f args hp =>
  if f = 26 then match args with
    | [.str a, .str b] => some (.ret (.int .i64 (cmpStr a b)) [] hp)
    | _ => none
  else if f = 73 then match args with
    | [.str a] => some (.ret (.tuple [.int .i32 (decStr a).1, .int .i64 (decStr a).2]) [] hp)
    | _ => none
  else if f = 28 then match args with
    | [.rows _ xs] => if xs.length * 56 ≤ roomB ∧ xs.all (fun y => y.length == 4 && y.all clean1) then some (.ret (.orow 24 4 xs) [] hp) else none
    | _ => none
  else none
noncomputable abbrev FF (W : World) : Ev.Callee := F Tryd.prog (cf W) pr
theorem cf_esc {W : World} {f : FuncId} : (cf W).esc f = [] := rfl
theorem cf_own {W : World} {f : FuncId} : (cf W).own f = ownF f := rfl
theorem cf_xf {W : World} {f : FuncId} : (cf W).xf f = xF f := rfl
theorem cf_prim {W : World} {f : FuncId} : (cf W).prim f = primF f := rfl
section
variable {W : World}
theorem ty1 : (cf W).tab 1 = some ⟨(.func #[] #[] false), 1, 8, [.nilFunc]⟩ := by kernel_rfl
theorem ty2 : (cf W).tab 2 = some ⟨(.int .i64), 1, 8, [.int .i64 0]⟩ := by kernel_rfl
theorem ty3 : (cf W).tab 3 = some ⟨(.int .i64), 1, 8, [.int .i64 0]⟩ := by kernel_rfl
theorem ty4 : (cf W).tab 4 = some ⟨.bool, 1, 1, [.bool false]⟩ := by kernel_rfl
theorem ty5 : (cf W).tab 5 = some ⟨(.int .u8), 1, 1, [.int .u8 0]⟩ := by kernel_rfl
theorem ty6 : (cf W).tab 6 = some ⟨(.int .u8), 1, 1, [.int .u8 0]⟩ := by kernel_rfl
theorem ty9 : (cf W).tab 9 = some ⟨.string, 1, 16, [.str ⟨#[]⟩]⟩ := by kernel_rfl
theorem ty21 : (cf W).tab 21 = some ⟨(.int .i32), 1, 4, [.int .i32 0]⟩ := by kernel_rfl
theorem ty22 : (cf W).tab 22 = some ⟨(.slice 24), 1, 24, [.rows true []]⟩ := by kernel_rfl
theorem ty24 : (cf W).tab 24 = some ⟨(.struct #[{ name := "Kind", type := 3, offset := 0, embedded := false, tag := "", pkgPath := "", byteOffset := 0 }, { name := "Num", type := 2, offset := 1, embedded := false, tag := "", pkgPath := "", byteOffset := 8 }, { name := "Text", type := 9, offset := 2, embedded := false, tag := "", pkgPath := "", byteOffset := 16 }, { name := "Items", type := 22, offset := 3, embedded := false, tag := "", pkgPath := "", byteOffset := 32 }]), 4, 56, [.int .i64 0, .int .i64 0, .str ⟨#[]⟩, .rows true []]⟩ := by kernel_rfl
theorem ty26 : (cf W).tab 26 = some ⟨(.struct #[{ name := "Order", type := 3, offset := 0, embedded := false, tag := "", pkgPath := "", byteOffset := 0 }, { name := "A", type := 24, offset := 1, embedded := false, tag := "", pkgPath := "", byteOffset := 8 }, { name := "B", type := 24, offset := 5, embedded := false, tag := "", pkgPath := "", byteOffset := 64 }, { name := "C", type := 24, offset := 9, embedded := false, tag := "", pkgPath := "", byteOffset := 120 }]), 13, 176, [.int .i64 0, .int .i64 0, .int .i64 0, .str ⟨#[]⟩, .rows true [], .int .i64 0, .int .i64 0, .str ⟨#[]⟩, .rows true [], .int .i64 0, .int .i64 0, .str ⟨#[]⟩, .rows true []]⟩ := by kernel_rfl
theorem ty27 : (cf W).tab 27 = some ⟨(.int .i64), 1, 8, [.int .i64 0]⟩ := by kernel_rfl
theorem ty38 : (cf W).tab 38 = some ⟨(.func #[24, 24] #[3] false), 1, 8, [.nilFunc]⟩ := by kernel_rfl
theorem ty40 : (cf W).tab 40 = some ⟨(.struct #[{ name := "compare", type := 38, offset := 0, embedded := false, tag := "", pkgPath := "spinney/order", byteOffset := 0 }]), 1, 8, [.nilFunc]⟩ := by kernel_rfl
theorem ty44 : (cf W).tab 44 = some ⟨(.slice 2), 1, 24, [.rows true []]⟩ := by kernel_rfl
theorem ty61 : (cf W).tab 61 = some ⟨(.slice 22), 1, 24, [.rows true []]⟩ := by kernel_rfl
theorem ty63 : (cf W).tab 63 = some ⟨(.slice 40), 1, 24, [.rows true []]⟩ := by kernel_rfl
theorem ty66 : (cf W).tab 66 = some ⟨(.int .u64), 1, 8, [.int .u64 0]⟩ := by kernel_rfl
theorem ty71 : (cf W).tab 71 = some ⟨(.int .u32), 1, 4, [.int .u32 0]⟩ := by kernel_rfl
theorem ty72 : (cf W).tab 72 = some ⟨(.func #[24] #[71] false), 1, 8, [.nilFunc]⟩ := by kernel_rfl
theorem ty74 : (cf W).tab 74 = some ⟨(.func #[24] #[3] false), 1, 8, [.nilFunc]⟩ := by kernel_rfl
theorem ty85 : (cf W).tab 85 = some ⟨(.int .u64), 1, 8, [.int .u64 0]⟩ := by kernel_rfl
theorem ty87 : (cf W).tab 87 = some ⟨(.slice 3), 1, 24, [.rows true []]⟩ := by kernel_rfl
theorem ty94 : (cf W).tab 94 = some ⟨(.slice 103), 1, 24, [.rows true []]⟩ := by kernel_rfl
theorem ty97 : (cf W).tab 97 = some ⟨(.slice 71), 1, 24, [.rows true []]⟩ := by kernel_rfl
theorem ty103 : (cf W).tab 103 = some ⟨(.int .u16), 1, 2, [.int .u16 0]⟩ := by kernel_rfl
theorem ty107 : (cf W).tab 107 = some ⟨(.struct #[{ name := "lo", type := 5, offset := 0, embedded := false, tag := "", pkgPath := "unicode/utf8", byteOffset := 0 }, { name := "hi", type := 5, offset := 1, embedded := false, tag := "", pkgPath := "unicode/utf8", byteOffset := 1 }]), 2, 2, [.int .u8 0, .int .u8 0]⟩ := by kernel_rfl
end
theorem toList_nil {t : ByteArray} : (t.toList == (ByteArray.mk #[]).toList) = (t.size == 0) := by
  rw [ByteArray.toList_eq, ByteArray.toList_eq, Bool.eq_iff_iff]
  simp only [beq_iff_eq]
  rw [show t.size = t.data.toList.length by rw [Array.length_toList]; rfl, List.length_eq_zero_iff]
theorem wrapS {i : Nat} (h : (i : Int) < 9223372036854775807) : IntKind.wrap .i64 ((i : Int) + 1) = ((i + 1 : Nat) : Int) := by
  rw [wrap_i64 (by omega)]; rfl
theorem lr0 : List.range 0 = [] := rfl
theorem lr1 : List.range 1 = [0] := rfl
theorem lr2 : List.range 2 = [0, 1] := rfl
theorem lr3 : List.range 3 = [0, 1, 2] := rfl
theorem lr4 : List.range 4 = [0, 1, 2, 3] := rfl
theorem lr5 : List.range 5 = [0, 1, 2, 3, 4] := rfl
theorem lr6 : List.range 6 = [0, 1, 2, 3, 4, 5] := rfl
theorem lr7 : List.range 7 = [0, 1, 2, 3, 4, 5, 6] := rfl
theorem lr8 : List.range 8 = [0, 1, 2, 3, 4, 5, 6, 7] := rfl
theorem wl1 : IntKind.wrap .i64 1 = 1 := by decide
theorem wl2 : IntKind.wrap .i64 2 = 2 := by decide
theorem wl3 : IntKind.wrap .i64 3 = 3 := by decide
theorem wl4 : IntKind.wrap .i64 4 = 4 := by decide
theorem roomS {n : Nat} (h : n ≤ 2513169434916) : (n * 56 ≤ 140737488355328) = True := by simp only [eq_iff_iff, iff_true]; omega
/-- A row that is being built: nil at first, then a local object. -/
def rowV (d g : Nat) : List (List AV) → AV
  | [] => .rows true []
  | _ :: _ => .lrow d g
def rowO (ty sz g : Nat) : List (List AV) → Option LObj
  | [] => none
  | x :: xs => some ⟨g, false, false, ty, sz, x :: xs⟩
theorem rowV_nil {d g : Nat} : rowV d g [] = .rows true [] := nr rfl
theorem rowV_cons {d g : Nat} {x : List AV} {xs : List (List AV)} : rowV d g (x :: xs) = .lrow d g := nr rfl
theorem rowO_nil {ty sz g : Nat} : rowO ty sz g [] = none := nr rfl
theorem rowO_cons {ty sz g : Nat} {x : List AV} {xs : List (List AV)} : rowO ty sz g (x :: xs) = some ⟨g, false, false, ty, sz, x :: xs⟩ := nr rfl
theorem snoc_ints {k : IntKind} {l : List Int} {a : Int} : (l.map fun n => [AV.int k n]) ++ [[AV.int k a]] = ((l ++ [a]).map fun n => [AV.int k n]) := by simp
theorem arr_empty {α : Type} : (#[] : Array α).isEmpty = true := nr rfl
theorem clean_ints {k : IntKind} {l : List Int} : ((l.map fun n => [AV.int k n]).all fun x => x.all clean1) = true := by
  induction l with
  | nil => rfl
  | cons a l ih => simp only [List.map_cons, List.all_cons, ih]; rfl
theorem clean_vals {l : List S24} : ((l.map cellsS).all fun x => x.all clean1) = true := by
  induction l with
  | nil => rfl
  | cons a l ih =>
    simp only [List.map_cons, List.all_cons, ih, Bool.and_true]
    cases a; rw [cellsS]; rfl
theorem size_vals {l : List S24} : ((l.map cellsS).all fun x => x.length == 4) = true := by
  induction l with
  | nil => rfl
  | cons a l ih =>
    simp only [List.map_cons, List.all_cons, ih, Bool.and_true]
    rw [cellsS_len]; rfl
theorem cellsS_eq (v : S24) : cellsS v = [.int .i64 v.f0, .int .i64 v.f1, .str v.f2, .rows false (v.f3.map cellsS)] := by
  cases v; rw [cellsS, rowsS_map]
theorem snoc_vals {l l' : List S24} {k n : Int} {t : ByteArray} : l.map cellsS ++ [[.int .i64 k, .int .i64 n, .str t, .rows false (l'.map cellsS)]] = (l ++ [(⟨k, n, t, l'⟩ : S24)]).map cellsS := by
  rw [List.map_append, List.map_cons, List.map_nil, cellsS_eq]
theorem app_vals {l l' : List S24} : l.map cellsS ++ l'.map cellsS = (l ++ l').map cellsS := by rw [List.map_append]
theorem set_vals {l l' : List S24} {j : Nat} {k n : Int} {t : ByteArray} : (l.map cellsS).set j [.int .i64 k, .int .i64 n, .str t, .rows false (l'.map cellsS)] = (l.set j (⟨k, n, t, l'⟩ : S24)).map cellsS := by
  rw [List.map_set, cellsS_eq]
theorem eta (v : S24) : (⟨v.f0, v.f1, v.f2, v.f3⟩ : S24) = v := by cases v; rfl
set_option linter.defProp false
def qaa := @wpK_nil
def qab := @wpK_code
def qac := @wpK_code_ret
def qad := @wpK_code_exit
def qae := @wpK_code_pan
def qaf := @wpK_blk
def qag := @wpK_blk_ret
def qah := @wpK_blk_exit
def qai := @wpK_blk_pan
def qaj := @wpK_lp
def qak := @wpK_lp_ret
def qal := @wpK_lp_exit
def qam := @wpK_lp_pan
def qan := @ew_seq
def qao := @ew_block
def qap := @ew_skip
def qaq := @ew_exit
def qar := @ew_ret
def qas := @ew_label
def qat := @ew_region
def qau := @ew_draws
def qav := @ew_cond
def qaw := @wpB_true
def qax := @wpB_false
def qay := @wpO_nil
def qaz := @wpX_val
def qba := @wpX_pan
def qbb := @wpO_none
def qbc := @wpO_some
def qbd := @wpY_true
def qbe := @wpY_off
def qbf := @wpY_not
def qbg := @wpY_no
def qbh := @wpD_nil
def qbi := @wpZ_val
def qbj := @wpZ2_some
def qbk := @wpD_none
def qbl := @wpD_some
def qbm := @wpW_true
def qbn := @wpW_off
def qbo := @wpW_not
def qbp := @wpW_no
def qbq := @wpH_ret
def qbr := @wpH_exit
def qbs := @wpH_pan
def qbt := @guardSlot_l
def qbu := @aop_move
def qbv := @aop_assign
def qbw := @aop_pick
def qbx := @aop_alloc
def qby := @aop_box
def qbz := @aop_build
def qca := @aop_buildSlice
def qcb := @aop_load
def qcc := @aop_store
def qcd := @aop_nilCheck
def qce := @aop_binOp
def qcf := @aop_not
def qcg := @aop_neg
def qch := @aop_convert
def qci := @aop_makeInterface
def qcj := @aop_makeFunc
def qck := @aop_makeSlice
def qcl := @aop_fieldAddr
def qcm := @aop_indexAddr
def qcn := @aop_index
def qco := @aop_slice
def qcp := @aop_range
def qcq := @aop_next
def qcr := @aop_extract
def qcs := @aop_builtin
def qct := @aop_call
def qcu := @aop_panic
def qcv := @opnd_tmp
def qcw := @opnd_int
def qcx := @opnd_bool
def qcy := @opnd_str
def qcz := @opnd_nil
def qda := @opnd_nilptr
def qdb := @opnd_nilfunc
def qdc := @opnd_niliface
def qdd := @opnd_func
def qde := @callV_plain
def qdf := @callV_x
def qdg := @put_some
def qdh := @put_none
def qdi := @setFr_mk
def qdj := @mk_mk
def qdk := @writeCells_nil
def qdl := @writeCells_cons
def qdm := @setC_zero
def qdn := @setC_succ
def qdo := @set_one
def qdp := @slotS
def qdq := @slotN
def qdr := @Fin_mk
def qds := @Br_true
def qdt := @Br_false
def qdu := @Br_not
def qdv := @Bool.not_true
def qdw := @Bool.not_false
def qdx := @Bool.true_eq_false
def qdy := @Bool.false_eq_true
def qdz := @if_true
def qea := @if_false
def qeb := @ite_true
def qec := @ite_false
def qed := @ite_self
def qee := @true_and
def qef := @and_true
def qeg := @and_self
def qeh := @true_or
def qei := @or_true
def qej := @false_or
def qek := @or_false
def qel := @false_and
def qem := @and_false
def qen := @not_true_eq_false
def qeo := @not_false_eq_true
def qep := @ne_eq
def qeq := @List.getD_cons_zero
def qer := @List.getD_cons_succ
def qes := @List.getD_nil
def qet := @List.getElem?_cons_zero
def qeu := @List.getElem?_cons_succ
def qev := @List.getElem?_nil
def qew := @List.length_cons
def qex := @List.length_nil
def qey := @List.drop_zero
def qez := @List.drop_succ_cons
def qfa := @List.drop_nil
def qfb := @List.take_succ_cons
def qfc := @List.take_zero
def qfd := @List.take_nil
def qfe := @List.head?_cons
def qff := @List.all_cons
def qfg := @List.all_nil
def qfh := @List.map_cons
def qfi := @List.map_nil
def qfj := @List.append_nil
def qfk := @List.nil_append
def qfl := @List.cons_append
def qfm := @List.flatMap_cons
def qfn := @List.flatMap_nil
def qfo := @List.contains_cons
def qfp := @List.contains_nil
def qfq := @List.replicate_succ
def qfr := @List.replicate_zero
def qfs := @Option.getD_some
def qft := @Option.getD_none
def qfu := @Option.some.injEq
def qfv := @Option.isSome_some
def qfw := @Option.map_some
def qfx := @Option.map_none
def qfy := @Option.bind_some
def qfz := @decide_true
def qga := @decide_false
def qgb := @Bool.and_true
def qgc := @Bool.true_and
def qgd := @Bool.and_false
def qge := @Bool.false_and
def qgf := @Bool.or_true
def qgg := @Bool.true_or
def qgh := @Bool.or_false
def qgi := @Bool.false_or
def qgj := @Nat.succ_ne_zero
def qgk := @Nat.zero_ne_one
def qgl := @Nat.one_ne_zero
def qgm := @Nat.add_one_sub_one
def qgn := @Nat.zero_add
def qgo := @Nat.add_zero
def qgp := @arr_empty
def qgq := @List.getElem?_toArray
def qgr := @Int.toNat_natCast
def qgs := @Int.natCast_nonneg
def qgt := @Int.cast_ofNat_Int
def qgu := @toList_nil
def qgv := @rowV_nil
def qgw := @rowV_cons
def qgx := @rowO_nil
def qgy := @rowO_cons
def qgz := @snoc_ints
def qha := @snoc_vals
def qhb := @app_vals
def qhc := @set_vals
def qhd := @eta
def qhe := @clean_ints
def qhf := @clean_vals
def qhg := @size_vals
def qhh := @wl1
def qhi := @wl2
def qhj := @wl3
def qhk := @wl4
def qhl := @lr0
def qhm := @lr1
def qhn := @lr2
def qho := @lr3
def qhp := @lr4
def qhq := @lr5
def qhr := @lr6
def qhs := @lr7
def qht := @lr8
def qhu := @Int.le_refl
def qhv := @List.getElem?_map
def qhw := @cellsS_eq
def qhx := @List.length_map
def qhy := @List.length_append
def qhz := @List.length_replicate
def qia := @List.length_set
def qib := @beq_self_eq_true
def qic := @bne_self_eq_false
def qid := @pickV_true
def qie := @pickV_false
def qif := @List.toList_toArray
def qig := @Array.toList_append
def qih := @List.cons_ne_nil
def qii := @List.isEmpty_nil
def qij := @cf_esc
def qik := @cf_xf
def qil := @cf_own
def qim := @cf_prim
def qin := @exists_eq_left
def qio := @implies_true
def qip := @Prod.mk.injEq
def qiq := @and_assoc
end Go.Proofs.YtikedmiioonjiaaDoor
