/- OrderLine: for every input the law returns true, and the input reads afterwards as it did. No condition. The tables of unicode/utf8 are as the program's text lays them (the card ties them). -/
import Derived.Test.YtikedmiioonjiaaDoorLa
import Derived.Test.YtikedmiioonjiaaDoorOp
import Derived.Test.YtikedmiioonjiaaDoorCards
import Derived.Test.YtikedmiioonjiaaDoorTie
import Derived.Deep.DeepHandedRow
import Derived.Lib.LaidIn
set_option linter.unusedVariables false
set_option linter.unusedSimpArgs false
set_option linter.unusedSectionVars false
set_option linter.defProp false
namespace Go.Proofs.YtikedmiioonjiaaDoor
open Go Go.Ev Sp
set_option maxRecDepth 100000
set_option linter.unusedSimpArgs false
set_option linter.unusedVariables false
variable {W : World} {hp : List (List AV)}
open Go.RowKit Go.WideShapes Go.ChangeShapes Go.ChangeAt
theorem ownK : ownKnob Tryd.prog.godebug = none := by kernel_rfl
theorem laidOut : laidOutB Tryd.prog = true := by kernel_rfl
section
variable {H : Type} {enc : TypeId × Value → H} {base : Nat} {sp : Nat → Bool} {held : Bool} {r : Reach} {b0 : Nat} {v : Value} {d : DataW H} {p : List MemPlace}
theorem crepL_app {S : Nat → Prop} {hb : List Nat} : ∀ {a b : List AV} {u v : List Value}, crepL W S hb a u → crepL W S hb b v → crepL W S hb (a ++ b) (u ++ v)
  | [], b, u, v, h1, h2 => by rw [crepL] at h1; subst h1; exact h2
  | x :: a, b, u, v, h1, h2 => by
    rw [crepL] at h1
    obtain ⟨y, us, rfl, e1, e2⟩ := h1
    rw [List.cons_append, List.cons_append, crepL]
    exact ⟨y, us ++ v, rfl, e1, crepL_app e2 h2⟩
theorem open_three (hv : Value.okWide Tryd.prog W r b0 26 v) (h : DataW.Trod enc Tryd.prog W base sp held 26 v d p) :
    ∃ (o : Int) (a b c : S24), crep W (allS W) [] (.agg (.int .i64 o :: (cellsS a ++ (cellsS b ++ cellsS c)))) v := by
  obtain ⟨cs, rfl, hsz⟩ := okWide_struct Tryd.underlying26 hv
  obtain ⟨fuel, hf⟩ := h
  have hc : Tryd.prog.cellsOf 26 = 13 := by kernel_rfl
  have c1 : Tryd.prog.cellsOf 3 = 1 := by kernel_rfl
  have c4 : Tryd.prog.cellsOf 24 = 4 := by kernel_rfl
  obtain ⟨xs, n, rfl, _, hl, hlen, hfs⟩ := DataW.trod_struct Tryd.underlying26 hf
  rw [hc] at hl
  have hl' : (Value.agg cs).cells.toList = cs.toList := rfl
  rw [hl'] at hl hfs
  have hlen' : xs.length = 4 := hlen
  have key : ∀ l : List Value, l.length = 13 → (∀ (i : Nat) (f : Field), #[({ name := "Order", type := 3, offset := 0, embedded := false, tag := "", pkgPath := "", byteOffset := 0 } : Field), { name := "A", type := 24, offset := 1, embedded := false, tag := "", pkgPath := "", byteOffset := 8 }, { name := "B", type := 24, offset := 5, embedded := false, tag := "", pkgPath := "", byteOffset := 64 }, { name := "C", type := 24, offset := 9, embedded := false, tag := "", pkgPath := "", byteOffset := 120 }][i]? = some f → DataW.trod enc Tryd.prog W base sp held n f.type ((l.drop f.offset).take (Tryd.prog.cellsOf f.type)) = xs[i]?) →
      ∃ (o : Int) (a b c : S24), crepL W (allS W) [] (.int .i64 o :: (cellsS a ++ (cellsS b ++ cellsS c))) l ∧ ∀ u ∈ l, u.oneCell' = true := by
    intro l hl hfs
    match xs, hlen' with
    | [y0, y1, y2, y3], _ =>
      have g0 : DataW.trod enc Tryd.prog W base sp held n 3 ((l.drop 0).take (Tryd.prog.cellsOf 3)) = some y0 := hfs 0 _ rfl
      have g1 : DataW.trod enc Tryd.prog W base sp held n 24 ((l.drop 1).take (Tryd.prog.cellsOf 24)) = some y1 := hfs 1 _ rfl
      have g2 : DataW.trod enc Tryd.prog W base sp held n 24 ((l.drop 5).take (Tryd.prog.cellsOf 24)) = some y2 := hfs 2 _ rfl
      have g3 : DataW.trod enc Tryd.prog W base sp held n 24 ((l.drop 9).take (Tryd.prog.cellsOf 24)) = some y3 := hfs 3 _ rfl
      rw [c1] at g0
      rw [c4] at g1 g2 g3
      match l, hl with
      | [a0, a1, a2, a3, a4, a5, a6, a7, a8, a9, a10, a11, a12], _ =>
        simp only [List.drop_zero, List.drop_succ_cons, List.take_succ_cons, List.take_zero] at g0 g1 g2 g3
        obtain ⟨k, e0, _, _⟩ := DataW.trod_int Tryd.underlying3 g0
        obtain ⟨a, ra, oa⟩ := (open_val valTy n).1 _ _ g1
        obtain ⟨b, rb, ob⟩ := (open_val valTy n).1 _ _ g2
        obtain ⟨c, rc, oc⟩ := (open_val valTy n).1 _ _ g3
        simp only [List.cons.injEq, and_true] at e0
        subst e0
        refine ⟨k, a, b, c, ?_, ?_⟩
        · rw [crepL]
          exact ⟨_, [a1, a2, a3, a4, a5, a6, a7, a8, a9, a10, a11, a12], rfl, by rw [crep], crepL_app ra (crepL_app rb rc)⟩
        · intro u hu
          simp only [List.mem_cons, List.mem_nil_iff, or_false] at hu oa ob oc
          rcases hu with h | h | h | h | h | h | h | h | h | h | h | h | h <;> subst h
          · rfl
          all_goals first | exact oa _ (by simp) | exact ob _ (by simp) | exact oc _ (by simp)
  obtain ⟨o, a, b, c, h1, h2⟩ := key cs.toList hl fun i f h => hfs i f h
  refine ⟨o, a, b, c, ?_⟩
  rw [crep]
  exact ⟨cs, rfl, h1, h2⟩
end
theorem cell_lt {b : Nat} {o : Nat} {v : Value} (h : W.cell? ⟨b, o, none⟩ = some v) : b < W.heap.size := by
  unfold World.cell? at h
  split at h
  · rename_i hb
    exact (Array.getElem?_eq_some_iff.1 hb).1
  · cases h
theorem params : Tryd.f3.params = #[26] := rfl
theorem contract (H : Type) (enc : TypeId × Value → H) (W : World) (base : Nat) (args : Array Value) (ds gs : List (DataW H)) (before : List MemPlace)
    (hval : ∀ (j : Nat) t v, Tryd.f3.params[j]? = some t → args[j]? = some v → Value.okWide Tryd.prog W .any base t v)
    (hW : DataW.Whole enc Tryd.prog Tryd.f3.params.toList Rows.orderLineSpec.vars false W args.toList ds gs before) (hL : laidMetH Tryd.prog Rows.orderLineRow.laid W) :
    Calls Tryd.prog 3 args W fun e W' => ∃ v, e = .returned v ∧ Rows.orderLineSpec.post enc Tryd.prog Tryd.f3 false true false false W args v W' := by
  have hT : Lib.Utf8Tabs 1 2 W := utf8Tabs_of_readsT (ρ := Tryd.lays197_ren) { Tryd.lays197 with } ⟨by kernel_rfl, by kernel_rfl, by kernel_rfl, by kernel_rfl, by kernel_rfl, by kernel_rfl, by kernel_rfl⟩ (Lib.laidMet.reads hL (.tail _ (.head _))) (Lib.laidMet.reads hL (.head _))
  have hW' := hW
  obtain ⟨p, q, hA0, hV, rfl, hfz, hnd⟩ := hW
  have hA : DataW.TrodAll enc Tryd.prog W 0 (fun _ => true) true Tryd.f3.params.toList args.toList ds p := hA0
  rw [params] at hA hval
  obtain ⟨v0, vs0, d0, ds0, p0, q0, hargs, rfl, rfl, h0, r0⟩ := trodAll_cons hA
  obtain ⟨rfl, rfl, rfl⟩ := trodAll_nil r0
  obtain rfl : args = #[v0] := by cases args; simp_all
  obtain ⟨o, a, b, c, hr⟩ := open_three (hval 0 26 v0 rfl rfl) h0
  have hrun := orderLine (W := W) (hp := []) (o := o) (a := a) (b := b) (c := c)
  rw [cellsS_eq a, cellsS_eq b, cellsS_eq c] at hr
  have hb1 : 1 < W.heap.size := cell_lt (hT.1 0 (by omega))
  have hb2 : 2 < W.heap.size := cell_lt (hT.2 0 (by omega)).1
  have hcalls := law_calls (W := W) (cf := cf W) ⟨rfl, fun b hb => by
    simp only [cf, List.mem_cons, List.mem_nil_iff, or_false] at hb
    rcases hb with rfl | rfl <;> omega⟩ (cok hT) (f := 3) rfl hrun (vs := [v0]) (by
    rw [crepL]
    exact ⟨v0, [], rfl, hr, by rw [crepL]⟩)
  refine law_row (b := true) (tb := 4) laidOut ?_ rfl rfl Tryd.underlying4 hW' ⟨rfl, rfl, rfl⟩ hcalls
  rw [params]
  intro t ht
  simp only [List.mem_cons, List.mem_nil_iff, or_false] at ht
  subst ht
  exact ⟨by kernel_rfl, of_decide_eq_true (by kernel_rfl)⟩
noncomputable def laidWorld (os : Os) : World :=
  let put (h : Array Obj) (g : Nat) (cs : Array Value) : Array Obj := h.modify g fun
    | .cells _ t frozen => .cells cs t frozen
    | o => o
  let w0 := World.holding Tryd.prog os ⟨#[], #[], []⟩
  let h1 := put w0.heap 1 (Lib.firstTab.map fun z => Value.int .u8 z).toArray
  let h2 := put h1 2 ((List.range 16).flatMap fun i => [Value.int .u8 (Lib.accLo i), Value.int .u8 (Lib.accHi i)]).toArray
  { w0 with heap := h2 }
def arg0 : Value := .agg #[.int .i64 0, .int .i64 0, .int .i64 0, .string ⟨#[]⟩, .slice none 0 0, .int .i64 0, .int .i64 0, .string ⟨#[]⟩, .slice none 0 0, .int .i64 0, .int .i64 0, .string ⟨#[]⟩, .slice none 0 0]
set_option maxRecDepth 1000000 in
theorem laid_met (os : Os) (args : Array Value) : laidMet Tryd.prog Rows.orderLineRow.laid ((laidWorld os).forCall (fun _ _ => 0) ⟨#[], args, []⟩).memory :=
  (show LaidIn Tryd.prog ((laidWorld os).forCall (fun _ _ => 0) ⟨#[], args, []⟩).memory Rows.orderLineRow.laid [2, 1] from LaidIn.of_run [2, 1] 8 (by kernel_rfl) (by kernel_rfl) (by kernel_rfl) (by kernel_rfl)).met
theorem witness_row (os : Os) {H : Type} (enc : TypeId × Value → H) :
    (OpenSpec.ofChange Rows.orderLineSpec).preRow enc Tryd.prog Tryd.f3 Rows.orderLineRow.domain false Rows.orderLineRow.laid ((laidWorld os).forCall (fun _ _ => 0) ⟨#[], #[arg0], []⟩).memory #[arg0] := by
  have hw : ((DataW.whole enc Tryd.prog ((laidWorld os).forCall (fun _ _ => 0) ⟨#[], #[arg0], []⟩).memory Tryd.f3.params.toList Rows.orderLineSpec.vars false #[arg0].toList 8).map (fun x => (x.1.length, x.2.1))) =
      some (1, []) := by kernel_rfl
  obtain ⟨⟨x1, x2, x3⟩, hx, hx1⟩ := Option.map_eq_some_iff.1 hw
  simp only [Prod.mk.injEq] at hx1
  obtain ⟨_, rfl⟩ := hx1
  exact OpenSpec.preRow_of_cond 8 hx (by kernel_rfl) (fun k hk => by cases hk) (by kernel_rfl) (laid_met os _)
set_option maxRecDepth 100000 in
set_option maxHeartbeats 2000000 in
theorem lifted (os : Os) (started : os.Started) (H : Type) (enc : TypeId × Value → H) (F : Stop.Interp) :
    ReturnsInHanded {} Tryd.checked os 3 .any ((OpenSpec.ofChange Rows.orderLineSpec).preRow enc Tryd.prog Tryd.f3 Rows.orderLineRow.domain false Rows.orderLineRow.laid) (((OpenSpec.ofChange Rows.orderLineSpec).at F).post enc Tryd.prog Tryd.f3 false true false false) := by
  refine returnsInHanded_of_row (C := Tryd.checked) (s := OpenSpec.ofChange Rows.orderLineSpec) ownK started (by kernel_rfl) Tryd.func3
    (witness_row_at (enc := enc) (C := Tryd.checked) false (laidWorld os) #[arg0] rfl (by kernel_rfl) (by kernel_rfl) (by kernel_rfl) (witness_row os enc)) ?_
  intro W base args ds gs before hval hW _ _ _ hL _ _
  exact contract H enc W base args ds gs before hval hW hL
set_option maxRecDepth 100000 in
theorem said : Rows.OrderLineSaid :=
  OpenClaim.holds_of_cond 3 Tryd.f3 rfl rfl rfl rfl rfl rfl rfl ⟨rfl, rfl, rfl, rfl, rfl⟩ rfl rfl rfl rfl rfl (by kernel_rfl) Tryd.func3 (by kernel_rfl)
    (of_decide_eq_true (by kernel_rfl)) (by unfold Func.isWrapper; first | (rw [if_pos (by decide +kernel)]; kernel_rfl) | (rw [if_neg (by decide +kernel)]; exact ⟨rfl, rfl⟩))
    (fun os started H enc _ F => by rw [OpenClaim.pre_eq_preRow]; exact lifted os started H enc F)
theorem plainP (f : FuncId) (fn : Func) (hf : Tryd.pinned.checked.prog.funcNamed Rows.orderLineRow.func = some f) (hfn : Tryd.pinned.checked.prog.funcs[f]? = some fn) :
    false = Tryd.pinned.checked.prog.looks [] ∧ ∀ (j : Nat) t, fn.params[j]? = some t → Tryd.pinned.checked.prog.wantsStandIn t = false := by
  obtain rfl : f = 3 := Option.some.inj ((show Tryd.prog.funcNamed Rows.orderLineRow.func = some 3 by kernel_rfl).symm.trans hf) |>.symm
  obtain rfl : fn = Tryd.f3 := (Option.some.inj (Tryd.func3.symm.trans hfn)).symm
  refine ⟨by kernel_rfl, fun j t ht => ?_⟩
  rw [params] at ht
  have hm := Array.mem_of_getElem? ht
  simp only [List.mem_toArray, List.mem_cons, List.mem_nil_iff, or_false] at hm
  subst hm
  exact (show Tryd.prog.wantsStandIn 26 = false by kernel_rfl)
theorem orderLine_card : Rows.OrderLineCardSaid :=
  Claim7.holds_tied_plain_at .later [] _ _ _ _ said (fun _ h => by cases h) (by kernel_rfl) (fun _ h => by cases h) orderLine_row_tie rfl ⟨rfl, rfl⟩ (by kernel_rfl) rfl plainP (by kernel_rfl)
#print axioms orderLine_card
end Go.Proofs.YtikedmiioonjiaaDoor
