/- Arguments opened. -/
import Derived.Test.YtikedmiioonjiaaDoorPr
import Derived.Lib.LaidU8T
import Derived.ProofKit
import Derived.OpenShut
import Derived.ChangeReads
set_option linter.unusedVariables false
set_option linter.unusedSimpArgs false
set_option linter.unusedSectionVars false
set_option linter.defProp false
namespace Go.Proofs.YtikedmiioonjiaaDoor
open Go Go.Ev Sp
set_option maxRecDepth 100000
set_option linter.unusedSimpArgs false
set_option linter.unusedVariables false
variable {W : World} {hp : List (List AV)}
open Go.RowKit Go.WideShapes Go.ChangeShapes
theorem valTy : ValTy Tryd.prog 24 22 where
  str := ⟨_, _, _, _, Tryd.underlying24, rfl, rfl, rfl, rfl, Tryd.underlying3, by kernel_rfl, Tryd.underlying2, by kernel_rfl, Tryd.underlying9, by kernel_rfl, rfl⟩
  row := Tryd.underlying22
  one := by kernel_rfl
  size := by kernel_rfl
section
variable {H : Type} {enc : TypeId × Value → H} {base : Nat} {sp : Nat → Bool} {held : Bool} {r : Reach} {b0 : Nat} {v : Value} {d : DataW H} {p : List MemPlace}
theorem open_value (hv : Value.okWide Tryd.prog W r b0 24 v) (h : DataW.Trod enc Tryd.prog W base sp held 24 v d p) : ∃ x : S24, crep W (allS W) [] (.agg [.int .i64 x.f0, .int .i64 x.f1, .str x.f2, .rows false (x.f3.map cellsS)]) v := by
  obtain ⟨cs, rfl, hsz⟩ := okWide_struct Tryd.underlying24 hv
  obtain ⟨fuel, hf⟩ := h
  obtain ⟨x, h1, h2⟩ := (open_val valTy fuel).1 _ _ hf
  refine ⟨x, ?_⟩
  rw [crep]
  rw [cellsS_eq] at h1
  exact ⟨cs, rfl, h1, h2⟩
theorem open_values (h : DataW.Trod enc Tryd.prog W base sp held 22 v d p) (h1 : v.oneCell' = true) : ∃ l : List S24, crep W (allS W) [] (.rows false (l.map cellsS)) v := by
  obtain ⟨fuel, hf⟩ := h
  obtain ⟨l, u, e, h2, _⟩ := (open_val valTy fuel).2 _ _ hf
  have hc : v.cells.toList = [v] := by
    cases v <;> first | rfl | simp [Value.oneCell'] at h1
  rw [hc] at e
  simp only [List.cons.injEq, and_true] at e
  subst e
  exact ⟨l, h2⟩
end
end Go.Proofs.YtikedmiioonjiaaDoor
