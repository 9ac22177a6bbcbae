/- The abstract interpreter: the table of types, out of the program; the program's text. -/
import Derived.Test.YtikedmiioonjiaaDoorEvY
set_option linter.unusedVariables false
set_option linter.unusedSimpArgs false
set_option linter.unusedSectionVars false
set_option linter.defProp false
namespace Go.Ev
open Go

def ofConsts : List Value → Option (List AV)
  | [] => some []
  | v :: vs => match ofConst v with
    | some x => match ofConsts vs with
      | some xs => some (x :: xs)
      | none => none
    | none => none
theorem ofConsts_map : ∀ {vs : List Value} {xs : List AV}, ofConsts vs = some xs → vs.map ofConst = xs.map some
  | [], xs, h => by simp only [ofConsts, Option.some.injEq] at h; subst h; rfl
  | v :: vs, xs, h => by
    simp only [ofConsts] at h
    split at h
    · rename_i x hx
      split at h
      · rename_i xs' hxs
        simp only [Option.some.injEq] at h; subst h
        simp [hx, ofConsts_map hxs]
      · cases h
    · cases h
/-- The table of types that a program has. -/
def tabOf (P : Program) : Tab := fun t =>
  match P.underlying t, P.info? t with
  | some d, some inf => match inf.zero with
    | some z => match ofConsts z.cells.toList with
      | some zs => if z.cells.toList.length = inf.size then some ⟨d, inf.size, inf.bytes, zs⟩ else none
      | none => none
    | none => none
  | _, _ => none
theorem tabOf_ok (P : Program) : TabOK P (tabOf P) := by
  have key : ∀ t i, tabOf P t = some i → ∃ inf z, P.underlying t = some i.desc ∧ P.info? t = some inf ∧ inf.zero = some z ∧ inf.size = i.size ∧ inf.bytes = i.bytes ∧ z.cells.toList.length = i.size ∧ z.cells.toList.map ofConst = i.zero.map some := by
    intro t i h
    unfold tabOf at h
    split at h
    · rename_i d inf h1 h2
      split at h
      · rename_i z hz
        split at h
        · rename_i zs hzs
          split at h
          · rename_i hl
            simp only [Option.some.injEq] at h; subst h
            exact ⟨inf, z, h1, h2, hz, rfl, rfl, hl, ofConsts_map hzs⟩
          · cases h
        · cases h
      · cases h
    · cases h
  exact ⟨fun t i h => by obtain ⟨inf, z, h1, _⟩ := key t i h; exact h1, fun t i h => by
    obtain ⟨inf, z, _, h2, h3, h4, h5, h6, h7⟩ := key t i h
    exact ⟨inf, z, h2, h4, h5, h3, h6, h7⟩⟩
/-- All regions that draw, all names. -/
def textB (P : Program) : Bool :=
  P.funcs.toList.all fun fn => (match fn.body with | some c => codeB c | none => true) && !(fn.name == "runtime.NumGoroutine")
theorem text_code {P : Program} (h : textB P = true) {f : FuncId} {fn : Func} {c : Code} (hf : P.funcs[f]? = some fn) (hc : fn.body = some c) : codeB c = true := by
  have hm : fn ∈ P.funcs.toList := Array.mem_toList_iff.2 (Array.mem_of_getElem? hf)
  have := List.all_eq_true.1 h fn hm
  rw [hc] at this
  simp only [Bool.and_eq_true] at this
  exact this.1
theorem text_name {P : Program} (h : textB P = true) {f : FuncId} {fn : Func} (hf : P.funcs[f]? = some fn) : (fn.name == "runtime.NumGoroutine") = false := by
  have hm : fn ∈ P.funcs.toList := Array.mem_toList_iff.2 (Array.mem_of_getElem? hf)
  have := List.all_eq_true.1 h fn hm
  simp only [Bool.and_eq_true, Bool.not_eq_true'] at this
  exact this.2
theorem ev_all {P : Program} {cf : Cfg} (ht : cf.tab = tabOf P) (hM : MethOK P cf) (hm : P.follows .mixedOrders = true) (hX : textB P = true) {pr : Callee → Callee} (hP : PrimOK P cf pr) (k : Nat) : COK P cf (evF P cf pr k) :=
  ev_ok (by rw [ht]; exact tabOf_ok P) hM hm (fun _ _ hf => text_name hX hf) (fun _ _ _ hf hc _ => text_code hX hf hc) hP k
/-- How a function is entered. -/
theorem evF_in {P : Program} {cf : Cfg} {pr : Callee → Callee} {k : Nat} {f : FuncId} {fn : Func} {c : Code} {args : List AV} {hp : List (List AV)} {st : St} (h : P.funcs[f]? = some fn) (hp_ : cf.prim f = false) (hb : fn.body = some c) (hs : begin_ (cf.xf f) fn.ntmps args hp = some st) :
    evF P cf pr (k + 1) f args hp = finish cf f fn.results.toList (evC cf (evF P cf pr k) (cf.esc f) k c st) := by
  simp only [evF, hp_, h, hb, hs, Bool.false_eq_true, if_false]
end Go.Ev
