/- The abstract interpreter: functions. -/
import Derived.Test.YtikedmiioonjiaaDoorEvQ
set_option linter.unusedVariables false
set_option linter.unusedSimpArgs false
set_option linter.unusedSectionVars false
set_option linter.defProp false
namespace Go.Ev
open Go
section
variable {P : Program} {w0 : World} {S0 : Nat → Prop} {hb0 : List Nat} {xb : Option Nat} {st st' : St} {a : Act} {w w' : World} {S S' : Nat → Prop} {hb hb' : List Nat} {lb lb' : Nat → Option (Nat × Nat)} {N : Nm}

/-- The frame's values at its begin. -/
theorem frame_begin {vs : List Value} {xs : List AV} (h : frepL w S hb N xs vs) (n : Nat) : ∀ (i : Nat) (x : AV), (xs ++ List.replicate (n - xs.length) AV.undef)[i]? = some x → ∃ v : Value, (vs.toArray ++ Array.replicate (n - vs.toArray.size) undef)[i]? = some v ∧ frep w S hb N x v := by
  have hl := frepL_len h
  intro i x hx
  by_cases hi : i < xs.length
  · rw [List.getElem?_append_left hi] at hx
    have key : ∀ {xs : List AV} {vs : List Value}, frepL w S hb N xs vs → ∀ (i : Nat) (x : AV), xs[i]? = some x → ∃ v, vs[i]? = some v ∧ frep w S hb N x v := by
      intro xs
      induction xs with
      | nil => intro vs _ i x hx; simp at hx
      | cons y ys ih =>
        rintro _ ⟨u, us, rfl, h1, h2⟩ i x hx
        cases i with
        | zero => simp at hx; subst hx; exact ⟨u, rfl, h1⟩
        | succ i => simp at hx; simpa using ih h2 i x hx
    obtain ⟨v, k1, k2⟩ := key h i x hx
    refine ⟨v, ?_, k2⟩
    rw [Array.getElem?_append_left (by simp; omega)]
    simpa using k1
  · rw [List.getElem?_append_right (by omega), List.getElem?_replicate] at hx
    split at hx
    · rename_i hlt
      simp only [Option.some.injEq] at hx; subst hx
      refine ⟨undef, ?_, trivial⟩
      rw [Array.getElem?_append_right (by simp; omega), Array.getElem?_replicate]
      rw [if_pos (by simp only [List.size_toArray]; omega)]
    · cases hx
theorem replicate_none {d n : Nat} {o : LObj} (h : (List.replicate n (none : Option LObj)).getD d none = some o) : False := by
  rw [List.getD_eq_getElem?_getD, List.getElem?_replicate] at h
  split at h <;> simp at h
theorem begin_ok {xf : Bool} {n : Nat} {args : List AV} {hp : List (List AV)} {vs : List Value} (hH : HRep w S hb hp) (hS : ∀ b, S b → b < w.heap.size) (hA : ArgsOK xf w S hb xb args vs) (h : begin_ xf n args hp = some st) :
    ∃ lb, Inv w S hb xb st { tmps := vs.toArray ++ Array.replicate (n - vs.toArray.size) undef, defers := [] } w S hb lb := by
  unfold ArgsOK at hA
  unfold begin_ at h
  have hhb : ∀ b ∈ hb, b < w.heap.size := fun b hm => by
    obtain ⟨i, hi⟩ := List.getElem?_of_mem hm
    have hl : i < hp.length := by rw [← hH.len]; exact (List.getElem?_eq_some_iff.1 hi).1
    obtain ⟨arr, ty, k1, _⟩ := hH.cells i b _ hi (List.getElem?_eq_getElem hl)
    exact (Array.getElem?_eq_some_iff.1 k1).1
  split at h
  · rename_i ty' sz' xs rest
    simp only [if_true] at hA
    obtain ⟨ty2, sz2, c, xs', rest', v, us, e1, rfl, hO, hr⟩ := hA
    simp only [List.cons.injEq, AV.orow.injEq] at e1
    obtain ⟨⟨rfl, rfl, rfl⟩, rfl⟩ := e1
    simp only [Option.some.injEq] at h; subst h
    have hlen : us.length = rest.length := by rw [crepL_len hr]
    have hloc : ∀ d o, (some (⟨0, false, false, ty', sz', xs⟩ : LObj) :: List.replicate (rest.length + (n - (rest.length + 1))) none).getD d none = some o → d = 0 ∧ o = ⟨0, false, false, ty', sz', xs⟩ := fun d o h => by
      cases d with
      | zero => simp at h; exact ⟨rfl, h.symm⟩
      | succ d => exact (replicate_none (n := rest.length + (n - (rest.length + 1))) (d := d) (by simpa using h)).elim
    let lb : Nat → Option (Nat × Nat) := fun d => if d = 0 then xb.map (fun b => (b, c)) else none
    have hlb : ∀ d b c', lb d = some (b, c') → d = 0 ∧ xb = some b ∧ c' = c := fun d b c' h => by
      simp only [lb] at h
      split at h
      · cases hx : xb with
        | none => rw [hx] at h; cases h
        | some b' => rw [hx] at h; simp only [Option.map_some, Option.some.injEq, Prod.mk.injEq] at h; exact ⟨by assumption, by rw [h.1], h.2.symm⟩
      · cases h
    refine ⟨lb, ?_⟩
    exact {
      os := rfl, tape := rfl, output := rfl, size := Nat.le_refl _, block := fun _ _ _ _ => rfl, S0S := fun _ h => h, Snew := fun b h => .inl h, Slt := hS, hb0hb := fun _ _ h => h, hbnew := fun b h => .inl h
      lbnew := fun d o b c' _ h2 => .inr (hlb d b c' h2).2.1
      lbhb := fun d o b c' _ h2 => by
        obtain ⟨_, k, _⟩ := hlb d b c' h2
        rcases hO with ⟨h, _⟩ | ⟨b2, arr, g1, _, _, _, _, _, _, g8, _⟩
        · rw [h] at k; cases k
        · rw [g1] at k; simp only [Option.some.injEq] at k; subst k; exact g8
      lbne := fun d d' o o' b c1 c2 h1 h2 _ _ => by rw [(hloc d o h1).1, (hloc d' o' h2).1]
      gens := fun d o h => by rw [(hloc d o h).2]; exact Nat.zero_lt_one
      locs := fun d o h => by
        obtain ⟨rfl, rfl⟩ := hloc d o h
        rcases hO with ⟨rfl, rfl, rfl, A, rfl⟩ | ⟨b2, arr, rfl, g2, g3, g4, g5, g6, g7, g8, g9⟩
        · unfold LRep; simp [lb]
        · exact LRep.ofRows (b := b2) (cap := c) rfl (by simp [lb]) g3 g4 g5 g6 g9.at_ (by simpa using g7)
      heap := hH
      frlen := by simp [hlen]; omega
      loclen := by simp
      frame := by
        have hl : frepL w S hb (nm ⟨.lrow 0 0 :: rest ++ List.replicate (n - (rest.length + 1)) .undef, some ⟨0, false, false, ty', sz', xs⟩ :: List.replicate (rest.length + (n - (rest.length + 1))) none, fun _ => 1, hp⟩ lb) (.lrow 0 0 :: rest) (v :: us) := by
          refine ⟨v, us, rfl, ?_, frepL_of_crepL hr⟩
          rw [frep_eq (by rfl)]
          refine ⟨Nat.zero_lt_one, fun o h1 h2 _ => ?_⟩
          obtain ⟨_, rfl⟩ := hloc 0 o h1
          rcases hO with ⟨rfl, rfl, rfl, A, rfl⟩ | ⟨b2, arr, rfl, g2, g3, g4, g5, g6, g7, g8, g9⟩
          · exact ⟨A, 0, rfl, by simp [lb]⟩
          · exact ⟨_, c, g2, by simp [lb]⟩
        exact frame_begin hl n
      defers := rfl
      x0 := fun b hx => ⟨Nat.zero_lt_one, by
        subst hx
        rcases hO with ⟨h, _⟩ | ⟨b2, arr, h1, g2, g3, g4, g5, g6, g7, g8, g9⟩
        · cases h
        · simp only [Option.some.injEq] at h1; subst h1
          refine ⟨arr, ty', g3, fun o h1 _ => ?_⟩
          obtain ⟨_, rfl⟩ := hloc 0 o h1
          exact ⟨rfl, c, by simp [lb], g4.symm⟩⟩ }
  · simp only [Bool.false_eq_true, if_false] at hA
    obtain ⟨rfl, hr⟩ := hA
    simp only [Option.some.injEq] at h; subst h
    have hlen : vs.length = args.length := by rw [crepL_len hr]
    refine ⟨fun _ => none, ?_⟩
    exact {
      os := rfl, tape := rfl, output := rfl, size := Nat.le_refl _, block := fun _ _ _ _ => rfl, S0S := fun _ h => h, Snew := fun b h => .inl h, Slt := hS, hb0hb := fun _ _ h => h, hbnew := fun b h => .inl h
      lbnew := fun d o b c' h1 _ => (replicate_none h1).elim
      lbhb := fun d o b c' h1 _ => (replicate_none h1).elim
      lbne := fun d d' o o' b c1 c2 h1 _ _ _ => (replicate_none h1).elim
      gens := fun d o h => (replicate_none h).elim
      locs := fun d o h => (replicate_none h).elim
      heap := hH
      frlen := by simp [hlen]
      loclen := by simp
      frame := frame_begin (frepL_of_crepL hr) n
      defers := rfl
      x0 := fun b hx => by cases hx }
  · cases h

/-! ### The end -/
def resF (a : Act) : ResultVar → Sem Value
  | .tmp t => pure (a.tmps.getD t undef)
  | .cell b t => do loadVar t (← asAddr (a.tmps.getD b undef))
theorem result1_ok {cf : Cfg} (hT : TabOK P cf.tab) (I : Inv w0 S0 hb0 xb st a w S hb lb) {r : ResultVar} {v : AV} (h : result1 cf.tab st r = some v) :
    ∃ cv, (resF a r).run P w = .ok cv w ∧ frep w S hb (nm st lb) v cv := by
  cases r with
  | tmp t =>
    simp only [result1, Option.some.injEq] at h; subst h
    exact ⟨_, rfl, I.slot t⟩
  | cell b t =>
    simp only [result1] at h
    split at h
    · rename_i i hi
      obtain ⟨bb, o, xs, e1, e2, e3⟩ := addr_ok I (I.slot b) h
      obtain ⟨cv, k1, k2⟩ := read_ok hT hi e2 e3
      refine ⟨cv, ?_, k2⟩
      unfold resF
      simp only [e1, asAddr, Sem.run_bind, Sem.run_pure, Result.andThen_ok, k1]
    · cases h
theorem resultL_ok {cf : Cfg} (hT : TabOK P cf.tab) (I : Inv w0 S0 hb0 xb st a w S hb lb) : ∀ {rs : List ResultVar} {vs : List AV}, resultL cf.tab st rs = some vs →
    ∃ cvs : List Value, (rs.mapM (resF a)).run P w = .ok cvs w ∧ frepL w S hb (nm st lb) vs cvs
  | [], vs, h => by
    simp only [resultL, Option.some.injEq] at h; subst h
    exact ⟨[], by simp, rfl⟩
  | r :: rs, vs, h => by
    simp only [resultL] at h
    split at h
    · rename_i v hv
      split at h
      · rename_i vs' hvs
        simp only [Option.some.injEq] at h; subst h
        obtain ⟨cv, k1, k2⟩ := result1_ok hT I hv
        obtain ⟨cvs, g1, g2⟩ := resultL_ok hT I hvs
        refine ⟨cv :: cvs, ?_, cv, cvs, rfl, k2, g2⟩
        rw [List.mapM_cons]
        simp only [Sem.run_bind, k1, Result.andThen_ok, g1, Sem.run_pure]
      · cases h
    · cases h
theorem results_ok {cf : Cfg} (hT : TabOK P cf.tab) (I : Inv w0 S0 hb0 xb st a w S hb lb) {fn : Func} {vs : List AV} (h : resultL cf.tab st fn.results.toList = some vs) :
    ∃ cvs : List Value, (results fn a.tmps).run P w = .ok (match cvs with | [v] => v | cvs => .tuple cvs.toArray) w ∧ frepL w S hb (nm st lb) vs cvs := by
  obtain ⟨cvs, k1, k2⟩ := resultL_ok hT I h
  refine ⟨cvs, ?_, k2⟩
  have e : results fn a.tmps = (do let vs ← fn.results.mapM (resF a); pure (if h : vs.size = 1 then vs[0] else .tuple vs)) := by
    unfold results
    congr 1
  rw [e, Array.mapM_eq_mapM_toList]
  simp only [Sem.run_bind, Sem.run_map, k1, Result.andThen_ok]
  cases cvs with
  | nil => rfl
  | cons v vs => cases vs <;> rfl
theorem eff_of (I : Inv w0 S0 hb0 xb st a w S hb lb) (hn : ∀ b, S b → xb ≠ some b) : Eff w0 S0 hb0 xb w S hb st.hp :=
  { os := I.os, tape := I.tape, output := I.output, size := I.size, block := I.block, sub := I.S0S
    new := fun b h => by
      rcases I.Snew b h with h1 | h1 | h1
      · exact .inl h1
      · exact .inr h1
      · exact (hn b h h1).elim
    lt := I.Slt, hbx := I.hb0hb, hbn := I.hbnew, heap := I.heap }
theorem obj0_ok (I : Inv w0 S0 hb0 xb st a w S hb lb) {o : LObj} (h : obj0 st = some o) : (∀ b, S b → xb ≠ some b) ∧ OutR w0 w S hb xb o.xs := by
  unfold obj0 at h
  split at h
  · rename_i o' ho
    split at h
    · rename_i hc
      obtain ⟨c1, c2, c3, c4⟩ := hc
      simp only [Option.some.injEq] at h; subst h
      have key : ∀ b, xb = some b → ∃ (arr0 arr : Array Value) (ty sz : Nat), w0.heap[b]? = some (.cells arr0 ty (0, 0)) ∧ w.heap[b]? = some (.cells arr ty (0, 0)) ∧ arr.size = arr0.size ∧ ¬ S b ∧ b ∉ hb ∧ RowsC w S hb sz o'.xs arr.toList := fun b hx => by
        obtain ⟨_, arr0, ty, h1, h2⟩ := I.x0 b hx
        obtain ⟨rfl, c, h3, h4⟩ := h2 o' ho c1
        obtain ⟨arr, g1, g2, g3, g4, g5, g6⟩ := (I.locs 0 o' ho).rowsAt c3 (N := nm st lb) h3
        rw [c2] at g6
        exact ⟨arr0, arr, _, o'.sz, h1, g1, by rw [g2, h4], by simpa using g6, I.lbhb 0 o' b c ho h3, g5.c c4⟩
      refine ⟨fun b hs hx => ?_, key⟩
      obtain ⟨_, _, _, _, _, _, _, k, _⟩ := key b hx
      exact k hs
    · cases h
  · cases h
theorem out1_ok {cf : Cfg} {f : FuncId} (hxb : cf.xf f = false → xb = none) (I : Inv w0 S0 hb0 xb st a w S hb lb) {v : AV} {cv : Value} (hv : crep w S hb v cv) {r : Res} (h : out1 cf f v st = some r) : Post (cf.xf f) w0 S0 hb0 xb r (.returned cv) w := by
  have hret : RetV w0 w S hb v cv := by
    cases v <;> first | exact hv | (simp only [crep] at hv)
  unfold out1 at h
  split at h
  · rename_i hxf
    split at h
    · rename_i o ho
      simp only [Option.some.injEq] at h; subst h
      obtain ⟨h1, h2⟩ := obj0_ok I ho
      exact ⟨v, _, _, S, hb, rfl, eff_of I h1, hret, fun _ => h2⟩
    · cases h
  · rename_i hxf
    have hx := hxb (by simpa using hxf)
    simp only [Option.some.injEq] at h; subst h
    exact ⟨v, _, _, S, hb, rfl, eff_of I (fun b _ e => by rw [hx] at e; cases e), hret, fun h => absurd h hxf⟩
theorem finish_ok {cf : Cfg} (hT : TabOK P cf.tab) {f : FuncId} {fn : Func} (hxb : cf.xf f = false → xb = none) (I : Inv w0 S0 hb0 xb st a w S hb lb) {ex : Ex} (hex : ex = .ret ∨ ex = .normal) {r : Res} (h : finish cf f fn.results.toList (some (ex, st)) = some r) :
    ∃ cv, (results fn a.tmps).run P w = .ok cv w ∧ Post (cf.xf f) w0 S0 hb0 xb r (.returned cv) w := by
  have h' : (match resultL cf.tab st fn.results.toList with
    | some [v] =>
      if cf.own f then match v with
        | .lrow d g => match st.lobj d g with
          | some o => if o.frz = false ∧ o.it = false ∧ cleanRows o.xs = true ∧ cf.xf f = false then some (.ret (.orow o.ty o.sz o.xs) [] st.hp) else none
          | none => none
        | _ => none
      else match giveV st v with
        | some r => out1 cf f r.1 r.2
        | none => none
    | some vs => match giveA st vs with
      | some r => out1 cf f (.tuple r.1) r.2
      | none => none
    | none => none) = some r := by
    rcases hex with rfl | rfl <;> exact h
  split at h'
  · rename_i v hv
    obtain ⟨cvs, k1, k2⟩ := results_ok hT I hv
    obtain ⟨cv, us, rfl, hcv, hus⟩ := k2
    cases hus
    refine ⟨cv, k1, ?_⟩
    split at h'
    · split at h'
      · rename_i d g
        split at h'
        · rename_i o ho
          split at h'
          · rename_i hc
            obtain ⟨c1, c2, c3, c4⟩ := hc
            simp only [Option.some.injEq] at h'; subst h'
            have hx := hxb c4
            obtain ⟨e1, e2⟩ := lobj_some.1 ho
            rw [frep_eq (by rfl)] at hcv
            obtain ⟨A, c, g1, g2⟩ := hcv.2 o e1 e2 c2
            refine ⟨_, _, _, S, hb, rfl, eff_of I (fun b _ e => by rw [hx] at e; cases e), ?_, fun h => by rw [c4] at h; cases h⟩
            show ∃ xb c, ORow w S hb o.ty o.sz o.xs cv xb c ∧ _
            cases hl : lb d with
            | none =>
              have hrep := I.locs d o e1
              unfold LRep at hrep
              simp only [hl] at hrep g2
              subst g2
              exact ⟨none, 0, .inl ⟨rfl, hrep.1, rfl, A, by rw [g1, hrep.1]; rfl⟩, fun b e => by cases e⟩
            | some bc =>
              obtain ⟨b, cap⟩ := bc
              simp only [hl] at g2
              obtain ⟨rfl, rfl⟩ := g2
              obtain ⟨arr, m1, m2, m3, m4, m5, m6⟩ := (I.locs d o e1).rowsAt c2 (N := nm st lb) hl
              rw [c1] at m6
              refine ⟨some b, c, .inr ⟨b, arr, rfl, g1, m1, m2, m3, m4, by simpa using m6, I.lbhb d o b c e1 hl, m5.c c3⟩, fun b' e => ?_⟩
              simp only [Option.some.injEq] at e; subst e
              rcases I.lbnew d o b c e1 hl with k | k
              · exact k
              · rw [hx] at k; cases k
          · cases h'
        · cases h'
      · cases h'
    · split at h'
      · rename_i q hq
        obtain ⟨S1, I1, H1, K1, c1, _⟩ := giveV_ok I hcv (y := q.1) (st' := q.2) hq
        exact out1_ok hxb I1 c1 h'
      · cases h'
  · rename_i vs hne hv
    obtain ⟨cvs, k1, k2⟩ := results_ok hT I hv
    split at h'
    · rename_i q hq
      obtain ⟨S1, I1, H1, K1, c1, _⟩ := giveA_ok I k2 (ys := q.1) (st' := q.2) hq
      refine ⟨.tuple cvs.toArray, ?_, out1_ok hxb I1 (by rw [crep]; exact ⟨_, rfl, by simpa using c1⟩) h'⟩
      rw [k1]
      have hl := frepL_len k2
      cases cvs with
      | nil => rfl
      | cons u us =>
        cases us with
        | cons => rfl
        | nil =>
          exfalso
          cases vs with
          | nil => simp at hl
          | cons v vs =>
            have : vs = [] := List.eq_nil_of_length_eq_zero (by simpa using hl.symm)
            subst this
            exact hne v rfl
    · cases h'
  · cases h'

/-- Functions that are not entered. -/
def PrimOK (P : Program) (cf : Cfg) (pr : Callee → Callee) : Prop :=
  ∀ C, COK P cf C → ∀ f args hp r, cf.prim f = true → pr C f args hp = some r → (∃ fn c, P.funcs[f]? = some fn ∧ fn.body = some c ∧ (fn.name == "runtime.NumGoroutine") = false) ∧
    ∀ (w : World) (S : Nat → Prop) (hb : List Nat) (xb : Option Nat) (vs : List Value), Lay cf w S → HRep w S hb hp → (∀ b, S b → b < w.heap.size) → ArgsOK (cf.xf f) w S hb xb args vs → Calls P f vs.toArray w (Post (cf.xf f) w S hb xb r)
/-- THE THEOREM: the program does what the interpreter says. -/
theorem evF_ok {cf : Cfg} (hT : TabOK P cf.tab) (hM : MethOK P cf) (hD : DrawOK P cf) (hN : ∀ (f : FuncId) (fn : Func), P.funcs[f]? = some fn → (fn.name == "runtime.NumGoroutine") = false) (hB : ∀ (f : FuncId) (fn : Func) (c : Code), P.funcs[f]? = some fn → fn.body = some c → cf.prim f = false → codeB c = true) {pr : Callee → Callee} (hP : PrimOK P cf pr) : ∀ k, COK P cf (evF P cf pr k) := by
  intro k
  induction k with
  | zero => intro f args hp r h; simp [evF] at h
  | succ k ih =>
    intro f args hp r h
    simp only [evF] at h
    split at h
    · rename_i hpr
      exact hP _ ih f args hp r hpr h
    · rename_i hnp
      split at h
      · rename_i fn hfn
        split at h
        · rename_i c hc
          split at h
          · rename_i s0 hs0
            refine ⟨⟨fn, c, hfn, hc, hN f fn hfn⟩, fun w S hb xb vs hL hH hS hA => ?_⟩
            obtain ⟨lb, I⟩ := begin_ok hH hS hA hs0
            have hxb : cf.xf f = false → xb = none := fun hx => by
              unfold ArgsOK at hA
              rw [hx] at hA
              simp only [Bool.false_eq_true, if_false] at hA
              exact hA.1
            refine calls_of_wp hfn hc ?_
            cases hev : evC cf (evF P cf pr k) (cf.esc f) k c s0 with
            | none => rw [hev] at h; simp [finish] at h
            | some q =>
              obtain ⟨ex, s1⟩ := q
              rw [hev] at h
              refine wp_mono (code_ok hT hM hD ⟨ih, lay_begin hL hH hS hA.notS⟩ k c (hB f fn c hfn hc (by simpa using hnp)) I hev) fun e a1 w1 he => ?_
              cases e with
              | normal =>
                obtain ⟨rfl, S1, hb1, lb1, I1⟩ := he
                obtain ⟨cv, k1, k2⟩ := finish_ok hT hxb I1 (.inr rfl) h
                exact ⟨I1.defers, cv, k1, k2⟩
              | ret =>
                obtain ⟨rfl, S1, hb1, lb1, I1⟩ := he
                obtain ⟨cv, k1, k2⟩ := finish_ok hT hxb I1 (.inl rfl) h
                exact ⟨I1.defers, cv, k1, k2⟩
              | exit j =>
                obtain ⟨rfl, _⟩ := he
                simp [finish] at h
              | panic chain =>
                obtain ⟨v, cv, rfl, hch, S1, hb1, lb1, I1, hv⟩ := he
                simp only [finish] at h
                split at h
                · cases h
                · rename_i hxf
                  simp only [Option.some.injEq] at h; subst h
                  have hx := hxb (by simpa using hxf)
                  exact ⟨I1.defers, v, _, S1, hb1, cv, rfl, eff_of I1 (fun b _ e => by rw [hx] at e; cases e), hch, hv⟩
              | goto l => exact he.elim
              | outgrown => exact he.elim
          · cases h
        · cases h
      · cases h
end
end Go.Ev
