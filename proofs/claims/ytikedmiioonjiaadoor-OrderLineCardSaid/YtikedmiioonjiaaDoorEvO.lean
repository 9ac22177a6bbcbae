/- The abstract interpreter: calls. What a callee is held to, and the call itself. -/
import Derived.Test.YtikedmiioonjiaaDoorEvN
set_option linter.unusedVariables false
set_option linter.unusedSimpArgs false
set_option linter.unusedSectionVars false
set_option linter.defProp false
namespace Go.Ev
open Go
section
variable {P : Program} {w0 : World} {S0 : Nat → Prop} {hb0 : List Nat} {xb : Option Nat} {st st' : St} {a : Act} {w w' : World} {S S' : Nat → Prop} {hb hb' : List Nat} {lb lb' : Nat → Option (Nat × Nat)} {N : Nm}

/-- Cells of rows, out of any frame. -/
def RowsC (w : World) (S : Nat → Prop) (hb : List Nat) (sz : Nat) (xs : List (List AV)) (cs : List Value) : Prop :=
  ∀ i x, xs[i]? = some x → x.length = sz ∧ ∀ j y, x[j]? = some y → ∃ v, cs[i * sz + j]? = some v ∧ v.oneCell' = true ∧ crep w S hb y v
theorem RowsC.at_ {frz : Bool} {sz : Nat} {xs : List (List AV)} {cs : List Value} (h : RowsC w S hb sz xs cs) : RowsAt w S hb N frz sz xs cs := fun i x hx =>
  ⟨(h i x hx).1, fun j y hy => by obtain ⟨v, k1, k2, k3⟩ := (h i x hx).2 j y hy; exact ⟨v, k1, k2, crep_isCell k3 k2, crep_srep k3, fun _ => k3⟩⟩
theorem RowsAt.c {frz : Bool} {sz : Nat} {xs : List (List AV)} {cs : List Value} (h : RowsAt w S hb N frz sz xs cs) (hc : cleanRows xs = true) : RowsC w S hb sz xs cs := fun i x hx =>
  ⟨(h i x hx).1, fun j y hy => by
    obtain ⟨v, k1, k2, k3, k4, k5⟩ := (h i x hx).2 j y hy
    exact ⟨v, k1, k2, srep_crep (List.all_eq_true.1 (List.all_eq_true.1 hc x (List.mem_of_getElem? hx)) y (List.mem_of_getElem? hy)) k4⟩⟩
/-- A row that is nobody else's. -/
def ORow (w : World) (S : Nat → Prop) (hb : List Nat) (ty sz : Nat) (xs : List (List AV)) (v : Value) (xb : Option Nat) (c : Nat) : Prop :=
  (xb = none ∧ xs = [] ∧ c = 0 ∧ ∃ A, v = .slice A 0 0) ∨
  (∃ b arr, xb = some b ∧ v = .slice (some ⟨b, 0, none⟩) xs.length c ∧ w.heap[b]? = some (.cells arr ty (0, 0)) ∧ arr.size = c * sz ∧ xs.length ≤ c ∧ c ≤ maxLen ∧ ¬ S b ∧ b ∉ hb ∧ RowsC w S hb sz xs arr.toList)

/-- What a call does to the world. -/
structure Eff (w : World) (S : Nat → Prop) (hb : List Nat) (xb : Option Nat) (w' : World) (S' : Nat → Prop) (hb' : List Nat) (hp' : List (List AV)) : Prop where
  os : w'.os = w.os
  tape : w'.tape = w.tape
  output : w'.output = w.output
  size : w.heap.size ≤ w'.heap.size
  block : ∀ b, b < w.heap.size → b ∉ hb → xb ≠ some b → w'.heap[b]? = w.heap[b]?
  sub : ∀ b, S b → S' b
  new : ∀ b, S' b → S b ∨ w.heap.size ≤ b
  lt : ∀ b, S' b → b < w'.heap.size
  hbx : ∀ (i b : Nat), hb[i]? = some b → hb'[i]? = some b
  hbn : ∀ b ∈ hb', b ∈ hb ∨ w.heap.size ≤ b
  heap : HRep w' S' hb' hp'
/-- What it hands back. -/
def RetV (w : World) (w' : World) (S' : Nat → Prop) (hb' : List Nat) : AV → Value → Prop
  | .orow ty sz xs, cv => ∃ xb c, ORow w' S' hb' ty sz xs cv xb c ∧ ∀ b, xb = some b → w.heap.size ≤ b
  | v, cv => crep w' S' hb' v cv
/-- The row of the first parameter, behind the call. -/
def OutR (w w' : World) (S' : Nat → Prop) (hb' : List Nat) (xb : Option Nat) (out : List (List AV)) : Prop :=
  ∀ b, xb = some b → ∃ (arr0 arr : Array Value) (ty sz : Nat), w.heap[b]? = some (.cells arr0 ty (0, 0)) ∧ w'.heap[b]? = some (.cells arr ty (0, 0)) ∧ arr.size = arr0.size ∧ ¬ S' b ∧ b ∉ hb' ∧ RowsC w' S' hb' sz out arr.toList
def Post (xf : Bool) (w : World) (S : Nat → Prop) (hb : List Nat) (xb : Option Nat) (r : Res) : Ending → World → Prop
  | .returned cv, w' => ∃ v out hp' S' hb', r = .ret v out hp' ∧ Eff w S hb xb w' S' hb' hp' ∧ RetV w w' S' hb' v cv ∧ (xf = true → OutR w w' S' hb' xb out)
  | .panicked chain, w' => ∃ v hp' S' hb' cv, r = .pan v hp' ∧ Eff w S hb xb w' S' hb' hp' ∧ chain = [{ v := cv, recovered := false }] ∧ crep w' S' hb' v cv
  | .outgrown, _ => False
/-- The arguments. -/
def ArgsOK (xf : Bool) (w : World) (S : Nat → Prop) (hb : List Nat) (xb : Option Nat) (args : List AV) (vs : List Value) : Prop :=
  if xf then ∃ ty sz c xs rest v us, args = .orow ty sz xs :: rest ∧ vs = v :: us ∧ ORow w S hb ty sz xs v xb c ∧ crepL w S hb rest us
  else xb = none ∧ crepL w S hb args vs
/-- The tables that are laid stand as they stood. -/
def Lay (cf : Cfg) (w : World) (S : Nat → Prop) : Prop := ∀ b ∈ cf.laid, S b ∧ w.heap[b]? = cf.laidIn.heap[b]?
def LayX (cf : Cfg) (w0 : World) (S0 : Nat → Prop) (hb0 : List Nat) (xb : Option Nat) : Prop := ∀ b ∈ cf.laid, S0 b ∧ b < w0.heap.size ∧ b ∉ hb0 ∧ xb ≠ some b ∧ w0.heap[b]? = cf.laidIn.heap[b]?
theorem lay_now {cf : Cfg} (hL : LayX cf w0 S0 hb0 xb) (I : Inv w0 S0 hb0 xb st a w S hb lb) : Lay cf w S := fun b hm => by
  obtain ⟨h1, h2, h3, h4, h5⟩ := hL b hm
  exact ⟨I.S0S b h1, (I.block b h2 h3 h4).trans h5⟩
theorem lay_begin {cf : Cfg} {hp : List (List AV)} (hL : Lay cf w S) (hH : HRep w S hb hp) (hS : ∀ b, S b → b < w.heap.size) (hx : ∀ b, xb = some b → ¬ S b) : LayX cf w S hb xb := fun b hm => by
  obtain ⟨h1, h2⟩ := hL b hm
  exact ⟨h1, hS b h1, fun hb => hH.out b hb h1, fun e => hx b e h1, h2⟩
/-- A callee does what the interpreter says. -/
def COK (P : Program) (cf : Cfg) (C : Callee) : Prop :=
  ∀ f args hp r, C f args hp = some r → (∃ fn c, P.funcs[f]? = some fn ∧ fn.body = some c ∧ (fn.name == "runtime.NumGoroutine") = false) ∧
    ∀ (w : World) (S : Nat → Prop) (hb : List Nat) (xb : Option Nat) (vs : List Value), Lay cf w S → HRep w S hb hp → (∀ b, S b → b < w.heap.size) → ArgsOK (cf.xf f) w S hb xb args vs → Calls P f vs.toArray w (Post (cf.xf f) w S hb xb r)
/-- .. out of this frame. -/
def COKat (P : Program) (cf : Cfg) (C : Callee) (w0 : World) (S0 : Nat → Prop) (hb0 : List Nat) (xb : Option Nat) : Prop := COK P cf C ∧ LayX cf w0 S0 hb0 xb
theorem ArgsOK.notS {xf : Bool} {args : List AV} {vs : List Value} (h : ArgsOK xf w S hb xb args vs) : ∀ b, xb = some b → ¬ S b := fun b e => by
  unfold ArgsOK at h
  split at h
  · obtain ⟨_, _, _, _, _, _, _, _, _, hO, _⟩ := h
    rcases hO with ⟨h1, _⟩ | ⟨b', _, h1, _, _, _, _, _, h2, _⟩
    · rw [h1] at e; cases e
    · rw [h1] at e; cases e; exact h2
  · rw [h.1] at e; cases e


theorem run_callFunc {f : FuncId} (h : ∃ fn c, P.funcs[f]? = some fn ∧ fn.body = some c ∧ (fn.name == "runtime.NumGoroutine") = false) (vs : Array Value) : (callFunc f vs).run P w = .ok (.enter f vs) w := by
  obtain ⟨fn, c, h1, h2, h3⟩ := h
  have h4 : ¬ fn.name = "runtime.NumGoroutine" := by simpa using h3
  simp [callFunc, h1, h2, h4]

/-- Behind a call: no row was handed over. -/
theorem Inv.called (I : Inv w0 S0 hb0 xb st a w S hb lb) {hp' : List (List AV)} (E : Eff w S hb none w' S' hb' hp') : Inv w0 S0 hb0 xb { st with hp := hp' } a w' S' hb' lb ∧ (nm st lb).le (nm { st with hp := hp' } lb) := by
  have H : Stays w w' S S' hb hb' := ⟨E.sub, fun b h => E.block b (I.Slt b h) (fun hm => I.heap.out b hm h) (by simp), E.hbx⟩
  have hd : ∀ o', st.loc.getD st.loc.length none = some o' → False := fun o' h => by
    rw [List.getD_eq_getElem?_getD, List.getElem?_eq_none (Nat.le_refl _)] at h; simp at h
  exact I.step (st' := { st with hp := hp' }) (lb' := lb) st.loc.length H E.os E.tape E.output E.size (fun b h1 h2 _ => ⟨E.block b h1 h2 (by simp), fun h => (E.new b h).resolve_right (by omega)⟩) E.lt E.hbn E.heap rfl rfl (fun _ => Nat.le_refl _) (fun _ _ => ⟨rfl, rfl⟩) (fun o' h => (hd o' h).elim)
/-- Behind a call that hands over a new row. -/
theorem Inv.calledRow (I : Inv w0 S0 hb0 xb st a w S hb lb) {hp' : List (List AV)} (E : Eff w S hb none w' S' hb' hp') {ty sz c : Nat} {xs : List (List AV)} {cv : Value} {q : Option Nat} (hO : ORow w' S' hb' ty sz xs cv q c) (hq : ∀ b, q = some b → w.heap.size ≤ b) (d : Nat) :
    ∃ lb', Inv w0 S0 hb0 xb ({ st with hp := hp' }.mk_ d false ty sz xs) a w' S' hb' lb' ∧ frep w' S' hb' (nm ({ st with hp := hp' }.mk_ d false ty sz xs) lb') (.lrow d (st.gen d)) cv := by
  have H : Stays w w' S S' hb hb' := ⟨E.sub, fun b h => E.block b (I.Slt b h) (fun hm => I.heap.out b hm h) (by simp), E.hbx⟩
  have hlq : ∀ b c', q.map (fun b => (b, c)) = some (b, c') → w.heap.size ≤ b ∧ b ∉ hb' := fun b c' e => by
    cases q with
    | none => simp at e
    | some b' =>
      simp only [Option.map_some, Option.some.injEq, Prod.mk.injEq] at e
      obtain ⟨rfl, rfl⟩ := e
      rcases hO with ⟨h, _⟩ | ⟨b2, arr, h1, h2, h3, h4, h5, h6, h7, h8, h9⟩
      · cases h
      · simp only [Option.some.injEq] at h1; subst h1
        exact ⟨hq _ rfl, h8⟩
  obtain ⟨I', K⟩ := I.step (st' := { st with hp := hp' }.mk_ d false ty sz xs) (lb' := setlb lb d (q.map fun b => (b, c))) d H E.os E.tape E.output E.size (fun b h1 h2 _ => ⟨E.block b h1 h2 (by simp), fun h => (E.new b h).resolve_right (by omega)⟩) E.lt E.hbn E.heap rfl (by simp [St.mk_])
    (fun e => by show st.gen e ≤ bump st.gen d e; exact bump_le _ _ _) (fun e he => ⟨by rw [mk_loc]; simp [he], by simp [setlb, he]⟩)
    (fun o' h => by
      rw [mk_loc] at h
      split at h
      · simp only [Option.some.injEq] at h; subst h
        refine ⟨bump_lt _ _, fun h => absurd h (Nat.lt_irrefl _), fun K => ?_, fun b c' e => .inl (hlq b c' (by simpa [setlb] using e))⟩
        rcases hO with ⟨rfl, rfl, rfl, A, rfl⟩ | ⟨b2, arr, rfl, h2, h3, h4, h5, h6, h7, h8, h9⟩
        · unfold LRep; simp [setlb]
        · exact LRep.ofRows (b := b2) (cap := c) rfl (by simp [setlb]) h3 h4 h5 h6 h9.at_ (by simpa using h7)
      · rename_i hl
        exfalso
        have : ¬ d < st.loc.length := fun hh => hl ⟨rfl, hh⟩
        have h' : st.loc.getD d none = some o' := h
        rw [List.getD_eq_getElem?_getD, List.getElem?_eq_none (by omega)] at h'
        simp at h')
  refine ⟨_, I', ?_⟩
  rw [frep_eq (by rfl)]
  refine ⟨bump_lt _ _, fun o k1 k2 _ => ?_⟩
  have k1' : ({ st with hp := hp' }.mk_ d false ty sz xs).loc.getD d none = some o := k1
  rw [mk_loc] at k1'
  split at k1'
  · simp only [Option.some.injEq] at k1'; subst k1'
    rcases hO with ⟨rfl, rfl, rfl, A, rfl⟩ | ⟨b2, arr, rfl, h2, h3, h4, h5, h6, h7, h8, h9⟩
    · exact ⟨A, 0, rfl, by simp [setlb]⟩
    · exact ⟨_, c, h2, by simp [setlb]⟩
  · rename_i hl
    exfalso
    have : ¬ d < st.loc.length := fun hh => hl ⟨rfl, hh⟩
    have h' : st.loc.getD d none = some o := k1'
    rw [List.getD_eq_getElem?_getD, List.getElem?_eq_none (by omega)] at h'
    simp at h'
/-- Behind a call that has written a row of the frame's own. -/
theorem Inv.calledX (I : Inv w0 S0 hb0 xb st a w S hb lb) {e : Nat} {o : LObj} (he : st.loc.getD e none = some o) (hit : o.it = false) (hfz : o.frz = false) {hp' : List (List AV)} {q : Option Nat} {c : Nat} (hl : lb e = q.map fun b => (b, c)) (E : Eff w S hb q w' S' hb' hp') {out : List (List AV)} (hO : OutR w w' S' hb' q out) (hlen : out.length = o.xs.length) (hsz : ∀ x ∈ out, x.length = o.sz) :
    Inv w0 S0 hb0 xb { st with hp := hp', loc := st.loc.set e (some { o with xs := out }) } a w' S' hb' lb ∧ (nm st lb).le (nm { st with hp := hp', loc := st.loc.set e (some { o with xs := out }) } lb) := by
  have hqn : ∀ b, q = some b → lb e = some (b, c) := fun b h => by rw [hl, h]; rfl
  have hrep := I.locs e o he
  have hSq : ∀ b, q = some b → ¬ S b := fun b h hs => by
    obtain ⟨arr, h1, h2, h3, h4, h5, h6⟩ := hrep.rowsAt hit (N := nm st lb) (hqn b h)
    rw [hfz] at h6
    simp only [Bool.false_eq_true, if_false] at h6
    exact h6 hs
  have H : Stays w w' S S' hb hb' := ⟨E.sub, fun b h => E.block b (I.Slt b h) (fun hm => I.heap.out b hm h) (fun hq => hSq b hq h), E.hbx⟩
  refine I.step (st' := { st with hp := hp', loc := st.loc.set e (some { o with xs := out }) }) (lb' := lb) e H E.os E.tape E.output E.size (fun b h1 h2 h3 => ⟨E.block b h1 h2 (fun hq => h3 o c he (hqn b hq)), fun h => (E.new b h).resolve_right (by omega)⟩) E.lt E.hbn E.heap rfl (by simp) (fun _ => Nat.le_refl _)
    (fun k hk => ⟨by show (st.loc.set e _).getD k none = _; rw [List.getD_eq_getElem?_getD, List.getElem?_set, if_neg (Ne.symm hk), List.getD_eq_getElem?_getD], rfl⟩) (fun o' h => ?_)
  have h' : (st.loc.set e (some { o with xs := out })).getD e none = some o' := h
  rw [List.getD_eq_getElem?_getD, List.getElem?_set, if_pos rfl, if_pos (loc_lt he)] at h'
  simp only [Option.getD_some, Option.some.injEq] at h'; subst h'
  refine ⟨I.gens e o he, fun _ => ⟨o, he, rfl, rfl, hlen.symm, ⟨rfl, rfl⟩, rfl⟩, fun K => ?_, fun b c' h => .inr ⟨o, c', he, h⟩⟩
  cases q with
  | none =>
    have hl' : lb e = none := by rw [hl]; rfl
    unfold LRep at hrep ⊢
    simp only [hl'] at hrep ⊢
    exact ⟨List.eq_nil_of_length_eq_zero (by show out.length = 0; rw [hlen, hrep.1]; rfl), hit⟩
  | some b =>
    obtain ⟨arr0, arr, ty, sz, h0, h1, h2, h3, h4, h6⟩ := hO b rfl
    obtain ⟨arr1, g1, g2, g3, g4, g5, g6⟩ := hrep.rowsAt hit (N := nm st lb) (hqn b rfl)
    rw [h0] at g1
    simp only [Option.some.injEq, Obj.cells.injEq, and_true] at g1
    obtain ⟨rfl, rfl⟩ := g1
    have h7 : RowsC w' S' hb' o.sz out arr.toList := fun i x hx => by
      have hz := hsz x (List.mem_of_getElem? hx)
      obtain ⟨k1, k2⟩ := h6 i x hx
      rw [← k1, hz] at k2
      exact ⟨hz, k2⟩
    exact LRep.ofRows (b := b) (cap := c) hit (hqn b rfl) h1 (by rw [h2]; exact g2) (by show out.length ≤ c; rw [hlen]; exact g3) g4 (RowsC.at_ h7) (by rw [hfz]; simpa using h3)

/-- What an operation leads to. -/
def outOK (P : Program) (w0 : World) (S0 : Nat → Prop) (hb0 : List Nat) (xb : Option Nat) (o : Oper) (a : Act) (w : World) (out : Out) : Prop :=
  ∀ (next : Act → World → Prop) (Q : Exit → Act → World → Prop),
    (∀ v st', out = .val v st' → ∀ cv w' S' hb' lb', Inv w0 S0 hb0 xb st' a w' S' hb' lb' → frep w' S' hb' (nm st' lb') v cv → next (a.put o.dst cv) w') →
    (∀ v st', out = .pan v st' → ∀ cv w' S' hb' lb', Inv w0 S0 hb0 xb st' a w' S' hb' lb' → crep w' S' hb' v cv → Q (.panic [{ v := cv, recovered := false }]) a w') → o.wp P a w next Q
theorem VOK.out {o : Oper} {v : AV} (h : VOK P w0 S0 hb0 xb o a w v st') : outOK P w0 S0 hb0 xb o a w (.val v st') := fun next Q hn _ => by
  obtain ⟨cv, w', S', hb', lb', hr, I', hv⟩ := h
  have := hn v st' rfl cv w' S' hb' lb' I' hv
  unfold Oper.wp
  rcases hr with hr | ⟨hr, rfl⟩
  · rw [hr]; exact this
  · rw [hr]; exact this
theorem Calls_post {xf : Bool} {r : Res} {f : FuncId} {vs : Array Value} {q : Option Nat} (h : Calls P f vs w (Post xf w S hb q r)) {o : Oper} (he : (execOp a.eval o).run P w = .ok (.enter f vs) w) {next : Act → World → Prop} {Q : Exit → Act → World → Prop}
    (h1 : ∀ cv w', Post xf w S hb q r (.returned cv) w' → next (a.put o.dst cv) w') (h2 : ∀ chain w', Post xf w S hb q r (.panicked chain) w' → Q (.panic chain) a w') : o.wp P a w next Q := by
  unfold Oper.wp
  rw [he]
  show Calls P f vs w _
  refine Calls.mono h fun e w'' hp => ?_
  cases e with
  | returned v => exact h1 v w'' hp
  | panicked chain => exact h2 chain w'' hp
  | outgrown => exact hp.elim
theorem callV_ok {cf : Cfg} {C : Callee} (hC : COKat P cf C w0 S0 hb0 xb) (I : Inv w0 S0 hb0 xb st a w S hb lb) {o : Oper} {f : FuncId} {args : List AV} {vs : List Value} (hargs : frepL w S hb (nm st lb) args vs) {out : Out} (h : callV cf C st o.dst f args = some out)
    (he : (∃ fn c, P.funcs[f]? = some fn ∧ fn.body = some c ∧ (fn.name == "runtime.NumGoroutine") = false) → (execOp a.eval o).run P w = .ok (.enter f vs.toArray) w) : outOK P w0 S0 hb0 xb o a w out := by
  intro next Q hn hQ
  unfold callV at h
  split at h
  · rename_i hxf
    split at h
    · rename_i e g rest
      obtain ⟨u, us, rfl, hu, hus⟩ := hargs
      split at h
      · rename_i r hr
        obtain ⟨S1, I1, H1, K1, c1, c2, c3⟩ := giveA_ok I hus (ys := r.1) (st' := r.2) hr
        split at h
        · rename_i ob hob
          split at h
          · rename_i hcond
            obtain ⟨d1, d2, d3⟩ := hcond
            split at h
            · rename_i v out' hp' hCr
              split at h
              · rename_i hlen
                obtain ⟨hlen, hno, hsz⟩ := hlen
                simp only [Option.some.injEq] at h; subst h
                obtain ⟨e1, e2⟩ := lobj_some.1 hob
                have hu1 := frep_mono H1 K1 _ _ hu
                rw [frep_eq (by rfl)] at hu1
                obtain ⟨A, c, k1, k2⟩ := hu1.2 ob e1 e2 d2
                have hrep := I1.locs e ob e1
                have hO : ∃ q, lb e = q.map (fun b => (b, c)) ∧ ORow w S1 hb ob.ty ob.sz ob.xs u q c := by
                  cases hl : lb e with
                  | none =>
                    unfold LRep at hrep
                    simp only [hl] at hrep k2
                    subst k2
                    exact ⟨none, rfl, .inl ⟨rfl, hrep.1, rfl, A, by rw [k1, hrep.1]; rfl⟩⟩
                  | some bc =>
                    obtain ⟨b, cap⟩ := bc
                    simp only [hl] at k2
                    obtain ⟨rfl, rfl⟩ := k2
                    obtain ⟨arr, g1, g2, g3, g4, g5, g6⟩ := hrep.rowsAt d2 (N := nm r.2 lb) hl
                    rw [d1] at g6
                    exact ⟨some b, rfl, .inr ⟨b, arr, rfl, k1, g1, g2, g3, g4, by simpa using g6, I1.lbhb e ob b c e1 hl, g5.c d3⟩⟩
                obtain ⟨q, hl, hO⟩ := hO
                obtain ⟨hf, hcalls⟩ := hC.1 _ _ _ _ hCr
                have hcall := hcalls w S1 hb q (u :: us) (lay_now hC.2 I1) I1.heap I1.Slt (by unfold ArgsOK; rw [if_pos hxf]; exact ⟨_, _, _, _, _, _, _, rfl, rfl, hO, c1⟩)
                refine Calls_post hcall (he hf) (fun cv w' hp => ?_) (fun chain w' hp => ?_)
                · obtain ⟨v', out'', hp'', S2, hb2, e3, E, hv, hout⟩ := hp
                  simp only [Res.ret.injEq] at e3
                  obtain ⟨rfl, rfl, rfl⟩ := e3
                  obtain ⟨I2, K2⟩ := I1.calledX e1 d2 d1 hl E (hout hxf) hlen (fun x hx => by simpa using List.all_eq_true.1 hsz x hx)
                  refine hn _ _ rfl cv w' S2 hb2 lb I2 (crep_frep ?_)
                  cases v <;> first | exact hv | simp [isORow] at hno
                · obtain ⟨v', hp'', S2, hb2, cv, e3, _⟩ := hp
                  cases e3
              · cases h
            · cases h
          · cases h
        · cases h
      · cases h
    · cases h
  · rename_i hxf
    split at h
    · rename_i r hr
      obtain ⟨S1, I1, H1, K1, c1, c2, c3⟩ := giveA_ok I hargs (ys := r.1) (st' := r.2) hr
      have hA : ArgsOK (cf.xf f) w S1 hb none r.1 vs := by unfold ArgsOK; rw [if_neg hxf]; exact ⟨rfl, c1⟩
      split at h
      · rename_i ty sz xs out' hp' hCr
        obtain ⟨hf, hcalls⟩ := hC.1 _ _ _ _ hCr
        have hcall := hcalls w S1 hb none vs (lay_now hC.2 I1) I1.heap I1.Slt hA
        split at h
        · rename_i d hd
          simp only [Option.some.injEq] at h; subst h
          refine Calls_post hcall (he hf) (fun cv w' hp => ?_) (fun chain w' hp => ?_)
          · obtain ⟨v', out'', hp'', S2, hb2, e3, E, hv, hout⟩ := hp
            simp only [Res.ret.injEq] at e3
            obtain ⟨rfl, rfl, rfl⟩ := e3
            obtain ⟨q, c, hO, hq⟩ := hv
            obtain ⟨lb', I2, hv2⟩ := I1.calledRow E hO hq d
            exact hn _ _ rfl cv w' S2 hb2 lb' I2 hv2
          · obtain ⟨v', hp'', S2, hb2, cv, e3, _⟩ := hp
            cases e3
        · cases h
      · rename_i v out' hp' hno hCr
        obtain ⟨hf, hcalls⟩ := hC.1 _ _ _ _ hCr
        have hcall := hcalls w S1 hb none vs (lay_now hC.2 I1) I1.heap I1.Slt hA
        simp only [Option.some.injEq] at h; subst h
        refine Calls_post hcall (he hf) (fun cv w' hp => ?_) (fun chain w' hp => ?_)
        · obtain ⟨v', out'', hp'', S2, hb2, e3, E, hv, hout⟩ := hp
          simp only [Res.ret.injEq] at e3
          obtain ⟨rfl, rfl, rfl⟩ := e3
          obtain ⟨I2, K2⟩ := I1.called E
          refine hn _ _ rfl cv w' S2 hb2 lb I2 (crep_frep ?_)
          cases v <;> first | exact hv | exact (hno _ _ _ _ _ rfl).elim | exact (hno _ _ _ rfl).elim
        · obtain ⟨v', hp'', S2, hb2, cv, e3, _⟩ := hp
          cases e3
      · rename_i v hp' hCr
        obtain ⟨hf, hcalls⟩ := hC.1 _ _ _ _ hCr
        have hcall := hcalls w S1 hb none vs (lay_now hC.2 I1) I1.heap I1.Slt hA
        simp only [Option.some.injEq] at h; subst h
        refine Calls_post hcall (he hf) (fun cv w' hp => ?_) (fun chain w' hp => ?_)
        · obtain ⟨v', out'', hp'', S2, hb2, e3, _⟩ := hp
          cases e3
        · obtain ⟨v', hp'', S2, hb2, cv, e3, E, rfl, hv⟩ := hp
          simp only [Res.pan.injEq] at e3
          obtain ⟨rfl, rfl⟩ := e3
          obtain ⟨I2, K2⟩ := I1.called E
          exact hQ _ _ rfl cv w' S2 hb2 lb I2 hv
      · cases h
    · cases h
end
end Go.Ev
