/- The abstract interpreter: frames. What a frame's abstract state says of the machine's. -/
import Derived.Test.YtikedmiioonjiaaDoorEvB
import Derived.Laws.AppendOwn
import Derived.Tactics
set_option linter.unusedVariables false
set_option linter.unusedSimpArgs false
set_option linter.unusedSectionVars false
set_option linter.defProp false
namespace Go.Ev
open Go

/-- What a reference's meaning hangs on: the local objects, the generation, the blocks (with room for so many elements). -/
structure Nm where
  loc : Nat → Option LObj
  gen : Nat → Nat
  lb : Nat → Option (Nat × Nat)
/-- References of N mean the same in N'. -/
structure Nm.le (N N' : Nm) : Prop where
  gen : ∀ d, N.gen d ≤ N'.gen d
  loc : ∀ d o', N'.loc d = some o' → o'.g < N.gen d → ∃ o, N.loc d = some o ∧ o.g = o'.g ∧ o.sz = o'.sz ∧ o.xs.length = o'.xs.length ∧ (o.it = o'.it ∧ o.ty = o'.ty) ∧ N.lb d = N'.lb d
theorem Nm.le_refl (N : Nm) : N.le N := ⟨fun _ => Nat.le_refl _, fun _ o h _ => ⟨o, h, rfl, rfl, rfl, ⟨rfl, rfl⟩, rfl⟩⟩
theorem Nm.le_trans {N N1 N2 : Nm} (h : N.le N1) (k : N1.le N2) : N.le N2 :=
  ⟨fun d => Nat.le_trans (h.gen d) (k.gen d), fun d o' e hg => by
    obtain ⟨o1, a1, a2, a3, a4, a5, a6⟩ := k.loc d o' e (Nat.lt_of_lt_of_le hg (h.gen d))
    obtain ⟨o, b1, b2, b3, b4, b5, b6⟩ := h.loc d o1 a1 (by omega)
    exact ⟨o, b1, by omega, by omega, by omega, ⟨by rw [b5.1, a5.1], by rw [b5.2, a5.2]⟩, by rw [b6, a6]⟩⟩

/-- A cell's value in a frame. -/
def srep (w : World) (S : Nat → Prop) (hb : List Nat) (N : Nm) : AV → Value → Prop
  | .lrow d g, v => g < N.gen d ∧ ∀ o, N.loc d = some o → o.g = g → o.it = false → ∃ A c, v = .slice A o.xs.length c ∧ (match N.lb d with | none => c = 0 | some (b, cap) => A = some ⟨b, 0, none⟩ ∧ c = cap)
  | .lptr d g i off, v => g < N.gen d ∧ ∀ o, N.loc d = some o → o.g = g → ∃ b cap, N.lb d = some (b, cap) ∧ v = .pointer (some ⟨b, i * o.sz + off, none⟩)
  | .liter d g, v => g < N.gen d ∧ ∀ o, N.loc d = some o → o.g = g → ∃ b cap, N.lb d = some (b, cap) ∧ v = .pointer (some ⟨b, 0, none⟩)
  | .undef, _ => True
  | x, v => crep w S hb x v
def srepL (w : World) (S : Nat → Prop) (hb : List Nat) (N : Nm) : List AV → List Value → Prop
  | [], vs => vs = []
  | x :: xs, vs => ∃ u us, vs = u :: us ∧ (srep w S hb N x u ∧ isCell x = true ∧ u.oneCell' = true) ∧ srepL w S hb N xs us
/-- A slot's value. -/
def frep (w : World) (S : Nat → Prop) (hb : List Nat) (N : Nm) : AV → Value → Prop
  | .agg cs, v => ∃ a : Array Value, v = .agg a ∧ srepL w S hb N cs a.toList
  | x, v => srep w S hb N x v

def notAgg : AV → Bool
  | .agg _ => false
  | _ => true
section
variable {w w' : World} {S S' : Nat → Prop} {hb hb' : List Nat} {N N' : Nm}
theorem frep_eq {x : AV} (h : notAgg x = true) (v : Value) : frep w S hb N x v = srep w S hb N x v := by
  cases x <;> first | rfl | simp [notAgg] at h
theorem isCell_notAgg {x : AV} (h : isCell x = true) : notAgg x = true := by cases x <;> simp [isCell] at h <;> rfl
theorem clean1_isCell {x : AV} (h : clean1 x = true) : isCell x = true := by cases x <;> simp [clean1] at h <;> rfl
theorem srep_mono (H : Stays w w' S S' hb hb') (K : N.le N') (x : AV) (v : Value) (h : srep w S hb N x v) : srep w' S' hb' N' x v := by
  cases x
  case lrow d g =>
    refine ⟨Nat.lt_of_lt_of_le h.1 (K.gen _), fun o' e1 e2 e3 => ?_⟩
    obtain ⟨o, a1, a2, a3, a4, a5, a6⟩ := K.loc d o' e1 (by rw [e2]; exact h.1)
    obtain ⟨A, c, b1, b2⟩ := h.2 o a1 (by omega) (by rw [a5.1, e3])
    exact ⟨A, c, by rw [b1, a4], by rw [← a6]; exact b2⟩
  case lptr d g i off =>
    refine ⟨Nat.lt_of_lt_of_le h.1 (K.gen _), fun o' e1 e2 => ?_⟩
    obtain ⟨o, a1, a2, a3, a4, a5, a6⟩ := K.loc d o' e1 (by rw [e2]; exact h.1)
    obtain ⟨b, cap, b1, b2⟩ := h.2 o a1 (by omega)
    exact ⟨b, cap, by rw [← a6]; exact b1, by rw [b2, a3]⟩
  case liter d g =>
    refine ⟨Nat.lt_of_lt_of_le h.1 (K.gen _), fun o' e1 e2 => ?_⟩
    obtain ⟨o, a1, a2, a3, a4, a5, a6⟩ := K.loc d o' e1 (by rw [e2]; exact h.1)
    obtain ⟨b, cap, b1, b2⟩ := h.2 o a1 (by omega)
    exact ⟨b, cap, by rw [← a6]; exact b1, b2⟩
  case undef => trivial
  all_goals exact crep_mono H _ _ h
theorem srepL_mono (H : Stays w w' S S' hb hb') (K : N.le N') : ∀ (xs : List AV) (vs : List Value), srepL w S hb N xs vs → srepL w' S' hb' N' xs vs
  | [], _, h => h
  | x :: xs, _, ⟨u, us, e, h1, h2⟩ => ⟨u, us, e, ⟨srep_mono H K x u h1.1, h1.2⟩, srepL_mono H K xs us h2⟩
theorem frep_mono (H : Stays w w' S S' hb hb') (K : N.le N') (x : AV) (v : Value) (h : frep w S hb N x v) : frep w' S' hb' N' x v := by
  cases x
  case agg cs => obtain ⟨a, e, k⟩ := h; exact ⟨a, e, srepL_mono H K cs _ k⟩
  all_goals
    rw [frep_eq (by rfl)] at h ⊢
    exact srep_mono H K _ _ h
theorem srepL_len : ∀ {xs : List AV} {vs : List Value}, srepL w S hb N xs vs → vs.length = xs.length
  | [], _, h => by rw [h]; rfl
  | x :: xs, _, ⟨u, us, e, _, h2⟩ => by rw [e]; simp [srepL_len h2]
theorem srepL_get : ∀ {xs : List AV} {vs : List Value}, srepL w S hb N xs vs → ∀ (i : Nat) (x : AV), xs[i]? = some x → ∃ v, vs[i]? = some v ∧ srep w S hb N x v ∧ isCell x = true ∧ v.oneCell' = true
  | [], _, _, i, x, e => by simp at e
  | y :: ys, _, ⟨u, us, e1, h1, h2⟩, i, x, e => by
    subst e1
    cases i with
    | zero => simp at e; subst e; exact ⟨u, rfl, h1⟩
    | succ i => simp at e; simpa using srepL_get h2 i x e
theorem srepL_of : ∀ {xs : List AV} {vs : List Value}, vs.length = xs.length → (∀ (i : Nat) (x : AV) (v : Value), xs[i]? = some x → vs[i]? = some v → srep w S hb N x v ∧ isCell x = true ∧ v.oneCell' = true) → srepL w S hb N xs vs
  | [], [], _, _ => rfl
  | [], _ :: _, h, _ => by simp at h
  | _ :: _, [], h, _ => by simp at h
  | x :: xs, v :: vs, hl, h => ⟨v, vs, rfl, h 0 x v rfl rfl, srepL_of (by simpa using hl) fun i x v e1 e2 => h (i + 1) x v (by simpa using e1) (by simpa using e2)⟩
theorem srep_crep {x : AV} {v : Value} (hc : clean1 x = true) (h : srep w S hb N x v) : crep w S hb x v := by
  cases x <;> simp [clean1] at hc <;> exact h
theorem crep_srep {x : AV} {v : Value} (h : crep w S hb x v) : srep w S hb N x v := by
  cases x <;> first | exact h | simp [crep] at h | trivial
end

theorem crep_isCell {w : World} {S : Nat → Prop} {hb : List Nat} {y : AV} {u : Value} (h : crep w S hb y u) (h1 : u.oneCell' = true) : isCell y = true := by
  cases y
  case undef => simp [crep] at h
  case orow => simp [crep] at h
  case agg => rw [crep] at h; obtain ⟨a, rfl, _⟩ := h; simp [Value.oneCell'] at h1
  case tuple => rw [crep] at h; obtain ⟨a, rfl, _⟩ := h; simp [Value.oneCell'] at h1
  all_goals rfl
theorem srepL_of_crepL {w : World} {S : Nat → Prop} {hb : List Nat} {N : Nm} : ∀ {cs : List AV} {us : List Value}, crepL w S hb cs us → (∀ u ∈ us, u.oneCell' = true) → srepL w S hb N cs us
  | [], _, h, _ => by rw [crepL] at h; exact h
  | x :: xs, _, h, h1 => by
    rw [crepL] at h
    obtain ⟨u, us, rfl, e1, e2⟩ := h
    exact ⟨u, us, rfl, ⟨crep_srep e1, crep_isCell e1 (h1 u (by simp)), h1 u (by simp)⟩, srepL_of_crepL e2 fun q hq => h1 q (by simp [hq])⟩
theorem crep_frep {w : World} {S : Nat → Prop} {hb : List Nat} {N : Nm} {x : AV} {v : Value} (h : crep w S hb x v) : frep w S hb N x v := by
  by_cases hn : notAgg x = true
  · rw [frep_eq hn]; exact crep_srep h
  · cases x <;> simp [notAgg] at hn
    rw [crep] at h
    obtain ⟨b, k1, k2, k3⟩ := h
    exact ⟨b, k1, srepL_of_crepL k2 k3⟩
theorem crepL_of_srepL {w : World} {S : Nat → Prop} {hb : List Nat} {N : Nm} : ∀ {cs : List AV} {us : List Value}, (∀ c ∈ cs, clean1 c = true) → srepL w S hb N cs us → crepL w S hb cs us ∧ ∀ u ∈ us, u.oneCell' = true
  | [], _, _, h => by rw [crepL]; cases h; exact ⟨rfl, by simp⟩
  | x :: xs, _, hc, ⟨u, us, e, h1, h2⟩ => by
    subst e
    obtain ⟨k1, k2⟩ := crepL_of_srepL (fun c hcc => hc c (by simp [hcc])) h2
    refine ⟨?_, ?_⟩
    · rw [crepL]; exact ⟨u, us, rfl, srep_crep (hc x (by simp)) h1.1, k1⟩
    · intro q hq
      rcases List.mem_cons.1 hq with rfl | hq
      · exact h1.2.2
      · exact k2 q hq

/-- The block of a local object. -/
def LRep (w : World) (S : Nat → Prop) (hb : List Nat) (N : Nm) (d : Nat) (o : LObj) : Prop :=
  match N.lb d with
  | none => o.xs = [] ∧ o.it = false
  | some (b, cap) =>
    if o.it then ∃ s p, o.xs = [[.str s, .int .i64 p]] ∧ 0 ≤ p ∧ w.heap[b]? = some (.stringIter s p.toNat) ∧ ¬ S b
    else ∃ arr : Array Value, w.heap[b]? = some (.cells arr o.ty (0, 0)) ∧ arr.size = cap * o.sz ∧ o.xs.length ≤ cap ∧ cap ≤ maxLen ∧
      (∀ i x, o.xs[i]? = some x → x.length = o.sz ∧ ∀ j y, x[j]? = some y → ∃ v, arr[i * o.sz + j]? = some v ∧ v.oneCell' = true ∧ isCell y = true ∧ srep w S hb N y v ∧ (o.frz = true → crep w S hb y v)) ∧
      (if o.frz then S b else ¬ S b)

/-- The heap objects. -/
structure HRep (w : World) (S : Nat → Prop) (hb : List Nat) (hp : List (List AV)) : Prop where
  len : hb.length = hp.length
  nodup : hb.Nodup
  out : ∀ b ∈ hb, ¬ S b
  cells : ∀ (id b : Nat) (x : List AV), hb[id]? = some b → hp[id]? = some x → ∃ (arr : Array Value) (ty : TypeId), w.heap[b]? = some (Obj.cells arr ty (0, 0)) ∧ arr.size = x.length ∧ ∀ (j : Nat) (y : AV), x[j]? = some y → ∃ v, arr[j]? = some v ∧ v.oneCell' = true ∧ crep w S hb y v

/-- From the call's begin: w0, its S0 and hb0; xb: the block that was handed over. -/
structure Inv (w0 : World) (S0 : Nat → Prop) (hb0 : List Nat) (xb : Option Nat) (st : St) (a : Act) (w : World) (S : Nat → Prop) (hb : List Nat) (lb : Nat → Option (Nat × Nat)) : Prop where
  os : w.os = w0.os
  tape : w.tape = w0.tape
  output : w.output = w0.output
  size : w0.heap.size ≤ w.heap.size
  block : ∀ b, b < w0.heap.size → b ∉ hb0 → xb ≠ some b → w.heap[b]? = w0.heap[b]?
  S0S : ∀ b, S0 b → S b
  Snew : ∀ b, S b → S0 b ∨ w0.heap.size ≤ b ∨ xb = some b
  Slt : ∀ b, S b → b < w.heap.size
  hb0hb : ∀ (i b : Nat), hb0[i]? = some b → hb[i]? = some b
  hbnew : ∀ b ∈ hb, b ∈ hb0 ∨ w0.heap.size ≤ b
  lbnew : ∀ d o b c, st.loc.getD d none = some o → lb d = some (b, c) → w0.heap.size ≤ b ∨ xb = some b
  lbhb : ∀ d o b c, st.loc.getD d none = some o → lb d = some (b, c) → b ∉ hb
  lbne : ∀ d d' o o' b c c', st.loc.getD d none = some o → st.loc.getD d' none = some o' → lb d = some (b, c) → lb d' = some (b, c') → d = d'
  gens : ∀ d o, st.loc.getD d none = some o → o.g < st.gen d
  locs : ∀ d o, st.loc.getD d none = some o → LRep w S hb ⟨fun d => st.loc.getD d none, st.gen, lb⟩ d o
  heap : HRep w S hb st.hp
  frlen : a.tmps.size = st.fr.length
  loclen : st.loc.length = st.fr.length
  frame : ∀ (i : Nat) (x : AV), st.fr[i]? = some x → ∃ v : Value, a.tmps[i]? = some v ∧ frep w S hb ⟨fun d => st.loc.getD d none, st.gen, lb⟩ x v
  defers : a.defers = []
  x0 : ∀ b, xb = some b → 0 < st.gen 0 ∧ ∃ (arr0 : Array Value) (ty : TypeId), w0.heap[b]? = some (.cells arr0 ty (0, 0)) ∧ ∀ o, st.loc.getD 0 none = some o → o.g = 0 → o.ty = ty ∧ ∃ c, lb 0 = some (b, c) ∧ c * o.sz = arr0.size
abbrev nm (st : St) (lb : Nat → Option (Nat × Nat)) : Nm := ⟨fun d => st.loc.getD d none, st.gen, lb⟩

theorem bump_lt (gen : Nat → Nat) (d : Nat) : gen d < bump gen d d := by simp [bump]
theorem bump_le (gen : Nat → Nat) (d e : Nat) : gen e ≤ bump gen d e := by unfold bump; split <;> omega
theorem lobj_some {st : St} {d g : Nat} {o : LObj} : st.lobj d g = some o ↔ st.loc.getD d none = some o ∧ o.g = g := by
  unfold St.lobj
  cases h : st.loc.getD d none with
  | none => simp
  | some q =>
    by_cases e : q.g = g
    · simp only [e, if_true, Option.some.injEq]
      exact ⟨fun k => ⟨k, by rw [← k]; exact e⟩, fun k => k.1⟩
    · simp only [e, if_false, Option.some.injEq, reduceCtorEq, false_iff]
      rintro ⟨k1, k2⟩
      rw [k1] at e
      exact e k2
/-- What may be stored is one cell. -/
theorem ok_one {st : St} {lb : Nat → Option (Nat × Nat)} {w : World} {S : Nat → Prop} {hb : List Nat} {x : AV} {v : Value} (h : okCells st x = true) (hx : notAgg x = true) (hr : srep w S hb (nm st lb) x v) : v.oneCell' = true ∧ isCell x = true := by
  cases x <;> simp [notAgg] at hx
  case lrow d g =>
    simp only [okCells] at h
    split at h
    · rename_i o e
      obtain ⟨e1, e2⟩ := lobj_some.1 e
      obtain ⟨A, c, rfl, _⟩ := hr.2 o e1 e2 (by simpa using h)
      exact ⟨rfl, rfl⟩
    · cases h
  all_goals first
    | (simp [okCells, clean1] at h; done)
    | exact ⟨clean1_one (x := _) (by simpa [okCells] using h) (srep_crep (by simpa [okCells] using h) hr), rfl⟩
theorem srepL_cells {st : St} {lb : Nat → Option (Nat × Nat)} {w : World} {S : Nat → Prop} {hb : List Nat} {x : AV} {v : Value} (h : okCells st x = true) (hr : frep w S hb (nm st lb) x v) : srepL w S hb (nm st lb) (cellsOf x) v.cells.toList := by
  by_cases hx : notAgg x = true
  · rw [frep_eq hx] at hr
    obtain ⟨h1, h2⟩ := ok_one h hx hr
    have e1 : cellsOf x = [x] := by cases x <;> first | rfl | simp [notAgg] at hx
    have e2 : v.cells = #[v] := by cases v <;> first | rfl | simp [Value.oneCell'] at h1
    rw [e1, e2]
    exact ⟨v, [], rfl, ⟨hr, h2, h1⟩, rfl⟩
  · cases x <;> simp [notAgg] at hx
    obtain ⟨a, rfl, k⟩ := hr
    exact k

section
variable {w w' : World} {S S' : Nat → Prop} {hb hb' : List Nat} {N N' : Nm}
theorem LRep_mono {d : Nat} {o : LObj} (H : Stays w w' S S' hb hb') (K : N.le N') (hlb : N'.lb d = N.lb d) (hsame : ∀ b c, N.lb d = some (b, c) → w'.heap[b]? = w.heap[b]?) (hS : ∀ b c, N.lb d = some (b, c) → ¬ S b → ¬ S' b) (h : LRep w S hb N d o) : LRep w' S' hb' N' d o := by
  unfold LRep at *
  rw [hlb]
  cases e : N.lb d with
  | none => rw [e] at h; exact h
  | some q =>
    obtain ⟨b, cap⟩ := q
    rw [e] at h
    simp only at h ⊢
    by_cases hit : o.it = true
    · rw [if_pos hit] at h ⊢
      obtain ⟨s, p, h1, h2, h3, h4⟩ := h
      exact ⟨s, p, h1, h2, by rw [hsame b cap e]; exact h3, hS b cap e h4⟩
    · rw [if_neg hit] at h ⊢
      obtain ⟨arr, h1, h2, h3, h4, h5, h6⟩ := h
      refine ⟨arr, by rw [hsame b cap e]; exact h1, h2, h3, h4, fun i x hx => ?_, ?_⟩
      · obtain ⟨g1, g2⟩ := h5 i x hx
        refine ⟨g1, fun j y hy => ?_⟩
        obtain ⟨v, k1, k2, k3, k4, k5⟩ := g2 j y hy
        exact ⟨v, k1, k2, k3, srep_mono H K y v k4, fun hf => crep_mono H y v (k5 hf)⟩
      · by_cases hf : o.frz = true
        · rw [if_pos hf] at h6 ⊢; exact H.sub b h6
        · rw [if_neg hf] at h6 ⊢; exact hS b cap e h6
theorem HRep_mono {hp : List (List AV)} (H : Stays w w' S S' hb hb) (hsame : ∀ b ∈ hb, w'.heap[b]? = w.heap[b]?) (hS : ∀ b ∈ hb, ¬ S' b) (h : HRep w S hb hp) : HRep w' S' hb hp :=
  ⟨h.len, h.nodup, hS, fun id b x e1 e2 => by
    obtain ⟨arr, ty, k1, k2, k3⟩ := h.cells id b x e1 e2
    refine ⟨arr, ty, by rw [hsame b (List.mem_of_getElem? e1)]; exact k1, k2, fun j y hy => ?_⟩
    obtain ⟨v, g1, g2, g3⟩ := k3 j y hy
    exact ⟨v, g1, g2, crep_mono H y v g3⟩⟩
end

section
variable {w0 : World} {S0 : Nat → Prop} {hb0 : List Nat} {xb : Option Nat} {st : St} {a : Act} {w : World} {S : Nat → Prop} {hb : List Nat} {lb : Nat → Option (Nat × Nat)}
/-- A value into a slot. -/
theorem Inv.put (h : Inv w0 S0 hb0 xb st a w S hb lb) (dst : Option Tmp) {x : AV} {v : Value} (hx : frep w S hb (nm st lb) x v) : Inv w0 S0 hb0 xb (put st dst x) (a.put dst v) w S hb lb := by
  cases dst with
  | none => exact h
  | some d =>
    refine { h with frlen := ?_, loclen := ?_, frame := ?_, defers := h.defers }
    · simp [Ev.put, Act.put, h.frlen]
    · simp [Ev.put, h.loclen]
    · intro i y hy
      simp only [Ev.put, List.getElem?_set] at hy
      simp only [Act.put, Array.getElem?_setIfInBounds]
      by_cases e : d = i
      · subst e
        simp only [if_true] at hy ⊢
        split at hy
        · rename_i hl
          simp only [Option.some.injEq] at hy
          subst hy
          rw [if_pos (by rw [h.frlen]; exact hl)]
          exact ⟨v, rfl, hx⟩
        · cases hy
      · rw [if_neg e] at hy ⊢
        exact h.frame i y hy
theorem Inv.slot (h : Inv w0 S0 hb0 xb st a w S hb lb) (t : Tmp) : frep w S hb (nm st lb) (st.fr.getD t .undef) (a.tmps.getD t undef) := by
  rw [List.getD_eq_getElem?_getD, Array.getD_eq_getD_getElem?]
  cases e : st.fr[t]? with
  | none => simp only [Option.getD_none]; trivial
  | some x =>
    obtain ⟨v, e1, e2⟩ := h.frame t x e
    rw [e1]
    exact e2
/-- Only draws. -/
theorem Inv.same (h : Inv w0 S0 hb0 xb st a w S hb lb) {w' : World} (e1 : w'.heap = w.heap) (e2 : w'.os = w.os) (e3 : w'.tape = w.tape) (e4 : w'.output = w.output) : Inv w0 S0 hb0 xb st a w' S hb lb := by
  have H : Stays w w' S S hb hb := ⟨fun _ k => k, fun b _ => by rw [e1], fun _ _ k => k⟩
  exact {
    os := e2.trans h.os, tape := e3.trans h.tape, output := e4.trans h.output, size := by rw [e1]; exact h.size, block := fun b k1 k2 k3 => by rw [e1]; exact h.block b k1 k2 k3,
    S0S := h.S0S, Snew := h.Snew, Slt := fun b k => by rw [e1]; exact h.Slt b k, hb0hb := h.hb0hb, hbnew := h.hbnew, lbnew := h.lbnew, lbhb := h.lbhb, lbne := h.lbne, gens := h.gens,
    locs := fun d o k => LRep_mono H (Nm.le_refl _) rfl (fun b c _ => by rw [e1]) (fun _ _ _ k => k) (h.locs d o k),
    heap := HRep_mono H (fun b _ => by rw [e1]) h.heap.out h.heap, frlen := h.frlen, loclen := h.loclen,
    frame := fun i x k => by obtain ⟨v, k1, k2⟩ := h.frame i x k; exact ⟨v, k1, frep_mono H (Nm.le_refl _) x v k2⟩, defers := h.defers, x0 := h.x0 }
theorem crep_const {v : Value} {x : AV} (e : ofConst v = some x) : crep w S hb x v := by
  unfold ofConst at e
  split at e <;> simp only [Option.some.injEq, reduceCtorEq] at e
  all_goals subst e
  all_goals simp [crep]
theorem ofConst_notAgg {v : Value} {x : AV} (e : ofConst v = some x) : notAgg x = true ∧ clean1 x = true ∧ v.oneCell' = true := by
  unfold ofConst at e
  split at e <;> simp only [Option.some.injEq, reduceCtorEq] at e
  all_goals subst e
  all_goals exact ⟨rfl, rfl, rfl⟩
theorem Inv.opnd (h : Inv w0 S0 hb0 xb st a w S hb lb) {x : Operand} {v : AV} (e : opnd st x = some v) : frep w S hb (nm st lb) v (a.eval x) := by
  cases x with
  | tmp t => simp only [Ev.opnd, Option.some.injEq] at e; subst e; exact h.slot t
  | const c =>
    simp only [Ev.opnd] at e
    rw [frep_eq (ofConst_notAgg e).1]
    exact crep_srep (crep_const e)
  | global g => simp [Ev.opnd] at e
  | func f =>
    simp only [Ev.opnd, Option.some.injEq] at e
    subst e
    show crep w S hb _ _
    rw [crep]
    exact ⟨#[], #[], rfl, by simp [crepL], by simp [crepL]⟩
end
end Go.Ev
