/- The abstract interpreter: what an abstract value says of a value in memory, and that it lasts. -/
import Derived.Test.YtikedmiioonjiaaDoorEvA
import Derived.Below
import Derived.Laws.Sem
set_option linter.unusedVariables false
set_option linter.unusedSimpArgs false
set_option linter.unusedSectionVars false
set_option linter.defProp false
namespace Go.Ev
open Go

/-! ### Values out of the frame: S: blocks that nobody writes any more; hb: the heap objects' blocks -/
mutual
def crep (w : World) (S : Nat → Prop) (hb : List Nat) : AV → Value → Prop
  | .int k n, v => v = .int k n
  | .bool b, v => v = .bool b
  | .str s, v => v = .string s
  | .rows full xs, v => ∃ (A : Option Addr) (c : Nat), v = .slice A xs.length c ∧ xs.length ≤ c ∧ (full = true → c = xs.length) ∧
      (xs ≠ [] → ∃ b o sz, A = some ⟨b, o, none⟩ ∧ S b ∧ crepR w S hb sz b xs o)
  | .eptr cs, v => ∃ b o, v = .pointer (some ⟨b, o, none⟩) ∧ S b ∧ crepAt w S hb b cs o
  | .ptr id off, v => ∃ b, hb[id]? = some b ∧ v = .pointer (some ⟨b, off, none⟩)
  | .nilptr, v => v = .pointer none
  | .func fn first cap, v => ∃ (f c : Array Value), v = .func fn f c ∧ crepL w S hb first f.toList ∧ crepL w S hb cap c.toList
  | .nilFunc, v => v = .nilFunc
  | .iface t x, v => ∃ y, v = .iface t y ∧ crep w S hb x y
  | .nilIface, v => v = .nilIface
  | .agg cs, v => ∃ (a : Array Value), v = .agg a ∧ crepL w S hb cs a.toList ∧ ∀ u ∈ a.toList, u.oneCell' = true
  | .tuple vs, v => ∃ (a : Array Value), v = .tuple a ∧ crepL w S hb vs a.toList
  | _, _ => False
def crepL (w : World) (S : Nat → Prop) (hb : List Nat) : List AV → List Value → Prop
  | [], vs => vs = []
  | x :: xs, vs => ∃ u us, vs = u :: us ∧ crep w S hb x u ∧ crepL w S hb xs us
/-- Cells in block b from o on. -/
def crepAt (w : World) (S : Nat → Prop) (hb : List Nat) (b : Nat) : List AV → Nat → Prop
  | [], _ => True
  | x :: xs, o => (∃ v, w.cell? ⟨b, o, none⟩ = some v ∧ v.oneCell' = true ∧ crep w S hb x v) ∧ crepAt w S hb b xs (o + 1)
/-- Elements of sz cells in block b from o on. -/
def crepR (w : World) (S : Nat → Prop) (hb : List Nat) (sz b : Nat) : List (List AV) → Nat → Prop
  | [], _ => True
  | x :: xs, o => x.length = sz ∧ crepAt w S hb b x o ∧ crepR w S hb sz b xs (o + sz)
end

/-- What stays: S's blocks and the heap objects' places. -/
structure Stays (w w' : World) (S S' : Nat → Prop) (hb hb' : List Nat) : Prop where
  sub : ∀ b, S b → S' b
  same : ∀ b, S b → w'.heap[b]? = w.heap[b]?
  hb : ∀ (i b : Nat), hb[i]? = some b → hb'[i]? = some b
theorem Stays.refl (w S hb) : Stays w w S S hb hb := ⟨fun _ h => h, fun _ _ => rfl, fun _ _ h => h⟩
theorem Stays.trans {w w1 w2 : World} {S S1 S2 : Nat → Prop} {hb hb1 hb2 : List Nat} (h : Stays w w1 S S1 hb hb1) (k : Stays w1 w2 S1 S2 hb1 hb2) : Stays w w2 S S2 hb hb2 :=
  ⟨fun b x => k.sub b (h.sub b x), fun b x => (k.same b (h.sub b x)).trans (h.same b x), fun i b x => k.hb i b (h.hb i b x)⟩

theorem cell_same {w w' : World} {b : Nat} (h : w'.heap[b]? = w.heap[b]?) (o : Nat) : w'.cell? ⟨b, o, none⟩ = w.cell? ⟨b, o, none⟩ := by
  simp only [World.cell?, h]

mutual
theorem crep_mono {w w' : World} {S S' : Nat → Prop} {hb hb' : List Nat} (H : Stays w w' S S' hb hb') : ∀ (x : AV) (v : Value), crep w S hb x v → crep w' S' hb' x v
  | .int _ _, _, h => by rw [crep] at *; exact h
  | .bool _, _, h => by rw [crep] at *; exact h
  | .str _, _, h => by rw [crep] at *; exact h
  | .rows full xs, v, h => by
    rw [crep] at *
    obtain ⟨A, c, e1, e2, e3, e4⟩ := h
    refine ⟨A, c, e1, e2, e3, fun hne => ?_⟩
    obtain ⟨b, o, sz, e5, e6, e7⟩ := e4 hne
    exact ⟨b, o, sz, e5, H.sub b e6, crepR_mono H sz b e6 xs o e7⟩
  | .eptr cs, v, h => by
    rw [crep] at *
    obtain ⟨b, o, e1, e2, e3⟩ := h
    exact ⟨b, o, e1, H.sub b e2, crepAt_mono H b e2 cs o e3⟩
  | .ptr id off, v, h => by
    rw [crep] at *
    obtain ⟨b, e1, e2⟩ := h
    exact ⟨b, H.hb _ _ e1, e2⟩
  | .nilptr, _, h => by rw [crep] at *; exact h
  | .func fn first cap, v, h => by
    rw [crep] at *
    obtain ⟨f, c, e1, e2, e3⟩ := h
    exact ⟨f, c, e1, crepL_mono H first _ e2, crepL_mono H cap _ e3⟩
  | .nilFunc, _, h => by rw [crep] at *; exact h
  | .iface t x, v, h => by
    rw [crep] at *
    obtain ⟨y, e1, e2⟩ := h
    exact ⟨y, e1, crep_mono H x y e2⟩
  | .nilIface, _, h => by rw [crep] at *; exact h
  | .agg cs, v, h => by
    rw [crep] at *
    obtain ⟨a, e1, e2, e3⟩ := h
    exact ⟨a, e1, crepL_mono H cs _ e2, e3⟩
  | .tuple vs, v, h => by
    rw [crep] at *
    obtain ⟨a, e1, e2⟩ := h
    exact ⟨a, e1, crepL_mono H vs _ e2⟩
  | .orow _ _ _, _, h => by simp [crep] at h
  | .lrow _ _, _, h => by simp [crep] at h
  | .lptr _ _ _ _, _, h => by simp [crep] at h
  | .liter _ _, _, h => by simp [crep] at h
  | .undef, _, h => by simp [crep] at h
theorem crepL_mono {w w' : World} {S S' : Nat → Prop} {hb hb' : List Nat} (H : Stays w w' S S' hb hb') : ∀ (xs : List AV) (vs : List Value), crepL w S hb xs vs → crepL w' S' hb' xs vs
  | [], _, h => by rw [crepL] at *; exact h
  | x :: xs, vs, h => by
    rw [crepL] at *
    obtain ⟨u, us, e1, e2, e3⟩ := h
    exact ⟨u, us, e1, crep_mono H x u e2, crepL_mono H xs us e3⟩
theorem crepAt_mono {w w' : World} {S S' : Nat → Prop} {hb hb' : List Nat} (H : Stays w w' S S' hb hb') (b : Nat) (hS : S b) : ∀ (xs : List AV) (o : Nat), crepAt w S hb b xs o → crepAt w' S' hb' b xs o
  | [], _, _ => by rw [crepAt]; trivial
  | x :: xs, o, h => by
    rw [crepAt] at *
    obtain ⟨⟨v, e1, e2, e3⟩, e4⟩ := h
    exact ⟨⟨v, by rw [cell_same (H.same b hS)]; exact e1, e2, crep_mono H x v e3⟩, crepAt_mono H b hS xs (o + 1) e4⟩
theorem crepR_mono {w w' : World} {S S' : Nat → Prop} {hb hb' : List Nat} (H : Stays w w' S S' hb hb') (sz b : Nat) (hS : S b) : ∀ (xs : List (List AV)) (o : Nat), crepR w S hb sz b xs o → crepR w' S' hb' sz b xs o
  | [], _, _ => by rw [crepR]; trivial
  | x :: xs, o, h => by
    rw [crepR] at *
    exact ⟨h.1, crepAt_mono H b hS x o h.2.1, crepR_mono H sz b hS xs (o + sz) h.2.2⟩
end

/-! ### Lists of cells -/
section
variable {w : World} {S : Nat → Prop} {hb : List Nat}
theorem crepL_len : ∀ {xs : List AV} {vs : List Value}, crepL w S hb xs vs → vs.length = xs.length
  | [], _, h => by rw [crepL] at h; rw [h]; rfl
  | x :: xs, _, h => by
    rw [crepL] at h
    obtain ⟨u, us, rfl, _, e⟩ := h
    simp [crepL_len e]
theorem crepL_get : ∀ {xs : List AV} {vs : List Value}, crepL w S hb xs vs → ∀ (i : Nat) (x : AV), xs[i]? = some x → ∃ v, vs[i]? = some v ∧ crep w S hb x v
  | [], _, _, i, x, e => by simp at e
  | y :: ys, _, h, i, x, e => by
    rw [crepL] at h
    obtain ⟨u, us, rfl, h1, h2⟩ := h
    cases i with
    | zero => simp at e; subst e; exact ⟨u, rfl, h1⟩
    | succ i => simp at e; simpa using crepL_get h2 i x e
theorem crepL_append : ∀ {xs ys : List AV} {vs us : List Value}, crepL w S hb xs vs → crepL w S hb ys us → crepL w S hb (xs ++ ys) (vs ++ us)
  | [], _, _, _, h, k => by rw [crepL] at h; subst h; simpa using k
  | x :: xs, _, _, _, h, k => by
    rw [crepL] at h
    obtain ⟨u, us, rfl, h1, h2⟩ := h
    rw [List.cons_append, List.cons_append, crepL]
    exact ⟨u, _, rfl, h1, crepL_append h2 k⟩
theorem crepAt_get : ∀ {b : Nat} {xs : List AV} {o : Nat}, crepAt w S hb b xs o → ∀ (i : Nat) (x : AV), xs[i]? = some x → ∃ v, w.cell? ⟨b, o + i, none⟩ = some v ∧ v.oneCell' = true ∧ crep w S hb x v
  | _, [], _, _, i, x, e => by simp at e
  | b, y :: ys, o, h, i, x, e => by
    rw [crepAt] at h
    cases i with
    | zero => simp at e; subst e; exact h.1
    | succ i =>
      simp at e
      obtain ⟨v, h1, h2⟩ := crepAt_get h.2 i x e
      exact ⟨v, by rw [show o + (i + 1) = o + 1 + i by omega]; exact h1, h2⟩
theorem crepAt_of : ∀ {b : Nat} {xs : List AV} {o : Nat}, (∀ (i : Nat) (x : AV), xs[i]? = some x → ∃ v, w.cell? ⟨b, o + i, none⟩ = some v ∧ v.oneCell' = true ∧ crep w S hb x v) → crepAt w S hb b xs o
  | _, [], _, _ => by rw [crepAt]; trivial
  | b, y :: ys, o, h => by
    rw [crepAt]
    refine ⟨h 0 y rfl, crepAt_of fun i x e => ?_⟩
    obtain ⟨v, h1, h2⟩ := h (i + 1) x (by simpa using e)
    exact ⟨v, by rw [show o + 1 + i = o + (i + 1) by omega]; exact h1, h2⟩
theorem crepAt_drop {b : Nat} {xs : List AV} {o : Nat} (h : crepAt w S hb b xs o) (k : Nat) : crepAt w S hb b (xs.drop k) (o + k) :=
  crepAt_of fun i x e => by
    rw [List.getElem?_drop] at e
    rw [Nat.add_assoc]
    exact crepAt_get h (k + i) x e
theorem crepR_len : ∀ {sz b : Nat} {xs : List (List AV)} {o : Nat}, crepR w S hb sz b xs o → ∀ x ∈ xs, x.length = sz
  | _, _, [], _, _, x, e => by simp at e
  | sz, b, y :: ys, o, h, x, e => by
    rw [crepR] at h
    rcases List.mem_cons.1 e with rfl | e
    · exact h.1
    · exact crepR_len h.2.2 x e
theorem crepR_get : ∀ {sz b : Nat} {xs : List (List AV)} {o : Nat}, crepR w S hb sz b xs o → ∀ (i : Nat) (x : List AV), xs[i]? = some x → crepAt w S hb b x (o + i * sz)
  | _, _, [], _, _, i, x, e => by simp at e
  | sz, b, y :: ys, o, h, i, x, e => by
    rw [crepR] at h
    cases i with
    | zero => simp at e; subst e; simpa using h.2.1
    | succ i =>
      simp at e
      have := crepR_get h.2.2 i x e
      rwa [show o + (i + 1) * sz = o + sz + i * sz by rw [Nat.succ_mul]; omega]
theorem crepR_of : ∀ {sz b : Nat} {xs : List (List AV)} {o : Nat}, (∀ (i : Nat) (x : List AV), xs[i]? = some x → x.length = sz ∧ crepAt w S hb b x (o + i * sz)) → crepR w S hb sz b xs o
  | _, _, [], _, _ => by rw [crepR]; trivial
  | sz, b, y :: ys, o, h => by
    rw [crepR]
    refine ⟨(h 0 y rfl).1, by simpa using (h 0 y rfl).2, crepR_of fun i x e => ?_⟩
    have := h (i + 1) x (by simpa using e)
    exact ⟨this.1, by rw [show o + sz + i * sz = o + (i + 1) * sz by rw [Nat.succ_mul]; omega]; exact this.2⟩
theorem crepR_cut {sz b : Nat} {xs : List (List AV)} {o : Nat} (h : crepR w S hb sz b xs o) (l m : Nat) : crepR w S hb sz b ((xs.take m).drop l) (o + l * sz) :=
  crepR_of fun i x e => by
    rw [List.getElem?_drop] at e
    have e' : xs[l + i]? = some x := by
      rw [List.getElem?_take] at e
      split at e
      · exact e
      · simp at e
    refine ⟨crepR_len h x (List.mem_of_getElem? e'), ?_⟩
    have := crepR_get h (l + i) x e'
    rwa [Nat.add_mul, ← Nat.add_assoc] at this
end
/-- A cell's value out of the frame is one cell. -/
theorem clean1_one {w : World} {S : Nat → Prop} {hb : List Nat} {x : AV} {v : Value} (hc : clean1 x = true) (h : crep w S hb x v) : v.oneCell' = true := by
  cases x <;> simp [clean1] at hc <;> simp only [crep] at h
  all_goals first
    | (subst h; rfl)
    | (obtain ⟨_, _, rfl, _⟩ := h; rfl)
    | (obtain ⟨_, _, rfl⟩ := h; rfl)
    | (obtain ⟨_, rfl, _⟩ := h; rfl)
end Go.Ev
