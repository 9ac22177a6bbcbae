/- The abstract interpreter: addresses, cuts, lengths, structs. -/
import Derived.Test.YtikedmiioonjiaaDoorEvE
set_option linter.unusedVariables false
set_option linter.unusedSimpArgs false
set_option linter.unusedSectionVars false
set_option linter.defProp false
namespace Go.Ev
open Go
section
variable {P : Program} {w0 : World} {S0 : Nat → Prop} {hb0 : List Nat} {xb : Option Nat} {st st' : St} {a : Act} {w : World} {S : Nat → Prop} {hb : List Nat} {lb : Nat → Option (Nat × Nat)} {N : Nm}

/-- A pointer's value: where it leads. -/
def atAddr (st : St) (hb : List Nat) (lb : Nat → Option (Nat × Nat)) (S : Nat → Prop) (w : World) : AV → Nat → Nat → Prop
  | .eptr cs, b, o => S b ∧ crepAt w S hb b cs o
  | .lptr d g i off, b, o => ∃ q cap, st.lobj d g = some q ∧ lb d = some (b, cap) ∧ o = i * q.sz + off
  | .ptr id off, b, o => hb[id]? = some b ∧ o = off
  | _, _, _ => False
theorem atAddr_frep {p : AV} {b o : Nat} (I : Inv w0 S0 hb0 xb st a w S hb lb) (h : atAddr st hb lb S w p b o) : frep w S hb (nm st lb) p (.pointer (some ⟨b, o, none⟩)) := by
  cases p <;> simp only [atAddr] at h
  case eptr cs => exact crep_frep (by rw [crep]; exact ⟨b, o, rfl, h.1, h.2⟩)
  case ptr id off => exact crep_frep (by rw [crep]; exact ⟨b, h.1, by rw [h.2]⟩)
  case lptr d g i off =>
    obtain ⟨q, cap, e1, e2, e3⟩ := h
    obtain ⟨k1, k2⟩ := lobj_some.1 e1
    rw [frep_eq (by rfl)]
    refine ⟨by rw [← k2]; exact I.gens d q k1, fun o' j1 j2 => ?_⟩
    have : q = o' := Option.some.inj (k1.symm.trans j1)
    subst this
    exact ⟨b, cap, e2, by rw [e3]⟩
def ptrOK (st : St) : AV → Prop
  | .eptr _ => True
  | .ptr _ _ => True
  | .lptr d g _ _ => (st.lobj d g).isSome = true
  | _ => False
theorem frep_atAddr {p : AV} {cp : Value} (I : Inv w0 S0 hb0 xb st a w S hb lb) (h : frep w S hb (nm st lb) p cp) (hp : ptrOK st p) : ∃ b o, cp = .pointer (some ⟨b, o, none⟩) ∧ atAddr st hb lb S w p b o := by
  cases p <;> simp only [ptrOK] at hp
  case eptr cs =>
    rw [frep_eq (by rfl)] at h
    simp only [srep, crep] at h
    obtain ⟨b, o, e1, e2, e3⟩ := h
    exact ⟨b, o, e1, e2, e3⟩
  case ptr id off =>
    rw [frep_eq (by rfl)] at h
    simp only [srep, crep] at h
    obtain ⟨b, e1, e2⟩ := h
    exact ⟨b, off, e2, e1, rfl⟩
  case lptr d g i off =>
    obtain ⟨q, hq⟩ := Option.isSome_iff_exists.1 hp
    rw [frep_eq (by rfl)] at h
    obtain ⟨k1, k2⟩ := lobj_some.1 hq
    obtain ⟨b, cap, e1, e2⟩ := h.2 q k1 k2
    exact ⟨b, _, e2, q, cap, hq, e1, rfl⟩

def movedBy (k : Nat) : AV → Option AV
  | .eptr cs => some (.eptr (cs.drop k))
  | .ptr id off => some (.ptr id (off + k))
  | .lptr d g n off => some (.lptr d g n (off + k))
  | _ => none
theorem fieldAddr_ok {cf : Cfg} (hT : TabOK P cf.tab) {o : Oper} {t : TypeId} {x : Operand} {k : Nat} {i j : TI} {fs : Array Field} {f : Field} {p q : AV} (ho : o.op = .fieldAddr t x k) (I : Inv w0 S0 hb0 xb st a w S hb lb) (ht : cf.tab t = some i) (hd : i.desc = .struct fs) (hf : fs[k]? = some f) (hj : cf.tab f.type = some j) (hz : j.size ≠ 0) (hx : opnd st x = some p)
    (hp : ptrOK st p)
    (hq : movedBy f.offset p = some q) : VOK P w0 S0 hb0 xb o a w q st := by
  obtain ⟨b, e, h1, h2⟩ := frep_atAddr I (I.opnd hx) hp
  have h3 : atAddr st hb lb S w q b (e + f.offset) := by
    cases p <;> simp only [movedBy, reduceCtorEq, Option.some.injEq] at hq <;> subst hq <;> simp only [atAddr] at h2 ⊢
    · exact ⟨h2.1, crepAt_drop h2.2 _⟩
    · obtain ⟨o', cap, k1, k2, k3⟩ := h2
      exact ⟨o', cap, k1, k2, by omega⟩
    · exact ⟨h2.1, by rw [h2.2]⟩
  refine .here I (cv := .pointer (some ⟨b, e + f.offset, none⟩)) (run_v (s := Instr.fieldAt t (a.eval x) k) (by unfold execOp; rw [ho]) ?_) (atAddr_frep I h3)
  have u1 := run_underlying_ (w := w) (hT.und _ _ ht)
  rw [hd] at u1
  rw [h1]
  unfold Instr.fieldAt
  simp only [Sem.run_bind, u1, Result.andThen_ok, hf, Instr.sureAddr, Sem.run_pure, fieldPlace, run_sizeOf hT hj]
  rw [if_neg hz]
  simp only [Sem.run_pure, Result.andThen_ok, add_at]
theorem run_indexAt {tab : Tab} (hT : TabOK P tab) {t e : TypeId} {i ei : TI} (ht : tab t = some i) (hd : i.desc = .slice e) (he : tab e = some ei) {b o len cap : Nat} {k : IntKind} {n : Int} (h0 : 0 ≤ n) (h1 : n < len) :
    (Instr.indexAt t (.slice (some ⟨b, o, none⟩) len cap) (.int k n)).run P w = .ok (.pointer (some ⟨b, o + n.toNat * ei.size, none⟩)) w := by
  have u1 := run_underlying_ (w := w) (hT.und _ _ ht)
  rw [hd] at u1
  unfold Instr.indexAt
  simp only [asIntOf, Sem.run_bind, Sem.run_pure, u1, Result.andThen_ok]
  rw [if_pos ⟨h0, h1⟩]
  simp only [Sem.run_bind, run_sizeOf hT he, Result.andThen_ok, add_at, Sem.run_pure]
theorem indexRows_ok {cf : Cfg} (hT : TabOK P cf.tab) {o : Oper} {t e : TypeId} {x y : Operand} {i ei : TI} {full : Bool} {xs : List (List AV)} {k : IntKind} {n : Int} {c : List AV} (ho : o.op = .indexAddr t x y) (I : Inv w0 S0 hb0 xb st a w S hb lb) (ht : cf.tab t = some i) (hd : i.desc = .slice e) (he : cf.tab e = some ei) (hx : opnd st x = some (.rows full xs)) (hy : opnd st y = some (.int k n)) (h0 : 0 ≤ n) (hc : xs[n.toNat]? = some c) (hl : c.length = ei.size) : VOK P w0 S0 hb0 xb o a w (.eptr c) st := by
  have h1 := I.opnd hx
  have h2 := frep_int.1 (I.opnd hy)
  rw [frep_eq (by rfl)] at h1
  simp only [srep, crep] at h1
  obtain ⟨A, cap, e1, e2, e3, e4⟩ := h1
  have hlt : n.toNat < xs.length := (List.getElem?_eq_some_iff.1 hc).1
  obtain ⟨b, off, sz, rfl, e6, e7⟩ := e4 (by intro h; rw [h] at hlt; simp at hlt)
  have hsz : sz = ei.size := by rw [← hl]; exact (crepR_len e7 c (List.mem_of_getElem? hc)).symm
  refine .here I (cv := .pointer (some ⟨b, off + n.toNat * ei.size, none⟩)) (run_v (s := Instr.indexAt t (a.eval x) (a.eval y)) (by unfold execOp; rw [ho]) ?_) ?_
  · rw [e1, h2]; exact run_indexAt hT ht hd he h0 (by omega)
  · exact crep_frep (by rw [crep]; exact ⟨b, _, rfl, e6, by rw [← hsz]; exact crepR_get e7 n.toNat c hc⟩)
theorem indexRow_ok {cf : Cfg} (hT : TabOK P cf.tab) {o : Oper} {t e : TypeId} {x y : Operand} {i ei : TI} {d g : Nat} {q : LObj} {k : IntKind} {n : Int} (ho : o.op = .indexAddr t x y) (I : Inv w0 S0 hb0 xb st a w S hb lb) (ht : cf.tab t = some i) (hd : i.desc = .slice e) (he : cf.tab e = some ei) (hx : opnd st x = some (.lrow d g)) (hy : opnd st y = some (.int k n)) (hq : st.lobj d g = some q) (hit : q.it = false) (hs : q.sz = ei.size) (h0 : 0 ≤ n) (hn : n < q.xs.length) : VOK P w0 S0 hb0 xb o a w (.lptr d g n.toNat 0) st := by
  have h1 := I.opnd hx
  have h2 := frep_int.1 (I.opnd hy)
  rw [frep_eq (by rfl)] at h1
  obtain ⟨k1, k2⟩ := lobj_some.1 hq
  obtain ⟨A, c, e1, e2⟩ := h1.2 q k1 k2 hit
  cases hlb : lb d with
  | none =>
    have := (I.locs d q k1)
    unfold LRep at this
    simp only [hlb] at this
    rw [this.1] at hn
    simp at hn; omega
  | some bc =>
    obtain ⟨b, cap⟩ := bc
    simp only [hlb] at e2
    obtain ⟨rfl, rfl⟩ := e2
    have h3 : atAddr st hb lb S w (.lptr d g n.toNat 0) b (0 + n.toNat * ei.size) := ⟨q, _, hq, hlb, by rw [hs]; omega⟩
    refine .here I (cv := .pointer (some ⟨b, 0 + n.toNat * ei.size, none⟩)) (run_v (s := Instr.indexAt t (a.eval x) (a.eval y)) (by unfold execOp; rw [ho]) ?_) (atAddr_frep I h3)
    rw [e1, h2]; exact run_indexAt hT ht hd he h0 (by omega)
/-- The length of what is read. -/
theorem len_ok {cf : Cfg} (hT : TabOK P cf.tab) {t : TypeId} {i : TI} {p : AV} {cp : Value} {n : Nat} (I : Inv w0 S0 hb0 xb st a w S hb lb) (ht : cf.tab t = some i) (hp : frep w S hb (nm st lb) p cp) (hn : lenA st p = some n) (hd : (i.desc = .string ∧ ∃ s, p = .str s) ∨ ((∃ e, i.desc = .slice e) ∧ ∀ s, p ≠ .str s)) (ty : TypeId) :
    (Builtin.len_ #[t] ty #[cp]).run P w = .ok (goInt n) w := by
  have u1 := run_underlying_ (w := w) (hT.und _ _ ht)
  have key : (i.desc = .string ∧ ∃ s, cp = .string s ∧ s.size = n) ∨ (∃ e A c, i.desc = .slice e ∧ cp = .slice A n c) := by
    cases p <;> simp only [lenA, reduceCtorEq] at hn
    case str s =>
      simp only [Option.some.injEq] at hn
      rw [frep_str] at hp
      rcases hd with ⟨hd, _⟩ | ⟨_, hd⟩
      · exact .inl ⟨hd, s, hp, hn⟩
      · exact absurd rfl (hd s)
    case rows full xs =>
      simp only [Option.some.injEq] at hn
      rw [frep_eq (by rfl)] at hp
      simp only [srep, crep] at hp
      obtain ⟨A, c, e1, _⟩ := hp
      rcases hd with ⟨_, s, hd⟩ | ⟨⟨e, hd⟩, _⟩
      · cases hd
      · exact .inr ⟨e, A, c, hd, by rw [e1, hn]⟩
    case lrow d g =>
      split at hn
      · rename_i o e
        split at hn
        · cases hn
        · rename_i hit
          simp only [Option.some.injEq] at hn
          rw [frep_eq (by rfl)] at hp
          obtain ⟨k1, k2⟩ := lobj_some.1 e
          obtain ⟨A, c, e1, _⟩ := hp.2 o k1 k2 (by simpa using hit)
          rcases hd with ⟨_, s, hd⟩ | ⟨⟨e, hd⟩, _⟩
          · cases hd
          · exact .inr ⟨e, A, c, hd, by rw [e1, hn]⟩
      · cases hn
  unfold Builtin.len_
  rcases key with ⟨h1, s, rfl, rfl⟩ | ⟨e, A, c, h1, rfl⟩
  · rw [h1] at u1
    simp only [List.getElem?_toArray, List.getElem?_cons_zero, Sem.run_bind, u1, Result.andThen_ok]
    rfl
  · rw [h1] at u1
    simp only [List.getElem?_toArray, List.getElem?_cons_zero, Sem.run_bind, u1, Result.andThen_ok]
    cases A <;> rfl
end
end Go.Ev
