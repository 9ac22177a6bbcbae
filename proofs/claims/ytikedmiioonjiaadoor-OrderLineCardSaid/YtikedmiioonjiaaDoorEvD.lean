/- The abstract interpreter: its operations are the machine's: those that compute. -/
import Derived.Test.YtikedmiioonjiaaDoorEvC
import Derived.Laws.Cells
import Derived.Laws.Entries
set_option linter.unusedVariables false
set_option linter.unusedSimpArgs false
set_option linter.unusedSectionVars false
set_option linter.defProp false
namespace Go.Ev
open Go

/-- The table of types says what the program says. -/
structure TabOK (P : Program) (tab : Tab) : Prop where
  und : ∀ t i, tab t = some i → P.underlying t = some i.desc
  info : ∀ t i, tab t = some i → ∃ inf z, P.info? t = some inf ∧ inf.size = i.size ∧ inf.bytes = i.bytes ∧ inf.zero = some z ∧ z.cells.toList.length = i.size ∧ z.cells.toList.map ofConst = i.zero.map some

section
variable {P : Program} {w0 : World} {S0 : Nat → Prop} {hb0 : List Nat} {xb : Option Nat} {st st' : St} {a : Act} {w : World} {S : Nat → Prop} {hb : List Nat} {lb : Nat → Option (Nat × Nat)}

/-- An operation comes to a value (or to nothing), and the state behind it. -/
def VOK (P : Program) (w0 : World) (S0 : Nat → Prop) (hb0 : List Nat) (xb : Option Nat) (o : Oper) (a : Act) (w : World) (v : AV) (st' : St) : Prop :=
  ∃ cv w' S' hb' lb', ((execOp a.eval o).run P w = .ok (.value cv) w' ∨ ((execOp a.eval o).run P w = .ok .skip w' ∧ cv = undef)) ∧ Inv w0 S0 hb0 xb st' a w' S' hb' lb' ∧ frep w' S' hb' (nm st' lb') v cv
theorem VOK.here {o : Oper} {v : AV} {cv : Value} (I : Inv w0 S0 hb0 xb st a w S hb lb) (hr : (execOp a.eval o).run P w = .ok (.value cv) w) (hv : frep w S hb (nm st lb) v cv) : VOK P w0 S0 hb0 xb o a w v st :=
  ⟨cv, w, S, hb, lb, .inl hr, I, hv⟩

theorem frep_int {N : Nm} {k : IntKind} {n : Int} {v : Value} : frep w S hb N (.int k n) v ↔ v = .int k n := by simp [frep, srep, crep]
theorem frep_bool {N : Nm} {b : Bool} {v : Value} : frep w S hb N (.bool b) v ↔ v = .bool b := by simp [frep, srep, crep]
theorem frep_str {N : Nm} {s : ByteArray} {v : Value} : frep w S hb N (.str s) v ↔ v = .string s := by simp [frep, srep, crep]
theorem frep_crep {N : Nm} {x : AV} {v : Value} (h : crep w S hb x v) (hx : notAgg x = true) : frep w S hb N x v := by rw [frep_eq hx]; exact crep_srep h

theorem run_intBin {op : BinOp} {k : IntKind} {m n : Int} {v : AV} {t : TypeId} (h : intBin op k m n = some v) : ∃ cv, (binOp op t (.int k m) (.int k n)).run P w = .ok cv w ∧ crep w S hb v cv ∧ notAgg v = true := by
  cases op <;> simp only [intBin, reduceCtorEq] at h
  case quo =>
    split at h
    · cases h
    · rename_i h0
      simp only [Option.some.injEq] at h; subst h
      exact ⟨_, by simp only [binOp, Op.intDiv, h0, if_false, ne_eq, not_true]; rfl, by rw [crep], rfl⟩
  case rem =>
    split at h
    · cases h
    · rename_i h0
      simp only [Option.some.injEq] at h; subst h
      exact ⟨_, by simp only [binOp, Op.intDiv, h0, if_false, ne_eq, not_true]; rfl, by rw [crep], rfl⟩
  all_goals
    simp only [Option.some.injEq] at h; subst h
    exact ⟨_, by simp only [binOp, Op.intArith, Op.intBits, Op.intCmp, ne_eq, not_true, if_false]; rfl, by rw [crep], rfl⟩
theorem run_strBin {op : BinOp} {m n : ByteArray} {v : AV} {t : TypeId} (h : strBin op m n = some v) : ∃ cv, (binOp op t (.string m) (.string n)).run P w = .ok cv w ∧ crep w S hb v cv ∧ notAgg v = true := by
  cases op <;> simp only [strBin, reduceCtorEq] at h
  all_goals
    simp only [Option.some.injEq] at h; subst h
    exact ⟨_, by simp only [binOp, Op.stringOp]; rfl, by rw [crep], rfl⟩
theorem run_eqGuard_plain {op : BinOp} {t : TypeId} {x y : Operand} {u v : Value} (h : ∀ q, u ≠ .agg q) (h' : u ≠ .nilIface) : (eqGuard op t x y u v).run P w = .ok () w := by
  cases op <;> cases u <;> first | rfl | (exfalso; exact h _ rfl) | (exfalso; exact h' rfl)
theorem run_eqGuard_nilIface {op : BinOp} {t : TypeId} {x y : Operand} {u v : Value} (h : ∀ q, u ≠ .agg q) (h' : u ≠ .nilIface ∨ v ≠ .nilIface) : (eqGuard op t x y u v).run P w = .ok () w := by
  cases op <;> cases u <;> first | rfl | (exfalso; exact h _ rfl) | (cases v <;> first | rfl | (exfalso; simp at h'))
theorem run_equal {t : TypeId} {u v : Value} {b : Bool} (h : (Op.equalIn (9999 + 1) t u v).run P w = .ok b w) : (Op.equal t u v).run P w = .ok b w := h
theorem run_underlying_ {t : TypeId} {d : TypeDesc} (h : P.underlying t = some d) : (underlying t).run P w = .ok d w := by simp [underlying, h]
theorem eq_parts {t : TypeId} {u v : Value} {b : Bool} (e : (Op.equal t u v).run P w = .ok b w) (h1 : ∀ q, u ≠ .agg q) (h2 : u ≠ .nilIface ∨ v ≠ .nilIface)
    (h3 : binOp .eql t u v = (do pure (Value.bool (← Op.equal t u v)))) (h4 : binOp .neq t u v = (do pure (Value.bool (!(← Op.equal t u v))))) :
    (Op.equal t u v).run P w = .ok b w ∧ (∀ q, u ≠ .agg q) ∧ (u ≠ .nilIface ∨ v ≠ .nilIface) ∧ (binOp .eql t u v).run P w = .ok (.bool b) w ∧ (binOp .neq t u v).run P w = .ok (.bool !b) w :=
  ⟨e, h1, h2, by rw [h3]; simp only [Sem.run_bind, e, Result.andThen_ok]; rfl, by rw [h4]; simp only [Sem.run_bind, e, Result.andThen_ok]; rfl⟩
theorem run_eqBin {tab : Tab} (hT : TabOK P tab) {t : TypeId} {i : TI} (ht : tab t = some i) {x y : AV} {u v : Value} {b : Bool} (h : eqBin i x y = some b) (hx : frep w S hb (nm st lb) x u) (hy : frep w S hb (nm st lb) y v) :
    (Op.equal t u v).run P w = .ok b w ∧ (∀ q, u ≠ .agg q) ∧ (u ≠ .nilIface ∨ v ≠ .nilIface) ∧
      (binOp .eql t u v).run P w = .ok (.bool b) w ∧ (binOp .neq t u v).run P w = .ok (.bool !b) w := by
  have hu := run_underlying_ (w := w) (hT.und t i ht)
  unfold eqBin at h
  split at h
  all_goals (try (cases h; done))
  all_goals split at h
  all_goals (try (cases h; done))
  all_goals
    rename_i hd
    simp only [Option.some.injEq] at h
    subst h
    rw [frep_eq (by rfl)] at hx hy
    simp only [srep, crep] at hx hy
    rw [hd] at hu
  all_goals (try first | (obtain ⟨_, _, rfl, _⟩ := hx) | (obtain ⟨_, rfl, _⟩ := hx) | (obtain ⟨_, _, rfl⟩ := hx) | subst hx)
  all_goals (try first | (obtain ⟨_, _, rfl, _⟩ := hy) | (obtain ⟨_, rfl, _⟩ := hy) | (obtain ⟨_, _, rfl⟩ := hy) | subst hy)
  all_goals
    refine eq_parts ?_ (by simp) (by simp) rfl rfl
    refine run_equal ?_
    unfold Op.equalIn
    simp only [Sem.run_bind, hu, Result.andThen_ok]
    rfl

/-- An operation whose value is 'run's. -/
theorem run_v {o : Oper} {s : Sem Value} {cv : Value} {w' : World} (he : execOp a.eval o = (do pure (Next.value (← s)))) (h : s.run P w = .ok cv w') : (execOp a.eval o).run P w = .ok (.value cv) w' := by
  rw [he]; simp only [Sem.run_bind, h, Result.andThen_ok]; rfl
theorem run_u {o : Oper} {s : Sem Unit} {w' : World} (he : execOp a.eval o = (do s; pure Next.skip)) (h : s.run P w = .ok () w') : (execOp a.eval o).run P w = .ok .skip w' := by
  rw [he]; simp only [Sem.run_bind, h, Result.andThen_ok]; rfl

theorem move_ok {o : Oper} {x : Operand} (ho : o.op = .move x ∨ o.op = .assign x) (I : Inv w0 S0 hb0 xb st a w S hb lb) {v : AV} (hv : opnd st x = some v) : VOK P w0 S0 hb0 xb o a w v st :=
  .here I (by rcases ho with ho | ho <;> (unfold execOp; rw [ho]; rfl)) (I.opnd hv)
theorem pick_ok {o : Oper} {c x y : Operand} {t : Bool} (ho : o.op = .pick c x y) (I : Inv w0 S0 hb0 xb st a w S hb lb) {v : AV} (hc : opnd st c = some (.bool t)) (hv : opnd st (if t then x else y) = some v) : VOK P w0 S0 hb0 xb o a w v st := by
  have h1 := frep_bool.1 (I.opnd hc)
  have h2 := I.opnd hv
  refine .here I (cv := a.eval (if t then x else y)) ?_ h2
  unfold execOp; rw [ho]
  simp only [h1, asBool, Sem.run_bind, Sem.run_pure, Result.andThen_ok]
  cases t <;> rfl
theorem extract_ok {o : Oper} {x : Operand} {i : Nat} {vs : List AV} (ho : o.op = .extract x i) (I : Inv w0 S0 hb0 xb st a w S hb lb) {v : AV} (hx : opnd st x = some (.tuple vs)) (hv : vs[i]? = some v) : VOK P w0 S0 hb0 xb o a w v st := by
  have h1 := I.opnd hx
  rw [frep_eq (by rfl)] at h1
  simp only [srep, crep] at h1
  obtain ⟨ar, e, hl⟩ := h1
  obtain ⟨u, e1, e2⟩ := crepL_get hl i v hv
  have e1' : ar[i]? = some u := by simpa using e1
  refine .here I (cv := u) ?_ ?_
  · refine run_v (s := Instr.extract (a.eval x) i) (by unfold execOp; rw [ho]) ?_
    rw [e]; simp only [Instr.extract, e1']; rfl
  · exact crep_frep e2
theorem run_eqGuard_nils {op : BinOp} {t : TypeId} {x y : Operand} (hc : isNilConst x = true ∨ isNilConst y = true) : (eqGuard op t x y .nilIface .nilIface).run P w = .ok () w := by
  rcases hc with hc | hc
  · cases x <;> simp [isNilConst] at hc
    cases op <;> rfl
  · cases y <;> simp [isNilConst] at hc
    cases op <;> cases x <;> rfl
theorem run_eqNils {t : TypeId} {ms : Array (String × TypeId)} (hu : P.underlying t = some (.interface ms)) : (Op.equal t .nilIface .nilIface).run P w = .ok true w := by
  refine run_equal ?_
  unfold Op.equalIn
  simp only [Sem.run_bind, run_underlying_ hu, Result.andThen_ok]
  rfl
theorem binop_ok {cf : Cfg} (hT : TabOK P cf.tab) {o : Oper} {op : BinOp} {t u : TypeId} {x y : Operand} {p q v : AV} (ho : o.op = .binOp op t x y u) (I : Inv w0 S0 hb0 xb st a w S hb lb) (hx : opnd st x = some p) (hy : opnd st y = some q) (hv : binopA cf.tab op t x y p q = some v) : VOK P w0 S0 hb0 xb o a w v st := by
  have h1 := I.opnd hx
  have h2 := I.opnd hy
  suffices H : ∃ cv, (eqGuard op t x y (a.eval x) (a.eval y)).run P w = .ok () w ∧ (binOp op t (a.eval x) (a.eval y)).run P w = .ok cv w ∧ crep w S hb v cv by
    obtain ⟨cv, e1, e2, e3⟩ := H
    refine .here I (cv := cv) (run_v (s := do eqGuard op t x y (a.eval x) (a.eval y); binOp op t (a.eval x) (a.eval y)) (by unfold execOp; rw [ho]) ?_) (crep_frep e3)
    simp only [Sem.run_bind, e1, e2, Result.andThen_ok]
  unfold binopA at hv
  split at hv
  · rename_i k m k' n
    rw [frep_int] at h1 h2
    rw [h1, h2]
    have g : (eqGuard op t x y (.int k m) (.int k' n)).run P w = .ok () w := run_eqGuard_plain (by simp) (by simp)
    split at hv
    · split at hv
      · rename_i hn
        simp only [Option.some.injEq] at hv; subst hv
        exact ⟨_, g, by simp only [binOp, Op.shift]; rw [if_neg (by omega)]; rfl, by rw [crep]⟩
      · cases hv
    · split at hv
      · rename_i hn
        simp only [Option.some.injEq] at hv; subst hv
        exact ⟨_, g, by simp only [binOp, Op.shift]; rw [if_neg (by omega)]; rfl, by rw [crep]⟩
      · cases hv
    · split at hv
      · rename_i hk
        subst hk
        obtain ⟨cv, e1, e2, _⟩ := run_intBin (P := P) (w := w) (S := S) (hb := hb) (t := t) hv
        exact ⟨cv, g, e1, e2⟩
      · cases hv
  · rename_i m n
    rw [frep_str] at h1 h2
    rw [h1, h2]
    obtain ⟨cv, e1, e2, _⟩ := run_strBin (P := P) (w := w) (S := S) (hb := hb) (t := t) hv
    exact ⟨cv, run_eqGuard_plain (by simp) (by simp), e1, e2⟩
  · rw [frep_eq (by rfl)] at h1 h2
    simp only [srep, crep] at h1 h2
    rw [h1, h2]
    split at hv
    · rename_i hc
      have g := run_eqGuard_nils (P := P) (w := w) (op := op) (t := t) hc
      split at hv
      · split at hv
        · rename_i hi
          simp only [Option.some.injEq] at hv; subst hv
          have e := run_eqNils (w := w) (hT.und t _ hi)
          exact ⟨_, g, by show ((do pure (Value.bool (← Op.equal t .nilIface .nilIface)) : Sem Value)).run P w = _; simp only [Sem.run_bind, e, Result.andThen_ok]; rfl, by rw [crep]⟩
        · cases hv
      · split at hv
        · rename_i hi
          simp only [Option.some.injEq] at hv; subst hv
          have e := run_eqNils (w := w) (hT.und t _ hi)
          exact ⟨_, g, by show ((do pure (Value.bool (!(← Op.equal t .nilIface .nilIface))) : Sem Value)).run P w = _; simp only [Sem.run_bind, e, Result.andThen_ok]; rfl, by rw [crep]; rfl⟩
        · cases hv
      · cases hv
    · cases hv
  · rename_i f0 x0 xs0 f1 ys0
    split at hv
    · rename_i hy0
      split at hv
      · rename_i i hi
        split at hv
        · rename_i e hd
          have hyv : a.eval y = .slice none 0 0 := by
            unfold isNilSl at hy0
            split at hy0
            · rfl
            · cases hy0
          rw [frep_eq (by rfl)] at h1
          simp only [srep, crep] at h1
          obtain ⟨A, c, hu, _, _, hA⟩ := h1
          obtain ⟨bA, oA, sA, rfl, _⟩ := hA (by simp)
          have hund := run_underlying_ (w := w) (hT.und t i hi)
          rw [hd] at hund
          have e0 : (Op.equal t (.slice (some ⟨bA, oA, none⟩) (x0 :: xs0).length c) (.slice none 0 0)).run P w = .ok false w := by
            refine run_equal ?_
            unfold Op.equalIn
            simp only [Sem.run_bind, hund, Result.andThen_ok]
            rfl
          rw [hu, hyv]
          split at hv
          · simp only [Option.some.injEq] at hv; subst hv
            exact ⟨_, run_eqGuard_plain (by simp) (by simp), by show ((do pure (Value.bool (← Op.equal t _ _)) : Sem Value)).run P w = _; simp only [Sem.run_bind, e0, Result.andThen_ok]; rfl, by rw [crep]⟩
          · simp only [Option.some.injEq] at hv; subst hv
            exact ⟨_, run_eqGuard_plain (by simp) (by simp), by show ((do pure (Value.bool (!(← Op.equal t _ _))) : Sem Value)).run P w = _; simp only [Sem.run_bind, e0, Result.andThen_ok]; rfl, by rw [crep]; rfl⟩
          · cases hv
        · cases hv
      · cases hv
    · cases hv
  · split at hv
    · rename_i i hi
      split at hv
      · cases hb' : eqBin i p q with
        | none => rw [hb'] at hv; cases hv
        | some r =>
          rw [hb'] at hv
          simp only [Option.map_some, Option.some.injEq] at hv; subst hv
          obtain ⟨_, e2, e3, e4, e5⟩ := run_eqBin (st := st) (lb := lb) hT hi hb' h1 h2
          exact ⟨_, run_eqGuard_nilIface e2 e3, e4, by rw [crep]⟩
      · cases hb' : eqBin i p q with
        | none => rw [hb'] at hv; cases hv
        | some r =>
          rw [hb'] at hv
          simp only [Option.map_some, Option.some.injEq] at hv; subst hv
          obtain ⟨_, e2, e3, e4, e5⟩ := run_eqBin (st := st) (lb := lb) hT hi hb' h1 h2
          exact ⟨_, run_eqGuard_nilIface e2 e3, e5, by rw [crep]⟩
      · cases hv
    · cases hv
theorem unop_ok {o : Oper} {op : UnOp} {t : TypeId} {x : Operand} (ho : o.op = .unOp op t x) (I : Inv w0 S0 hb0 xb st a w S hb lb) :
    (∀ b, op = .not → opnd st x = some (.bool b) → VOK P w0 S0 hb0 xb o a w (.bool !b) st) ∧ (∀ k n, op = .neg → opnd st x = some (.int k n) → VOK P w0 S0 hb0 xb o a w (.int k (k.wrap (0 - n))) st) := by
  refine ⟨fun b e hx => ?_, fun k n e hx => ?_⟩
  · subst e
    have h1 := frep_bool.1 (I.opnd hx)
    exact .here I (cv := .bool !b) (run_v (s := Op.unary .not (a.eval x)) (by unfold execOp; rw [ho]) (by rw [h1]; rfl)) (frep_bool.2 rfl)
  · subst e
    have h1 := frep_int.1 (I.opnd hx)
    exact .here I (cv := .int k (k.wrap (0 - n))) (run_v (s := Op.unary .neg (a.eval x)) (by unfold execOp; rw [ho]) (by rw [h1]; rfl)) (frep_int.2 rfl)
theorem convert_ok {cf : Cfg} (hT : TabOK P cf.tab) {o : Oper} {src dst : TypeId} {x : Operand} {p v : AV} (ho : o.op = .convert src dst x) (I : Inv w0 S0 hb0 xb st a w S hb lb) (hx : opnd st x = some p) (hv : convA cf.tab src dst p = some v) : VOK P w0 S0 hb0 xb o a w v st := by
  have h1 := I.opnd hx
  have he : execOp a.eval o = (do pure (Next.value (← convert src dst (a.eval x)))) := by unfold execOp; rw [ho]
  unfold convA at hv
  split at hv
  · rename_i k n
    rw [frep_int] at h1
    split at hv
    · rename_i i j hi hj
      have u1 := run_underlying_ (w := w) (hT.und _ _ hi)
      have u2 := run_underlying_ (w := w) (hT.und _ _ hj)
      split at hv
      · rename_i k' hd
        simp only [Option.some.injEq] at hv; subst hv
        rw [hd] at u2
        refine .here I (cv := .int k' (k'.wrap n)) (run_v he ?_) (frep_int.2 rfl)
        rw [h1]
        unfold convert
        simp only [Sem.run_bind, u1, u2, Result.andThen_ok]
        cases i.desc <;> rfl
      · rename_i hd
        simp only [Option.some.injEq] at hv; subst hv
        rw [hd] at u2
        refine .here I (cv := .string (Utf8.encode n)) (run_v he ?_) (frep_str.2 rfl)
        rw [h1]
        unfold convert
        simp only [Sem.run_bind, u1, u2, Result.andThen_ok]
        cases i.desc <;> rfl
      · cases hv
    · cases hv
  · rename_i s
    rw [frep_str] at h1
    split at hv
    · rename_i i j hi hj
      have u1 := run_underlying_ (w := w) (hT.und _ _ hi)
      have u2 := run_underlying_ (w := w) (hT.und _ _ hj)
      split at hv
      · rename_i hd
        simp only [Option.some.injEq] at hv; subst hv
        rw [hd] at u2
        refine .here I (cv := .string s) (run_v he ?_) (frep_str.2 rfl)
        rw [h1]
        unfold convert
        simp only [Sem.run_bind, u1, u2, Result.andThen_ok]
        cases i.desc <;> rfl
      · cases hv
    · cases hv
  · cases hv
theorem index_ok {cf : Cfg} (hT : TabOK P cf.tab) {o : Oper} {t : TypeId} {x y : Operand} {i : TI} {s : ByteArray} {k : IntKind} {n : Int} {b : UInt8} (ho : o.op = .index t x y) (I : Inv w0 S0 hb0 xb st a w S hb lb) (ht : cf.tab t = some i) (hd : i.desc = .string) (hx : opnd st x = some (.str s)) (hy : opnd st y = some (.int k n)) (h0 : 0 ≤ n) (hb_ : s[n.toNat]? = some b) : VOK P w0 S0 hb0 xb o a w (.int .u8 b.toNat) st := by
  have h1 := frep_str.1 (I.opnd hx)
  have h2 := frep_int.1 (I.opnd hy)
  have u1 := run_underlying_ (w := w) (hT.und _ _ ht)
  rw [hd] at u1
  refine .here I (cv := .int .u8 b.toNat) (run_v (s := Instr.index t (a.eval x) (a.eval y)) (by unfold execOp; rw [ho]) ?_) (frep_int.2 rfl)
  rw [h1, h2]
  unfold Instr.index
  simp only [asIntOf, Sem.run_bind, Sem.run_pure, u1, Result.andThen_ok, if_pos h0, hb_]
theorem nilCheck_ok {o : Oper} {x : Operand} {p : AV} (ho : o.op = .nilCheck x) (I : Inv w0 S0 hb0 xb st a w S hb lb) (hx : opnd st x = some p) (hp : ∃ q, a.eval x = .pointer (some q)) : VOK P w0 S0 hb0 xb o a w p st := by
  obtain ⟨q, e⟩ := hp
  exact .here I (cv := a.eval x) (by unfold execOp; rw [ho]; simp only [e]; rfl) (I.opnd hx)
end
end Go.Ev
