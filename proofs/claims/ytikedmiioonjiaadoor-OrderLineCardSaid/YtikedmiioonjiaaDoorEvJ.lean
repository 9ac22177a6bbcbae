/- The abstract interpreter: operations that make objects. -/
import Derived.Test.YtikedmiioonjiaaDoorEvI
import Derived.Laws.MakeOwn
import Derived.Laws.Tables
set_option linter.unusedVariables false
set_option linter.unusedSimpArgs false
set_option linter.unusedSectionVars false
set_option linter.defProp false
namespace Go.Ev
open Go
section
variable {P : Program} {w0 : World} {S0 : Nat → Prop} {hb0 : List Nat} {xb : Option Nat} {st st' : St} {a : Act} {w w' : World} {S S' : Nat → Prop} {hb hb' : List Nat} {lb lb' : Nat → Option (Nat × Nat)} {N : Nm}

/-- A new block of rows. -/
theorem Inv.newRows (I : Inv w0 S0 hb0 xb st a w S hb lb) (d ty sz : Nat) (xs : List (List AV)) {arr : Array Value} {cap : Nat} (hos : w'.os = w.os) (htape : w'.tape = w.tape) (hout : w'.output = w.output) (hheap : w'.heap = w.heap.push (.cells arr ty (0, 0)))
    (hr : RowsAt w S hb (nm st lb) false sz xs arr.toList) (hc : arr.size = cap * sz) (hl : xs.length ≤ cap) (hm : cap ≤ maxLen) :
    Inv w0 S0 hb0 xb (st.mk_ d false ty sz xs) a w' S hb (setlb lb d (some (w.heap.size, cap))) ∧ (nm st lb).le (nm (st.mk_ d false ty sz xs) (setlb lb d (some (w.heap.size, cap)))) ∧ Stays w w' S S hb hb := by
  refine I.new d false ty sz xs (some (w.heap.size, cap)) hos htape hout (by rw [hheap]; simp) (fun k hk => by rw [hheap, Array.getElem?_push_lt hk, Array.getElem?_eq_getElem hk]) (fun b c e => by simp only [Option.some.injEq, Prod.mk.injEq] at e; omega) fun H K => ?_
  refine LRep.ofRows (b := w.heap.size) (cap := cap) rfl (by simp [setlb]) (arr := arr) (by rw [hheap]; simp) hc hl hm ?_ ?_
  · exact hr.mono H K
  · simp only [Bool.false_eq_true, if_false]
    exact fun h => Nat.lt_irrefl _ (I.Slt _ h)
theorem mk_lrow (d ty sz : Nat) (xs : List (List AV)) {cap : Nat} {b : Nat} : frep w S hb (nm (st.mk_ d false ty sz xs) (setlb lb d (some (b, cap)))) (.lrow d (st.gen d)) (.slice (some ⟨b, 0, none⟩) xs.length cap) := by
  rw [frep_eq (by rfl)]
  refine ⟨bump_lt _ _, fun o h1 h2 _ => ?_⟩
  have h1' : (st.mk_ d false ty sz xs).loc.getD d none = some o := h1
  rw [mk_loc] at h1'
  split at h1'
  · simp only [Option.some.injEq] at h1'; subst h1'
    exact ⟨_, _, rfl, by simp [setlb]⟩
  · rename_i hh
    have : ¬ d < st.loc.length := fun h => hh ⟨rfl, h⟩
    rw [List.getD_eq_getElem?_getD, List.getElem?_eq_none (by omega)] at h1'
    simp at h1'
theorem mk_lptr (d : Nat) (it : Bool) (ty sz : Nat) (xs : List (List AV)) {cap : Nat} {b : Nat} : frep w S hb (nm (st.mk_ d it ty sz xs) (setlb lb d (some (b, cap)))) (.lptr d (st.gen d) 0 0) (.pointer (some ⟨b, 0, none⟩)) := by
  rw [frep_eq (by rfl)]
  exact ⟨bump_lt _ _, fun o h1 h2 => ⟨b, cap, by simp [setlb], by simp⟩⟩
theorem mk_liter (d : Nat) (it : Bool) (ty sz : Nat) (xs : List (List AV)) {cap : Nat} {b : Nat} : frep w S hb (nm (st.mk_ d it ty sz xs) (setlb lb d (some (b, cap)))) (.liter d (st.gen d)) (.pointer (some ⟨b, 0, none⟩)) := by
  rw [frep_eq (by rfl)]
  exact ⟨bump_lt _ _, fun o h1 h2 => ⟨b, cap, by simp [setlb], rfl⟩⟩
theorem zero_rep {tab : Tab} (hT : TabOK P tab) {t : TypeId} {i : TI} (ht : tab t = some i) : ∃ inf z, P.info? t = some inf ∧ inf.size = i.size ∧ inf.bytes = i.bytes ∧ inf.zero = some z ∧ z.cells.size = i.size ∧ i.zero.length = i.size ∧ ∀ (w : World) (S : Nat → Prop) (hb : List Nat), crepL w S hb i.zero z.cells.toList ∧ ∀ u ∈ z.cells.toList, u.oneCell' = true := by
  obtain ⟨inf, z, h1, h2, h3, h4, h5, h6⟩ := hT.info t i ht
  have hl : i.zero.length = i.size := by have := congrArg List.length h6; simpa [h5] using this.symm.trans (by simpa using h5)
  refine ⟨inf, z, h1, h2, h3, h4, by simpa using h5, hl, fun w S hb => ?_⟩
  have key : ∀ (vs : List Value) (xs : List AV), vs.map ofConst = xs.map some → crepL w S hb xs vs ∧ ∀ u ∈ vs, u.oneCell' = true := by
    intro vs
    induction vs with
    | nil => intro xs h; cases xs with
      | nil => exact ⟨by rw [crepL], by simp⟩
      | cons => simp at h
    | cons v vs ih => intro xs h; cases xs with
      | nil => simp at h
      | cons x xs =>
        simp only [List.map_cons, List.cons.injEq] at h
        obtain ⟨k1, k2⟩ := ih xs h.2
        refine ⟨by rw [crepL]; exact ⟨v, vs, rfl, crep_const h.1, k1⟩, fun u hu => ?_⟩
        rcases List.mem_cons.1 hu with rfl | hu
        · exact (ofConst_notAgg h.1).2.2
        · exact k2 u hu
  exact key _ _ h6
theorem run_zeroValue {t : TypeId} {inf : TypeInfo} {z : Value} (h1 : P.info? t = some inf) (h2 : inf.zero = some z) : (zeroValue t).run P w = .ok z w := by
  simp [zeroValue, typeInfo, h1, h2]
theorem alloc_heap (o : Obj) : (w.alloc o).heap = w.heap.push o := rfl
theorem RowsAt.unfrz {frz : Bool} {sz : Nat} {xs : List (List AV)} {cs : List Value} (h : RowsAt w S hb N frz sz xs cs) : RowsAt w S hb N false sz xs cs := fun i x hx =>
  ⟨(h i x hx).1, fun j y hy => by obtain ⟨v, k1, k2, k3, k4, _⟩ := (h i x hx).2 j y hy; exact ⟨v, k1, k2, k3, k4, by simp⟩⟩

/-- A variable of the frame's own. -/
theorem newVar_ok (I : Inv w0 S0 hb0 xb st a w S hb lb) {o : Oper} (d ty sz : Nat) {x : List AV} {cells : Array Value} (hx : srepL w S hb (nm st lb) x cells.toList) (hsz : x.length = sz)
    (he : (execOp a.eval o).run P w = .ok (.value (.pointer (some ⟨w.heap.size, 0, none⟩))) (w.alloc (.cells cells ty))) : VOK P w0 S0 hb0 xb o a w (.lptr d (st.gen d) 0 0) (st.mk_ d false ty sz [x]) := by
  have hcs : cells.size = 1 * sz := by rw [← Array.length_toList, srepL_len hx, hsz, Nat.one_mul]
  obtain ⟨I', K, H⟩ := I.newRows (w' := w.alloc (.cells cells ty)) d ty sz [x] (cap := 1) rfl rfl rfl rfl (.one hsz hx) hcs (by simp) (by decide)
  exact ⟨_, _, S, hb, _, .inl he, I', mk_lptr d false ty sz [x]⟩
/-- A variable in the heap. -/
theorem newHp_ok (I : Inv w0 S0 hb0 xb st a w S hb lb) {o : Oper} {ty : Nat} {x : List AV} {cells : Array Value} (hx : crepL w S hb x cells.toList) (h1 : ∀ u ∈ cells.toList, u.oneCell' = true)
    (he : (execOp a.eval o).run P w = .ok (.value (.pointer (some ⟨w.heap.size, 0, none⟩))) (w.alloc (.cells cells ty))) : VOK P w0 S0 hb0 xb o a w (.ptr st.hp.length 0) { st with hp := st.hp ++ [x] } := by
  have hhb : ∀ b ∈ hb, b < w.heap.size := fun b hm => by
    obtain ⟨i, hi⟩ := List.getElem?_of_mem hm
    have hl : i < st.hp.length := by rw [← I.heap.len]; exact (List.getElem?_eq_some_iff.1 hi).1
    obtain ⟨arr, ty, k1, _⟩ := I.heap.cells i b _ hi (List.getElem?_eq_getElem hl)
    exact (Array.getElem?_eq_some_iff.1 k1).1
  have hold : ∀ k, k < w.heap.size → (w.alloc (.cells cells ty)).heap[k]? = w.heap[k]? := fun k hk => by rw [alloc_heap, Array.getElem?_push_lt hk, Array.getElem?_eq_getElem hk]
  have H : Stays w (w.alloc (.cells cells ty)) S S hb (hb ++ [w.heap.size]) := ⟨fun _ h => h, fun b h => hold b (I.Slt b h), fun i b h => by rw [List.getElem?_append_left (List.getElem?_eq_some_iff.1 h).1]; exact h⟩
  have hd : ∀ o', st.loc.getD st.loc.length none = some o' → False := fun o' h => by
    rw [List.getD_eq_getElem?_getD, List.getElem?_eq_none (Nat.le_refl _)] at h; simp at h
  obtain ⟨I', K⟩ := I.step (st' := { st with hp := st.hp ++ [x] }) (lb' := lb) st.loc.length H rfl rfl rfl (by simp) (fun b h1 _ _ => ⟨hold b h1, fun h => h⟩) (fun b h => Nat.lt_of_lt_of_le (I.Slt b h) (by simp))
    (fun b h => by
      rcases List.mem_append.1 h with h | h
      · exact .inl h
      · simp at h; exact .inr (by omega))
    { len := by simp [I.heap.len]
      nodup := by
        rw [List.nodup_append]
        refine ⟨I.heap.nodup, by simp, fun b h1 c h2 => ?_⟩
        simp at h2
        have := hhb b h1
        omega
      out := fun b h hs => by
        rcases List.mem_append.1 h with h | h
        · exact I.heap.out b h hs
        · simp at h
          have := I.Slt b hs
          omega
      cells := fun id b y e1 e2 => by
        by_cases hi : id < hb.length
        · rw [List.getElem?_append_left hi] at e1
          rw [List.getElem?_append_left (by rw [← I.heap.len]; exact hi)] at e2
          obtain ⟨arr, ty', k1, k2, k3⟩ := I.heap.cells id b y e1 e2
          refine ⟨arr, ty', by rw [hold b (hhb b (List.mem_of_getElem? e1))]; exact k1, k2, fun j z hz => ?_⟩
          obtain ⟨v, g1, g2, g3⟩ := k3 j z hz
          exact ⟨v, g1, g2, crep_mono H z v g3⟩
        · rw [List.getElem?_append_right (by omega)] at e1
          rw [List.getElem?_append_right (by rw [← I.heap.len]; omega)] at e2
          have hid : id - hb.length = 0 := by
            have := (List.getElem?_eq_some_iff.1 e1).1
            simp at this; omega
          rw [hid] at e1
          rw [← I.heap.len, hid] at e2
          simp at e1 e2
          subst e1 e2
          refine ⟨cells, ty, by rw [alloc_heap]; simp, by rw [← Array.length_toList, crepL_len hx], fun j z hz => ?_⟩
          obtain ⟨v, g1, g2⟩ := crepL_get hx j z hz
          exact ⟨v, by simpa using g1, h1 v (List.mem_of_getElem? g1), crep_mono H z v g2⟩ }
    rfl rfl (fun _ => Nat.le_refl _) (fun _ _ => ⟨rfl, rfl⟩) (fun o' h => (hd o' h).elim)
  refine ⟨_, _, S, _, lb, .inl he, I', ?_⟩
  apply crep_frep
  rw [crep]
  exact ⟨w.heap.size, by rw [← I.heap.len]; simp, rfl⟩

theorem alloc_ok {cf : Cfg} (hT : TabOK P cf.tab) {o : Oper} {t : TypeId} {i : TI} (ho : o.op = .alloc t) (ht : cf.tab t = some i) (I : Inv w0 S0 hb0 xb st a w S hb lb) :
    (∀ d, VOK P w0 S0 hb0 xb o a w (.lptr d (st.gen d) 0 0) (st.mk_ d false t i.size [i.zero])) ∧ VOK P w0 S0 hb0 xb o a w (.ptr st.hp.length 0) { st with hp := st.hp ++ [i.zero] } := by
  obtain ⟨inf, z, h1, h2, h3, h4, h5, h6, h7⟩ := zero_rep hT ht
  have hx := h7 w S hb
  have he : (execOp a.eval o).run P w = .ok (.value (.pointer (some ⟨w.heap.size, 0, none⟩))) (w.alloc (.cells z.cells t)) := by
    refine run_v (s := Instr.alloc t true (.tuple #[])) (by unfold execOp; rw [ho]) ?_
    unfold Instr.alloc
    simp only [Sem.run_bind, run_zeroValue h1 h4, Result.andThen_ok]
    rfl
  refine ⟨fun d => newVar_ok I d t i.size (x := i.zero) (cells := z.cells) (srepL_of_crepL hx.1 hx.2) h6 he, newHp_ok I hx.1 hx.2 he⟩
theorem box_run {o : Oper} {t : TypeId} {x : Operand} (ho : o.op = .box t x) : (execOp a.eval o).run P w = .ok (.value (.pointer (some ⟨w.heap.size, 0, none⟩))) (w.alloc (.cells (a.eval x).cells t)) := by
  refine run_v (s := Instr.box t (a.eval x)) (by unfold execOp; rw [ho]) ?_
  rfl
theorem box_ok {o : Oper} {t : TypeId} {x : Operand} {v : AV} {n : Nat} (ho : o.op = .box t x) (hx : opnd st x = some v) (hs : (cellsOf v).length = n) (hc : okCells st v = true) (I : Inv w0 S0 hb0 xb st a w S hb lb) (d : Nat) :
    VOK P w0 S0 hb0 xb o a w (.lptr d (st.gen d) 0 0) (st.mk_ d false t n [cellsOf v]) :=
  newVar_ok I d t n (srepL_cells hc (I.opnd hx)) hs (box_run ho)
theorem boxHp_ok {o : Oper} {t : TypeId} {x : Operand} {v y : AV} (ho : o.op = .box t x) (hx : opnd st x = some v) (hy : giveV st v = some (y, st')) (I : Inv w0 S0 hb0 xb st a w S hb lb) :
    VOK P w0 S0 hb0 xb o a w (.ptr st'.hp.length 0) { st' with hp := st'.hp ++ [cellsOf y] } := by
  obtain ⟨S', I', H, K, c1, c2, c3, _⟩ := giveV_ok I (I.opnd hx) hy
  exact newHp_ok I' c2 c3 (box_run ho)
theorem makeInterface_ok {cf : Cfg} (hT : TabOK P cf.tab) {o : Oper} {t : TypeId} {x : Operand} {v y : AV} {i : TI} (ho : o.op = .makeInterface t x) (ht : cf.tab t = some i) (hd : ∀ ms, i.desc ≠ .interface ms) (hx : opnd st x = some v) (hy : giveV st v = some (y, st')) (I : Inv w0 S0 hb0 xb st a w S hb lb) :
    VOK P w0 S0 hb0 xb o a w (.iface t y) st' := by
  obtain ⟨S', I', H, K, c1, c2, c3, _⟩ := giveV_ok I (I.opnd hx) hy
  refine .here I' (cv := .iface t (a.eval x)) (run_v (s := Instr.makeInterface t (a.eval x)) (by unfold execOp; rw [ho]) ?_) ?_
  · unfold Instr.makeInterface
    simp only [Sem.run_bind, run_underlying_ (hT.und t i ht), Result.andThen_ok]
    cases h : i.desc <;> first | rfl | exact (hd _ h).elim
  · exact crep_frep (by rw [crep]; exact ⟨_, rfl, c1⟩)
theorem opndL_ok (I : Inv w0 S0 hb0 xb st a w S hb lb) : ∀ {xs : List Operand} {vs : List AV}, opndL st xs = some vs → frepL w S hb (nm st lb) vs (xs.map a.eval)
  | [], vs, h => by simp only [opndL, Option.some.injEq] at h; subst h; rfl
  | x :: xs, vs, h => by
    simp only [opndL] at h
    split at h
    · rename_i v hv
      split at h
      · rename_i vs' hvs
        simp only [Option.some.injEq] at h; subst h
        exact ⟨_, _, rfl, I.opnd hv, opndL_ok I hvs⟩
      · cases h
    · cases h
theorem makeFunc_ok {o : Oper} {fn : Fn} {first captured : Array Operand} {cs ys : List AV} (ho : o.op = .makeFunc fn first captured) (hf : first.isEmpty = true) (hc : opndL st captured.toList = some cs) (hy : giveC st cs = some (ys, st')) (I : Inv w0 S0 hb0 xb st a w S hb lb) :
    VOK P w0 S0 hb0 xb o a w (.func fn [] ys) st' := by
  obtain ⟨S', I', H, K, c1⟩ := giveC_ok I (opndL_ok I hc) hy
  refine .here I' (cv := .func fn (first.map a.eval) (captured.map a.eval)) (run_v (s := Instr.makeFunc fn (first.map a.eval) (captured.map a.eval)) (by unfold execOp; rw [ho]) rfl) ?_
  refine crep_frep ?_
  rw [crep]
  refine ⟨_, _, rfl, ?_, by simpa using c1⟩
  have : first = #[] := by simpa using hf
  subst this
  simp [crepL]
end
end Go.Ev
