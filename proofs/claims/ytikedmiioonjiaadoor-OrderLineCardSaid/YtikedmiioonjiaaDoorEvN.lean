/- The abstract interpreter: slices of elements, cuts, texts' iterators. -/
import Derived.Test.YtikedmiioonjiaaDoorEvM
import Derived.Laws.RangeAny
set_option linter.unusedVariables false
set_option linter.unusedSimpArgs false
set_option linter.unusedSectionVars false
set_option linter.defProp false
namespace Go.Ev
open Go
section
variable {P : Program} {w0 : World} {S0 : Nat → Prop} {hb0 : List Nat} {xb : Option Nat} {st st' : St} {a : Act} {w w' : World} {S S' : Nat → Prop} {hb hb' : List Nat} {lb lb' : Nat → Option (Nat × Nat)} {N : Nm}

def flatV (vs : List Value) : List Value := vs.flatMap fun v => v.cells.toList
theorem flatV_len {size : Nat} : ∀ {vs : List Value}, (∀ v ∈ vs, v.cells.size = size) → (flatV vs).length = vs.length * size
  | [], _ => by simp [flatV]
  | v :: vs, h => by
    have := flatV_len (vs := vs) fun u hu => h u (by simp [hu])
    unfold flatV at this ⊢
    rw [List.flatMap_cons, List.length_append, this, Array.length_toList, h v (by simp), List.length_cons, Nat.succ_mul]
    omega
theorem fill_rows (size : Nat) : ∀ (vs : List Value) (k : Nat) (cells : Array Value), (∀ v ∈ vs, v.cells.size = size) → (k + vs.length) * size ≤ cells.size →
    Instr.fill (fun i => some (i * size, size)) cells ((List.range' k vs.length).zip vs) = some (cells.toList.take (k * size) ++ flatV vs ++ cells.toList.drop ((k + vs.length) * size)).toArray
  | [], k, cells, _, _ => by simp [Instr.fill, flatV]
  | v :: vs, k, cells, h, hl => by
    have hv := h v (by simp)
    have hl1 : k * size + size ≤ cells.size := by
      refine Nat.le_trans ?_ hl
      rw [← Nat.succ_mul]
      exact Nat.mul_le_mul_right _ (by simp)
    simp only [List.length_cons, List.range'_succ, List.zip_cons_cons]
    rw [fill_step _ cells k (k * size) size v _ rfl hv (by omega)]
    have hp : (put1 cells.toList (k * size) v.cells.toList).length = cells.size := by
      unfold put1
      simp only [List.length_append, List.length_take, List.length_drop, Array.length_toList]
      omega
    rw [fill_rows size vs (k + 1) _ (fun u hu => h u (by simp [hu])) (by
      simp only [List.size_toArray, hp]
      rw [show k + 1 + vs.length = k + (vs.length + 1) by omega]; simpa using hl)]
    congr 2
    have htl : (cells.toList.take (k * size)).length = k * size := by rw [List.length_take, Array.length_toList]; omega
    have e1 : (put1 cells.toList (k * size) v.cells.toList).take ((k + 1) * size) = cells.toList.take (k * size) ++ v.cells.toList := by
      unfold put1
      rw [List.take_left' (by simp only [List.length_append, htl, Array.length_toList, hv]; rw [Nat.succ_mul])]
    have e2 : (put1 cells.toList (k * size) v.cells.toList).drop ((k + 1 + vs.length) * size) = cells.toList.drop ((k + (vs.length + 1)) * size) := by
      have hc : (cells.toList.take (k * size) ++ v.cells.toList).length = (k + 1) * size := by simp only [List.length_append, htl, Array.length_toList, hv]; rw [Nat.succ_mul]
      have : (k + 1 + vs.length) * size = (k + 1) * size + vs.length * size := by rw [Nat.add_mul]
      unfold put1
      rw [this, ← hc, List.drop_append, List.drop_drop]
      rw [List.drop_eq_nil_of_le (by omega), List.nil_append]
      congr 1
      rw [hc, Array.length_toList, hv, show k + (vs.length + 1) = k + 1 + vs.length by omega, Nat.add_mul, Nat.add_mul (k + 1)]
      rw [Nat.add_mul] at hc ⊢
      omega
    rw [List.toList_toArray, e1, e2]
    unfold flatV
    simp [List.append_assoc]
theorem rowsAt_flat {size : Nat} : ∀ {ys : List AV} {us : List Value}, us.length = ys.length → (∀ (i : Nat) (y : AV) (v : Value), ys[i]? = some y → us[i]? = some v → crepL w S hb (cellsOf y) v.cells.toList ∧ (∀ u ∈ v.cells.toList, u.oneCell' = true) ∧ (cellsOf y).length = size) → RowsAt w S hb N false size (ys.map cellsOf) (flatV us) ∧ ∀ v ∈ us, v.cells.size = size
  | [], [], _, _ => ⟨.nil, by simp⟩
  | [], _ :: _, h, _ => by simp at h
  | _ :: _, [], h, _ => by simp at h
  | y :: ys, u :: us, hl, h => by
    obtain ⟨h1, h2, h3⟩ := h 0 y u rfl rfl
    obtain ⟨k1, k2⟩ := rowsAt_flat (ys := ys) (us := us) (by simpa using hl) (fun i y v e1 e2 => h (i + 1) y v (by simpa using e1) (by simpa using e2))
    have hs : u.cells.size = size := by rw [← Array.length_toList, crepL_len h1, h3]
    refine ⟨?_, fun v hv => ?_⟩
    · have := (RowsAt.one (N := N) h3 (srepL_of_crepL h1 h2)).append (by simp [hs]) k1
      unfold flatV at this ⊢
      simpa using this
    · rcases List.mem_cons.1 hv with rfl | hv
      · exact hs
      · exact k2 v hv
theorem prep_zip : ∀ {ps : List (Nat × AV)} {vs : List (Nat × Value)}, prep w S hb N ps vs → ∃ us, vs = (ps.map (·.1)).zip us ∧ frepL w S hb N (ps.map (·.2)) us
  | [], _, h => ⟨[], by cases h; rfl, rfl⟩
  | p :: ps, _, ⟨u, us, e, h1, h2⟩ => by
    obtain ⟨us', k1, k2⟩ := prep_zip h2
    subst e
    exact ⟨u :: us', by rw [k1]; rfl, u, us', rfl, h1, k2⟩
theorem frepL_len : ∀ {xs : List AV} {vs : List Value}, frepL w S hb N xs vs → vs.length = xs.length
  | [], _, h => by cases h; rfl
  | _ :: _, _, ⟨u, us, e, _, h2⟩ => by subst e; simp [frepL_len h2]
theorem buildSlice_ok {cf : Cfg} (hT : TabOK P cf.tab) (I : Inv w0 S0 hb0 xb st a w S hb lb) {o : Oper} {t e : TypeId} {len : Nat} {parts : Array (Nat × Operand)} {i ei : TI} {ps : List (Nat × AV)} {ys : List AV} (ho : o.op = .buildSlice t len parts) (ht : cf.tab t = some i) (hd : i.desc = .slice e) (he : cf.tab e = some ei) (hps : opndP st parts.toList = some ps) (hsmall : len * ei.size ≤ 16777216) (hsz : ei.size ≠ 0)
    (hg : giveA st (ps.map (·.2)) = some (ys, st')) (hix : ps.map (·.1) = List.range len) (hys : ys.all (fun v => (cellsOf v).length == ei.size && (cellsOf v).all clean1) = true) (d : Nat) :
    VOK P w0 S0 hb0 xb o a w (.lrow d (st'.gen d)) (st'.mk_ d false e ei.size (ys.map cellsOf)) := by
  obtain ⟨us, p1, p2⟩ := prep_zip (opndP_ok I hps)
  obtain ⟨S', I', H, K, c1, c2, c3⟩ := giveA_ok I p2 hg
  have hlen : us.length = len := by rw [frepL_len p2, List.length_map, ← List.length_map (f := (·.1)), hix, List.length_range]
  have hyl : us.length = ys.length := by rw [crepL_len c1]
  obtain ⟨r1, r2⟩ := rowsAt_flat (w := w) (S := S') (hb := hb) (N := nm st' lb) (size := ei.size) hyl (fun k y v e1 e2 => by
    have hy := List.all_eq_true.1 hys y (List.mem_of_getElem? e1)
    simp only [Bool.and_eq_true, beq_iff_eq] at hy
    exact ⟨c3 k y v e1 e2, c2 v (List.mem_of_getElem? e2), hy.1⟩)
  have u1 := run_underlying_ (w := w) (hT.und _ _ ht)
  rw [hd] at u1
  obtain ⟨inf, z, g1, g2, g3, g4, g5, g6, g7⟩ := zero_rep hT he
  have hfill : ∀ init : Array Value, init.size = len * ei.size → Instr.fill (fun i => some (i * ei.size, ei.size)) init ((List.range len).zip us) = some (flatV us).toArray := fun init hi => by
    have := fill_rows ei.size us 0 init r2 (by rw [hi, hlen]; simp)
    rw [hlen, ← List.range_eq_range'] at this
    rw [this]
    have h2 : init.toList.drop ((0 + len) * ei.size) = [] := List.drop_eq_nil_of_le (by simp [hi])
    rw [h2]
    simp
  obtain ⟨I2, K2, H2⟩ := I'.newRows (w' := w.alloc (.cells (flatV us).toArray e)) d e ei.size (ys.map cellsOf) (arr := (flatV us).toArray) (cap := len) rfl rfl rfl rfl (by simpa using r1) (by simp only [List.size_toArray]; rw [flatV_len r2, hlen]) (by simp [← hyl, hlen]) (by
    have : len ≤ len * ei.size := Nat.le_mul_of_pos_right _ (Nat.pos_of_ne_zero hsz)
    simp only [maxLen]; omega)
  refine ⟨_, _, S', hb, _, .inl (run_v (s := Instr.buildSlice t len (parts.map fun (i, x) => (i, a.eval x))) (by unfold execOp; rw [ho]) (?_ : _ = Result.ok (.slice (some ⟨w.heap.size, 0, none⟩) len len) (w.alloc (.cells (flatV us).toArray e)))), I2, ?_⟩
  · unfold Instr.buildSlice
    simp only [Sem.run_bind, u1, Result.andThen_ok, run_sizeOf hT he]
    rw [if_neg (by omega)]
    have hpm : (parts.map fun (x : Nat × Operand) => (x.1, a.eval x.2)).toList = (List.range len).zip us := by
      rw [← hix, ← p1]; simp
    by_cases h0 : len * ei.size = 0
    · rw [if_pos h0]
      simp only [Sem.run_bind, Sem.run_pure, Result.andThen_ok, hpm]
      rw [hfill _ (by simp)]
      rfl
    · rw [if_neg h0]
      simp only [Sem.run_bind, run_zeroValue g1 g4, Sem.run_pure, Result.andThen_ok, hpm]
      rw [hfill _ (by simp)]
      rfl
  · have := mk_lrow (w := w.alloc (.cells (flatV us).toArray e)) (S := S') (hb := hb) (st := st') (lb := lb) d e ei.size (ys.map cellsOf) (cap := len) (b := w.heap.size)
    have hl2 : (ys.map cellsOf).length = len := by rw [List.length_map, ← hyl, hlen]
    rwa [hl2] at this

/-! ### Cuts -/
/-- A bound. -/
def bnd : Option Int → Option Value → Prop
  | none, v => v = none
  | some n, v => ∃ k, v = some (.int k n)
theorem optIdx_ok (I : Inv w0 S0 hb0 xb st a w S hb lb) {x : Option Operand} {n : Option Int} (h : optIdx st x = some n) : bnd n (x.map a.eval) := by
  cases x with
  | none => simp only [optIdx, Option.some.injEq] at h; subst h; rfl
  | some x =>
    simp only [optIdx] at h
    split at h
    · rename_i v hv
      have h1 := I.opnd hv
      cases v <;> simp only [idx, reduceCtorEq, Option.some.injEq] at h
      subst h
      exact ⟨_, by rw [Option.map_some, frep_int.1 h1]⟩
    · cases h
theorem run_bounds {isS : Bool} {len cap : Nat} (hc : len ≤ cap) {lo hi mx : Option Int} {vl vh vm : Option Value} (bl : bnd lo vl) (bh : bnd hi vh) (bm : bnd mx vm) (h1 : 0 ≤ lo.getD 0) (h2 : lo.getD 0 ≤ hi.getD len) (h3 : hi.getD len ≤ len) (h4 : ∀ m, mx = some m → m = hi.getD len ∧ hi.isSome = true) :
    (Instr.sliceBounds isS len cap vl vh vm).run P w = .ok ((lo.getD 0).toNat, (hi.getD len).toNat, if mx.isSome then (hi.getD len).toNat else cap) w := by
  cases mx with
  | none =>
    cases bm
    cases hi with
    | none =>
      cases bh
      cases lo with
      | none => cases bl; simp [Instr.sliceBounds]
      | some l =>
        obtain ⟨k, rfl⟩ := bl
        simp only [Option.getD_some, Option.getD_none] at h1 h2
        simp [Instr.sliceBounds, run_sliceBound, h1, h2]
    | some h =>
      obtain ⟨kh, rfl⟩ := bh
      simp only [Option.getD_some] at h2 h3
      have hh0 : 0 ≤ h := Int.le_trans h1 h2
      have eh : (h.toNat : Int) = h := Int.toNat_of_nonneg hh0
      cases lo with
      | none => cases bl; simp [Instr.sliceBounds, run_sliceBound, hh0, (by omega : h ≤ (cap : Int))]
      | some l =>
        obtain ⟨k, rfl⟩ := bl
        simp only [Option.getD_some] at h1 h2
        simp [Instr.sliceBounds, run_sliceBound, hh0, (by omega : h ≤ (cap : Int)), h1, h2, eh]
  | some m =>
    obtain ⟨km, rfl⟩ := bm
    obtain ⟨e1, e2⟩ := h4 m rfl
    cases hi with
    | none => simp at e2
    | some h =>
      obtain ⟨kh, rfl⟩ := bh
      simp only [Option.getD_some] at h2 h3 e1
      subst e1
      have hh0 : 0 ≤ m := Int.le_trans h1 h2
      have eh : (m.toNat : Int) = m := Int.toNat_of_nonneg hh0
      cases lo with
      | none => cases bl; simp [Instr.sliceBounds, run_sliceBound, hh0, (by omega : m ≤ (cap : Int)), eh]
      | some l =>
        obtain ⟨k, rfl⟩ := bl
        simp only [Option.getD_some] at h1 h2
        simp [Instr.sliceBounds, run_sliceBound, hh0, (by omega : m ≤ (cap : Int)), h1, h2, eh]
theorem cut_ok {cf : Cfg} (hT : TabOK P cf.tab) {t e : TypeId} {i ei : TI} (ht : cf.tab t = some i) (hd : i.desc = .slice e) (he : cf.tab e = some ei) {full : Bool} {xs : List (List AV)} {cv : Value} (hx : crep w S hb (.rows full xs) cv) (hsz : xs.all (fun x => x.length == ei.size) = true) {lo hi mx : Option Int} {vl vh vm : Option Value} (bl : bnd lo vl) (bh : bnd hi vh) (bm : bnd mx vm) {r : AV} (hr : cutA xs full lo hi mx = some r) :
    ∃ cr, (Instr.sliceAt t cv vl vh vm).run P w = .ok cr w ∧ crep w S hb r cr ∧ notAgg r = true := by
  rw [crep] at hx
  obtain ⟨A, c, rfl, k2, k3, k4⟩ := hx
  have u1 := run_underlying_ (w := w) (hT.und _ _ ht)
  rw [hd] at u1
  unfold cutA at hr
  split at hr
  · rename_i hb_
    obtain ⟨h1, h2, h3⟩ := hb_
    have hm : ∀ m, mx = some m → m = hi.getD xs.length ∧ hi.isSome = true := fun m e => by
      subst e
      simp only at hr
      split at hr
      · rename_i hh; exact hh
      · cases hr
    have hrun := run_bounds (P := P) (w := w) (isS := true) k2 bl bh bm h1 h2 h3 hm
    generalize hL : (lo.getD 0).toNat = l at *
    generalize hH : (hi.getD (xs.length : Int)).toNat = h at *
    have hlh : l ≤ h := by omega
    have hhl : h ≤ xs.length := by omega
    refine ⟨.slice (if (if mx.isSome then h else c) = l then A else A.map (·.add (l * ei.size))) (h - l) ((if mx.isSome then h else c) - l), ?_, ?_⟩
    · unfold Instr.sliceAt
      simp only [Sem.run_bind, u1, Result.andThen_ok]
      unfold Instr.slice
      simp only [Sem.run_bind, u1, Result.andThen_ok, hrun, run_sizeOf hT he, Sem.run_pure]
    · have hcut : ((xs.take h).drop l).length = h - l := by rw [List.length_drop, List.length_take]; omega
      have key : ∀ f : Bool, (f = true → (if mx.isSome then h else c) = h) → crep w S hb (.rows f ((xs.take h).drop l)) (.slice (if (if mx.isSome then h else c) = l then A else A.map (·.add (l * ei.size))) (h - l) ((if mx.isSome then h else c) - l)) := fun f hf => by
        rw [crep]
        refine ⟨_, _, by rw [hcut], ?_, fun e => ?_, fun hne => ?_⟩
        · rw [hcut]; split <;> omega
        · rw [hcut, hf e]
        · have hlt : l < h := by
            rcases Nat.lt_or_ge l h with hh | hh
            · exact hh
            · exact absurd (List.eq_nil_of_length_eq_zero (by rw [hcut]; omega)) hne
          have hxne : xs ≠ [] := fun e => by subst e; simp at hhl; omega
          obtain ⟨b, o, sz, rfl, e6, e7⟩ := k4 hxne
          have hss : sz = ei.size := by
            obtain ⟨y, hy⟩ := List.exists_mem_of_ne_nil xs hxne
            have := List.all_eq_true.1 hsz y hy
            rw [← crepR_len e7 y hy]
            simpa using this
          subst hss
          have hne2 : ¬ (if mx.isSome then h else c) = l := by split <;> omega
          rw [if_neg hne2]
          exact ⟨b, o + l * ei.size, ei.size, by simp [add_at], e6, crepR_cut e7 l h⟩
      cases mx with
      | none =>
        simp only [Option.some.injEq] at hr; subst hr
        refine ⟨key _ fun hf => ?_, rfl⟩
        simp only [Bool.and_eq_true, beq_iff_eq] at hf
        have := k3 hf.1
        simp only [Option.isSome_none, Bool.false_eq_true, if_false]
        omega
      | some m =>
        simp only at hr
        split at hr
        · simp only [Option.some.injEq] at hr; subst hr
          exact ⟨key _ fun _ => by simp, rfl⟩
        · cases hr
  · cases hr
theorem sliceRows_ok {cf : Cfg} (hT : TabOK P cf.tab) (I : Inv w0 S0 hb0 xb st a w S hb lb) {o : Oper} {t e : TypeId} {x : Operand} {lo hi mx : Option Operand} {i ei : TI} {full : Bool} {xs : List (List AV)} {l h m : Option Int} {r : AV} (ho : o.op = .slice t x lo hi mx) (ht : cf.tab t = some i) (hd : i.desc = .slice e) (he : cf.tab e = some ei) (hx : opnd st x = some (.rows full xs)) (hl : optIdx st lo = some l) (hh : optIdx st hi = some h) (hm : optIdx st mx = some m) (hsz : xs.all (fun x => x.length == ei.size) = true) (hr : cutA xs full l h m = some r) : VOK P w0 S0 hb0 xb o a w r st := by
  have h1 := I.opnd hx
  rw [frep_eq (by rfl)] at h1
  obtain ⟨cr, k1, k2, k3⟩ := cut_ok (w := w) hT ht hd he (show crep w S hb (.rows full xs) _ from h1) hsz (optIdx_ok I hl) (optIdx_ok I hh) (optIdx_ok I hm) hr
  exact .here I (cv := cr) (run_v (s := Instr.sliceAt t (a.eval x) (lo.map a.eval) (hi.map a.eval) (mx.map a.eval)) (by unfold execOp; rw [ho]) k1) (crep_frep k2)
theorem sliceRow_ok {cf : Cfg} (hT : TabOK P cf.tab) (I : Inv w0 S0 hb0 xb st a w S hb lb) {o : Oper} {t e : TypeId} {x : Operand} {lo hi mx : Option Operand} {i ei : TI} {d g : Nat} {full : Bool} {xs : List (List AV)} {l h m : Option Int} {r : AV} (ho : o.op = .slice t x lo hi mx) (ht : cf.tab t = some i) (hd : i.desc = .slice e) (he : cf.tab e = some ei) (hx : opnd st x = some (.lrow d g)) (hl : optIdx st lo = some l) (hh : optIdx st hi = some h) (hm : optIdx st mx = some m) (hg : give1 st (.lrow d g) = some (.rows full xs, st')) (hsz : xs.all (fun x => x.length == ei.size) = true) (hr : cutA xs false l h m = some r) : VOK P w0 S0 hb0 xb o a w r st' := by
  have h1 := I.opnd hx
  rw [frep_eq (by rfl)] at h1
  obtain ⟨S', I', H, K, c1, c2, c3⟩ := give1_ok I h1 hg
  have c1' : crep w S' hb (.rows false xs) (a.eval x) := by
    rw [crep] at c1 ⊢
    obtain ⟨A, c, e1, e2, e3, e4⟩ := c1
    exact ⟨A, c, e1, e2, by simp, e4⟩
  obtain ⟨cr, k1, k2, k3⟩ := cut_ok (w := w) hT ht hd he c1' hsz (optIdx_ok I hl) (optIdx_ok I hh) (optIdx_ok I hm) hr
  exact .here I' (cv := cr) (run_v (s := Instr.sliceAt t (a.eval x) (lo.map a.eval) (hi.map a.eval) (mx.map a.eval)) (by unfold execOp; rw [ho]) k1) (crep_frep k2)
theorem sliceStr_ok {cf : Cfg} (hT : TabOK P cf.tab) (I : Inv w0 S0 hb0 xb st a w S hb lb) {o : Oper} {t : TypeId} {x : Operand} {lo hi mx : Option Operand} {i : TI} {s : ByteArray} {l h : Option Int} {r : AV} (ho : o.op = .slice t x lo hi mx) (ht : cf.tab t = some i) (hd : i.desc = .string) (hx : opnd st x = some (.str s)) (hl : optIdx st lo = some l) (hh : optIdx st hi = some h) (hm : optIdx st mx = some none) (hr : cutS s l h = some r) : VOK P w0 S0 hb0 xb o a w r st := by
  have h1 := frep_str.1 (I.opnd hx)
  have u1 := run_underlying_ (w := w) (hT.und _ _ ht)
  rw [hd] at u1
  unfold cutS at hr
  split at hr
  · rename_i hc
    simp only [Option.some.injEq] at hr; subst hr
    have bm := optIdx_ok I hm
    have hrun := run_bounds (P := P) (w := w) (isS := false) (len := s.size) (cap := s.size) (Nat.le_refl _) (optIdx_ok I hl) (optIdx_ok I hh) (mx := none) (vm := none) rfl hc.1 hc.2.1 hc.2.2 (by simp)
    refine .here I (cv := .string (s.extract (l.getD 0).toNat (h.getD s.size).toNat)) (run_v (s := Instr.sliceAt t (a.eval x) (lo.map a.eval) (hi.map a.eval) (mx.map a.eval)) (by unfold execOp; rw [ho]) ?_) (frep_str.2 rfl)
    rw [h1, show mx.map a.eval = none from bm]
    unfold Instr.sliceAt
    simp only [Sem.run_bind, u1, Result.andThen_ok]
    unfold Instr.slice
    simp only [Sem.run_bind, u1, Result.andThen_ok, hrun, Option.isSome_none, Bool.false_eq_true, if_false, Sem.run_pure]
  · cases hr
theorem range_ok {cf : Cfg} (hT : TabOK P cf.tab) (I : Inv w0 S0 hb0 xb st a w S hb lb) {o : Oper} {t : TypeId} {x : Operand} {i : TI} {s : ByteArray} (ho : o.op = .range t x) (ht : cf.tab t = some i) (hd : i.desc = .string) (hx : opnd st x = some (.str s)) (d : Nat) : VOK P w0 S0 hb0 xb o a w (.liter d (st.gen d)) (st.mk_ d true 0 2 [[.str s, .int .i64 0]]) := by
  have h1 := frep_str.1 (I.opnd hx)
  have u1 := hT.und _ _ ht
  rw [hd] at u1
  obtain ⟨I', K, H⟩ := I.new (w' := w.alloc (.stringIter s 0)) d true 0 2 [[.str s, .int .i64 0]] (some (w.heap.size, 0)) rfl rfl rfl (by simp) (fun k hk => by rw [alloc_heap, Array.getElem?_push_lt hk, Array.getElem?_eq_getElem hk]) (fun b c e => by simp only [Option.some.injEq, Prod.mk.injEq] at e; omega) (fun _ _ => by
    unfold LRep
    simp only [setlb, if_true]
    exact ⟨s, 0, rfl, Int.le_refl _, by rw [alloc_heap]; simp, fun h => Nat.lt_irrefl _ (I.Slt _ h)⟩)
  refine ⟨_, _, S, hb, _, .inl (run_v (s := Instr.range t (a.eval x)) (by unfold execOp; rw [ho]) ?_), I', mk_liter d true 0 2 _⟩
  rw [h1]
  exact run_range_string w t s u1
theorem next_ok {o : Oper} {it : Operand} {d g : Nat} {f : Bool} {ty sz : Nat} {s : ByteArray} {p : Int} (I : Inv w0 S0 hb0 xb st a w S hb lb) (ho : o.op = .next it true) (hx : opnd st it = some (.liter d g)) (hq : st.lobj d g = some ⟨g, f, true, ty, sz, [[.str s, .int .i64 p]]⟩) (hp : 0 ≤ p) :
    (p < s.size → VOK P w0 S0 hb0 xb o a w (.tuple [.bool true, .int .i64 p, .int .i32 (Utf8.decode s p.toNat).1]) { st with loc := st.loc.set d (some ⟨g, f, true, ty, sz, [[.str s, .int .i64 (p + (Utf8.decode s p.toNat).2)]]⟩) }) ∧
    (¬ p < s.size → VOK P w0 S0 hb0 xb o a w (.tuple [.bool false]) st) := by
  have h1 := I.opnd hx
  rw [frep_eq (by rfl)] at h1
  obtain ⟨e1, e2⟩ := lobj_some.1 hq
  obtain ⟨b, cap, hl, hv⟩ := h1.2 _ e1 rfl
  have hl : lb d = some (b, cap) := hl
  have hrep := I.locs d _ e1
  unfold LRep at hrep
  simp only [hl, if_true] at hrep
  obtain ⟨s', p', k1, k2, k3, k4⟩ := hrep
  simp only [List.cons.injEq, AV.str.injEq, AV.int.injEq, true_and, and_true] at k1
  obtain ⟨rfl, rfl⟩ := k1
  have hE : ∀ cv w', (Instr.next (a.eval it) true o.type).run P w = .ok cv w' → (execOp a.eval o).run P w = .ok (.value cv) w' := fun cv w' h => run_v (s := Instr.next (a.eval it) true o.type) (by unfold execOp; rw [ho]) h
  refine ⟨fun hlt => ?_, fun hge => ?_⟩
  · have hlt' : p.toNat < s.size := by omega
    have hpp : ((p.toNat : Nat) : Int) = p := Int.toNat_of_nonneg hp
    have hbl : b < w.heap.size := (Array.getElem?_eq_some_iff.1 k3).1
    have H : Stays w { w with heap := w.heap.setIfInBounds b (.stringIter s (p.toNat + (Utf8.decode s p.toNat).2)) } S S hb hb := ⟨fun _ h => h, fun k h => by
      have hne : b ≠ k := fun e => k4 (e ▸ h)
      simp only [Array.getElem?_setIfInBounds, if_neg hne], fun _ _ h => h⟩
    have hoth : ∀ k, k ≠ b → ({ w with heap := w.heap.setIfInBounds b (.stringIter s (p.toNat + (Utf8.decode s p.toNat).2)) } : World).heap[k]? = w.heap[k]? := fun k h => by
      simp only [Array.getElem?_setIfInBounds, if_neg (Ne.symm h)]
    obtain ⟨I', K⟩ := I.step (st' := { st with loc := st.loc.set d (some ⟨g, f, true, ty, sz, [[.str s, .int .i64 (p + (Utf8.decode s p.toNat).2)]]⟩) }) (lb' := lb) d H rfl rfl rfl (by simp)
      (fun k _ _ hk => ⟨hoth k (fun e => hk _ cap e1 (e ▸ hl)), fun h => h⟩) (fun k h => by simpa using I.Slt k h) (fun k h => .inl h)
      (HRep_mono H (fun k hk => hoth k (fun e => I.lbhb d _ b cap e1 hl (e ▸ hk))) I.heap.out I.heap) rfl (by simp) (fun _ => Nat.le_refl _)
      (fun k hk => ⟨by rw [set_loc]; simp [hk], rfl⟩)
      (fun o' h => by
        rw [set_loc, if_pos ⟨rfl, loc_lt e1⟩] at h
        simp only [Option.some.injEq] at h; subst h
        have hgg := I.gens d _ e1
        refine ⟨hgg, fun _ => ⟨_, e1, rfl, rfl, rfl, ⟨rfl, rfl⟩, rfl⟩, fun _ => ?_, fun b' c' h => .inr ⟨_, c', e1, h⟩⟩
        unfold LRep
        simp only [hl, if_true]
        refine ⟨s, _, rfl, by omega, ?_, k4⟩
        rw [show (p + ((Utf8.decode s p.toNat).2 : Int)).toNat = p.toNat + (Utf8.decode s p.toNat).2 by omega]
        simp [Array.getElem?_setIfInBounds, hbl])
    refine ⟨.tuple #[.bool true, .int .i64 p, .int .i32 (Utf8.decode s p.toNat).1], _, S, hb, lb, .inl (hE _ _ ?_), I', ?_⟩
    · rw [hv]
      simp only [Instr.next, getObj, setObj, Sem.run_bind, Sem.run, Result.andThen, k3, hlt', if_true, goInt, hpp]
      rfl
    · apply crep_frep
      rw [crep]
      exact ⟨_, rfl, by simp [crepL, crep]⟩
  · have hge' : ¬ p.toNat < s.size := by omega
    refine .here I (cv := .tuple #[.bool false]) (hE _ _ ?_) ?_
    · rw [hv]
      simp only [Instr.next, getObj, Sem.run_bind, Sem.run, Result.andThen, k3, hge', if_false]
      rfl
    · apply crep_frep
      rw [crep]
      exact ⟨_, rfl, by simp [crepL, crep]⟩
theorem nilCheck_ok' {o : Oper} {x : Operand} {p : AV} (ho : o.op = .nilCheck x) (I : Inv w0 S0 hb0 xb st a w S hb lb) (hx : opnd st x = some p) (hp : ptrOK st p) : VOK P w0 S0 hb0 xb o a w p st := by
  obtain ⟨b, e, h1, h2⟩ := frep_atAddr I (I.opnd hx) hp
  refine .here I (cv := .pointer (some ⟨b, e, none⟩)) ?_ (atAddr_frep I h2)
  unfold execOp
  rw [ho]
  simp only [h1]
  rfl
end
end Go.Ev
