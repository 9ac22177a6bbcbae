/- The abstract interpreter: append, make, slices of elements. -/
import Derived.Test.YtikedmiioonjiaaDoorEvK
import Derived.Deep.Upon
set_option linter.unusedVariables false
set_option linter.unusedSimpArgs false
set_option linter.unusedSectionVars false
set_option linter.defProp false
namespace Go.Ev
open Go
section
variable {P : Program} {w0 : World} {S0 : Nat → Prop} {hb0 : List Nat} {xb : Option Nat} {st st' : St} {a : Act} {w w' : World} {S S' : Nat → Prop} {hb hb' : List Nat} {lb lb' : Nat → Option (Nat × Nat)} {N : Nm}

theorem flat_ok {b size : Nat} : ∀ {ys : List (List AV)} {o : Nat}, (∀ (i : Nat) (y : List AV), ys[i]? = some y → y.length = size ∧ CellsAt w S hb N b y (o + i * size)) →
    ∃ news : List Value, news.length = ys.length * size ∧ (∀ (j : Nat) (u : Value), news[j]? = some u → w.cell? ⟨b, o + j, none⟩ = some u ∧ u.oneCell' = true) ∧ RowsAt w S hb N false size ys news
  | [], o, _ => ⟨[], by simp, by simp, .nil⟩
  | y :: ys, o, h => by
    obtain ⟨h1, h2⟩ := h 0 y rfl
    simp only [Nat.zero_mul, Nat.add_zero] at h2
    obtain ⟨vs, k1, k2⟩ := h2.list
    obtain ⟨news, g1, g2, g3⟩ := flat_ok (ys := ys) (o := o + size) (fun i y' hy => by
      have := h (i + 1) y' (by simpa using hy)
      rwa [Nat.succ_mul, Nat.add_comm (i * size), ← Nat.add_assoc] at this)
    have hvl : vs.length = size := by rw [srepL_len k1, h1]
    refine ⟨vs ++ news, by rw [List.length_append, hvl, g1, List.length_cons, Nat.succ_mul]; omega, fun j u hj => ?_, ?_⟩
    · by_cases hj' : j < vs.length
      · rw [List.getElem?_append_left hj'] at hj
        refine ⟨k2 j u hj, ?_⟩
        have hlt : j < y.length := by rw [h1]; omega
        obtain ⟨u', m1, m2, m3, m4⟩ := srepL_get k1 j _ (List.getElem?_eq_getElem hlt)
        have : u' = u := Option.some.inj (m1.symm.trans hj)
        rw [← this]; exact m4
      · rw [List.getElem?_append_right (by omega)] at hj
        obtain ⟨m1, m2⟩ := g2 _ u hj
        exact ⟨by rw [show o + j = o + size + (j - vs.length) by omega]; exact m1, m2⟩
    · exact (RowsAt.one h1 k1).append (by simp [hvl]) g3

/-- A row that is read: what it is. -/
theorem elems_ok (I : Inv w0 S0 hb0 xb st a w S hb lb) {x : AV} {cv : Value} {ys : List (List AV)} {size : Nat} (hx : frep w S hb (nm st lb) x cv) (he : elemsOf st x = some ys) (hsz : ∀ y ∈ ys, y.length = size) :
    ∃ A c, cv = .slice A ys.length c ∧ (ys = [] ∨ ∃ b o, A = some ⟨b, o, none⟩ ∧ ∃ news : List Value, news.length = ys.length * size ∧ (∀ (j : Nat) (u : Value), news[j]? = some u → w.cell? ⟨b, o + j, none⟩ = some u ∧ u.oneCell' = true) ∧ RowsAt w S hb (nm st lb) false size ys news) := by
  cases x <;> simp only [elemsOf, reduceCtorEq] at he
  case rows full xs =>
    simp only [Option.some.injEq] at he; subst he
    rw [frep_eq (by rfl)] at hx
    simp only [srep, crep] at hx
    obtain ⟨A, c, e1, e2, e3, e4⟩ := hx
    refine ⟨A, c, e1, ?_⟩
    by_cases hn : xs = []
    · exact .inl hn
    · obtain ⟨b, o, sz, e5, e6, e7⟩ := e4 hn
      refine .inr ⟨b, o, e5, flat_ok fun i y hy => ⟨hsz y (List.mem_of_getElem? hy), ?_⟩⟩
      have h0 : sz = size := by
        rw [← crepR_len e7 y (List.mem_of_getElem? hy), hsz y (List.mem_of_getElem? hy)]
      subst h0
      exact .of_crepAt (crepR_get e7 i y hy)
  case lrow d g =>
    split at he
    · rename_i o e
      split at he
      · cases he
      · rename_i hit
        have hit : o.it = false := by simpa using hit
        simp only [Option.some.injEq] at he; subst he
        rw [frep_eq (by rfl)] at hx
        obtain ⟨e1, e2⟩ := lobj_some.1 e
        obtain ⟨A, c, k1, k2⟩ := hx.2 o e1 e2 hit
        refine ⟨A, c, k1, ?_⟩
        cases hl : lb d with
        | none =>
          have := I.locs d o e1
          unfold LRep at this
          simp only [hl] at this
          exact .inl this.1
        | some bc =>
          obtain ⟨b, cap⟩ := bc
          simp only [hl] at k2
          refine .inr ⟨b, 0, k2.1, flat_ok fun i y hy => ?_⟩
          have hrep := I.locs d o e1
          obtain ⟨arr, h1, h2, h3, h4, h5, h6⟩ := hrep.rowsAt hit (N := nm st lb) hl
          have hz : o.sz = size := by rw [← (h5 i y hy).1, hsz y (List.mem_of_getElem? hy)]
          refine ⟨hsz y (List.mem_of_getElem? hy), ?_⟩
          have := hrep.at_ hit (N := nm st lb) hl hy
          rwa [hz, ← Nat.zero_add (i * size)] at this
    · cases he
theorem src_ok (I : Inv w0 S0 hb0 xb st a w S hb lb) {tx e' : TypeId} (hk : P.underlying tx = some (.slice e')) {x : AV} {cv : Value} {ys : List (List AV)} {size : Nat} (hx : frep w S hb (nm st lb) x cv) (he : elemsOf st x = some ys) (hsz : ∀ y ∈ ys, y.length = size) :
    ∃ news, Src P size tx cv ys.length news w ∧ RowsAt w S hb (nm st lb) false size ys news := by
  obtain ⟨A, c, rfl, h⟩ := elems_ok I hx he hsz
  rcases h with rfl | ⟨b, o, rfl, news, h1, h2, h3⟩
  · cases A with
    | none => exact ⟨[], Src.ofNil w hk c, .nil⟩
    | some a => exact ⟨[], Src.ofSlice w hk a 0 c [] (by simp) (by simp) (by simp), .nil⟩
  · exact ⟨news, Src.ofSlice w hk ⟨b, o, none⟩ _ c news h1 (fun j u hj => by rw [add_at]; exact (h2 j u hj).1) (fun u hu => by
      obtain ⟨j, hj⟩ := List.getElem?_of_mem hu
      exact (h2 j u hj).2), h3⟩

theorem run_append_room_src' (w : World) (t tx ty e : TypeId) (i : TypeInfo) (ht : P.underlying t = some (.slice e)) (hi : P.info? e = some i) (b sLen sCap : Nat) (x : Value) (n : Nat) (news : List Value) (hs : Src P i.size tx x n news w)
    (hroom : sLen + n ≤ sCap) {cur : Array Value} {tt : TypeId} (hg : w.heap[b]? = some (.cells cur tt (0, 0))) (hfit : sLen * i.size + news.length ≤ cur.size) :
    (Builtin.append_ #[t, tx] ty #[.slice (some ⟨b, 0, none⟩) sLen sCap, x]).run P w = .ok (.slice (some ⟨b, 0, none⟩) (sLen + n) sCap) (w.setRow b (cur.toList.take (sLen * i.size) ++ news ++ cur.toList.drop (sLen * i.size + news.length)).toArray) := by
  have hst := run_storeCells_at P b (sLen * i.size) tt news 0 cur w hg (by simpa using hfit) hs.one
  simp only [Nat.add_zero] at hst
  rcases hs.kind with ⟨e', hk⟩ | hk <;> simp [Builtin.append_, run_underlying ht, run_underlying hk, sizeOf, typeInfo, hi, hs.len, hroom, hs.cells, Addr.add_lit, hst]

theorem alloc_drew_heap (w : World) (o : Obj) : (w.drew.alloc o).heap = w.heap.push o := rfl
/-- append: the parts that hang on nothing. -/
theorem append_grow {cf : Cfg} (hT : TabOK P cf.tab) (I : Inv w0 S0 hb0 xb st a w S hb lb) {t tx ty e : TypeId} {i : TI} (ht : P.underlying t = some (.slice e)) (he : cf.tab e = some i) {A : Option Addr} {cap : Nat} {xs ys : List (List AV)} {olds : List Value} (holds : (Builtin.firstCells i.size xs.length (.slice A xs.length cap)).run P w.drew = .ok olds.toArray w.drew) (ho : RowsAt w S hb (nm st lb) false i.size xs olds) (hol : olds.length = xs.length * i.size)
    {cx : Value} {news : List Value} (hs : Src P i.size tx cx ys.length news w) (hn : RowsAt w S hb (nm st lb) false i.size ys news) (hg : cap < xs.length + ys.length) (hroom : (xs.length + ys.length) * i.bytes ≤ roomB) (hby : i.bytes ≠ 0) (d : Nat) :
    ∃ cap' w', (Builtin.append_ #[t, tx] ty #[.slice A xs.length cap, cx]).run P w = .ok (.slice (some ⟨w.heap.size, 0, none⟩) (xs.length + ys.length) cap') w' ∧ Inv w0 S0 hb0 xb (st.mk_ d false e i.size (xs ++ ys)) a w' S hb (setlb lb d (some (w.heap.size, cap'))) := by
  obtain ⟨inf, z, h1, h2, h3, h4, h5, h6, h7⟩ := zero_rep hT he
  have hlen : xs.length + ys.length ≤ roomB := Nat.le_trans (Nat.le_mul_of_pos_right _ (Nat.pos_of_ne_zero hby)) hroom
  have hml : xs.length + ys.length ≤ maxLen := by simp only [maxLen]; simp only [roomB] at hlen; omega
  have hr := run_append_grow_src (P := P) w t tx ty e inf z ht h1 h4 A xs.length cap olds (by rw [h2]; exact holds) cx ys.length news (by rw [h2]; exact hs) hg (by simp only [roomB] at hlen; omega) (growslice_fits hg (by rw [h3]; exact hroom))
  have hge := grownCap_ge w (xs.length + ys.length) cap e
  obtain ⟨I', _, _⟩ := I.newRows (w' := w.drew.alloc (.cells ((olds ++ news).toArray ++ Builtin.zeroCells z.cells (grownCap w (xs.length + ys.length) cap e - (xs.length + ys.length))) e)) d e i.size (xs ++ ys) (cap := grownCap w (xs.length + ys.length) cap e) rfl rfl rfl (alloc_drew_heap w _)
    (by simpa using (ho.append hol hn).more (Builtin.zeroCells z.cells (grownCap w (xs.length + ys.length) cap e - (xs.length + ys.length))).toList)
    (by
      simp only [Array.size_append, List.size_toArray, size_zeroCells, h5, List.length_append, hol, hs.newsLen, ← Nat.add_mul]
      congr 1
      omega) (by simpa using hge) (grownCap_le_maxLen w _ _ _ hml)
  exact ⟨_, _, hr, I'⟩
theorem run_builtin {o : Oper} {c : Call} {b : Builtin} {s : Array TypeId → TypeId → Array Value → Sem Value} {cv : Value} (ho : o.op = .call c) (hb_ : c.callee = .builtin b) (hs : ∀ ts ty cs vs, builtin b ts ty cs vs = (do pure (Next.value (← s ts ty vs)))) (hr : (s c.argTypes o.type (c.args.map a.eval)).run P w = .ok cv w') : (execOp a.eval o).run P w = .ok (.value cv) w' := by
  unfold execOp
  rw [ho]
  simp only [resolve, hb_, Sem.run_bind, Sem.run_pure, Result.andThen_ok, invoke, hs, hr]
theorem append_ok {cf : Cfg} (hT : TabOK P cf.tab) (I : Inv w0 S0 hb0 xb st a w S hb lb) {t tx ty e e' : TypeId} {i : TI} (ht : P.underlying t = some (.slice e)) (hx : P.underlying tx = some (.slice e')) (he : cf.tab e = some i) {s x : AV} {cs cx : Value} (hs : frep w S hb (nm st lb) s cs) (hxv : frep w S hb (nm st lb) x cx) {ys : List (List AV)} (hys : elemsOf st x = some ys) {d : Nat} {out : Out} (h : appendA e i st d s ys = some out) :
    ∃ v st' cv w' S' lb', out = .val v st' ∧ (Builtin.append_ #[t, tx] ty #[cs, cx]).run P w = .ok cv w' ∧ Inv w0 S0 hb0 xb st' a w' S' hb lb' ∧ frep w' S' hb (nm st' lb') v cv := by
  unfold appendA at h
  split at h
  · cases h
  · rename_i hz
    simp only [not_or] at hz
    obtain ⟨inf, z, h1, h2, h3, h4, h5, h6, h7⟩ := zero_rep hT he
    split at h
    · rename_i xs
      split at h
      · rename_i hc
        obtain ⟨c1, c2, c3, c4⟩ := hc
        simp only [Option.some.injEq] at h; subst h
        have hsz : ∀ y ∈ ys, y.length = i.size := fun y hy => by have := List.all_eq_true.1 c3 y hy; simp only [Bool.and_eq_true, beq_iff_eq] at this; exact this.1
        have hszx : ∀ y ∈ xs, y.length = i.size := fun y hy => by have := List.all_eq_true.1 c4 y hy; simp only [Bool.and_eq_true, beq_iff_eq] at this; exact this.1
        obtain ⟨news, s1, s2⟩ := src_ok I hx hxv hys hsz
        have hfull : ∃ A, cs = .slice A xs.length xs.length := by
          rw [frep_eq (by rfl)] at hs
          simp only [srep, crep] at hs
          obtain ⟨A, c, e1, e2, e3, e4⟩ := hs
          exact ⟨A, by rw [e1, e3 trivial]⟩
        obtain ⟨A, hA⟩ := hfull
        by_cases hne : ys = []
        · subst hne
          have hxe : xs = [] := by rcases c2 with c2 | c2; exact c2; exact absurd rfl c2
          subst hxe
          have hn0 : news = [] := List.eq_nil_of_length_eq_zero (by rw [s1.newsLen]; simp)
          subst hn0
          subst hA
          have hr := run_append_nothing (P := P) w t tx ty e inf ht h1 A 0 0 (Nat.le_refl _) cx (by rw [h2]; exact s1)
          obtain ⟨I', K, H⟩ := I.new (w' := w) d false e i.size [] none rfl rfl rfl (Nat.le_refl _) (fun _ _ => rfl) (by simp) (fun _ _ => by unfold LRep; simp [setlb])
          refine ⟨_, _, _, _, S, _, rfl, hr, I', ?_⟩
          rw [frep_eq (by rfl)]
          refine ⟨bump_lt _ _, fun o k1 k2 _ => ?_⟩
          have k1' : (st.mk_ d false e i.size []).loc.getD d none = some o := k1
          rw [mk_loc] at k1'
          split at k1'
          · simp only [Option.some.injEq] at k1'; subst k1'
            exact ⟨A, 0, rfl, by simp [setlb]⟩
          · rename_i hh
            have : ¬ d < st.loc.length := fun h => hh ⟨rfl, h⟩
            rw [List.getD_eq_getElem?_getD, List.getElem?_eq_none (by omega)] at k1'
            simp at k1'
        · obtain ⟨A', c', e1, e2⟩ := elems_ok I hs (ys := xs) rfl hszx
          have hac : A' = A ∧ c' = xs.length := by rw [hA] at e1; simp only [Value.slice.injEq] at e1; exact ⟨e1.1.symm, e1.2.2.symm⟩
          obtain ⟨rfl, rfl⟩ := hac
          have hlt : xs.length < xs.length + ys.length := by have := List.length_pos_iff.2 hne; omega
          have hold : ∃ olds : List Value, (Builtin.firstCells i.size xs.length (.slice A' xs.length xs.length)).run P w.drew = .ok olds.toArray w.drew ∧ RowsAt w S hb (nm st lb) false i.size xs olds ∧ olds.length = xs.length * i.size := by
            rcases e2 with rfl | ⟨b, o, rfl, olds, g1, g2, g3⟩
            · cases A' with
              | none => exact ⟨[], run_firstCells_none w.drew i.size 0 0 0, .nil, by simp⟩
              | some a' => exact ⟨[], run_firstCells_some (P := P) w.drew i.size 0 a' 0 0 [] (by simp) (by simp), .nil, by simp⟩
            · exact ⟨olds, run_firstCells_some (P := P) w.drew i.size _ ⟨b, o, none⟩ _ _ olds g1 (fun j u hj => by rw [add_at]; exact (g2 j u hj).1), g3, g1⟩
          obtain ⟨olds, o1, o2, o3⟩ := hold
          obtain ⟨cap', w', hr, I'⟩ := append_grow (ty := ty) hT I ht he o1 o2 o3 s1 s2 hlt c1 hz.2 d
          subst hA
          refine ⟨_, _, _, _, S, _, rfl, hr, I', ?_⟩
          have := mk_lrow (w := w') (S := S) (hb := hb) (st := st) (lb := lb) d e i.size (xs ++ ys) (cap := cap') (b := w.heap.size)
          simpa using this
      · cases h
    · rename_i k g
      split at h
      · rename_i o eo
        split at h
        · cases h
        · rename_i hno
          simp only [not_or, Bool.not_eq_true, Decidable.not_not] at hno
          obtain ⟨f1, f2, f3, f4⟩ := hno
          split at h
          · rename_i hc
            obtain ⟨c1, c3⟩ := hc
            simp only [Option.some.injEq] at h; subst h
            have hsz : ∀ y ∈ ys, y.length = i.size := fun y hy => by have := List.all_eq_true.1 c3 y hy; simp only [Bool.and_eq_true, beq_iff_eq] at this; exact this.1
            obtain ⟨news, s1, s2⟩ := src_ok I hx hxv hys hsz
            obtain ⟨e1, e2⟩ := lobj_some.1 eo
            have hs' := hs
            rw [frep_eq (by rfl)] at hs'
            obtain ⟨A, c, k1, k2⟩ := hs'.2 o e1 e2 f2
            have hst : ({ st with loc := st.loc.set k (some { o with g := st.gen k, xs := o.xs ++ ys }), gen := bump st.gen k } : St) = st.mk_ k false e i.size (o.xs ++ ys) := by
              unfold St.mk_
              cases o
              simp only at f1 f2 f3 f4
              subst f1 f2 f3 f4
              rfl
            cases hl : lb k with
            | none =>
              have hrep := I.locs k o e1
              unfold LRep at hrep
              simp only [hl] at hrep
              obtain ⟨r1, _⟩ := hrep
              simp only [hl] at k2
              subst k2
              rw [r1] at k1 c1 hst ⊢
              rw [hst]
              by_cases hne : ys = []
              · subst hne
                have hn0 : news = [] := List.eq_nil_of_length_eq_zero (by rw [s1.newsLen]; simp)
                subst hn0
                subst k1
                have hr := run_append_nothing (P := P) w t tx ty e inf ht h1 A 0 0 (Nat.le_refl _) cx (by rw [h2]; exact s1)
                obtain ⟨I', K, H⟩ := I.new (w' := w) k false e i.size ([] ++ []) none rfl rfl rfl (Nat.le_refl _) (fun _ _ => rfl) (by simp) (fun _ _ => by unfold LRep; simp [setlb])
                refine ⟨_, _, _, _, S, _, rfl, hr, I', ?_⟩
                rw [frep_eq (by rfl)]
                refine ⟨bump_lt _ _, fun o k1 k2 _ => ?_⟩
                have k1' : (st.mk_ k false e i.size ([] ++ [])).loc.getD k none = some o := k1
                rw [mk_loc, if_pos ⟨rfl, loc_lt e1⟩] at k1'
                simp only [Option.some.injEq] at k1'; subst k1'
                exact ⟨A, 0, rfl, by simp [setlb]⟩
              · have hlt : 0 < ([] : List (List AV)).length + ys.length := by have := List.length_pos_iff.2 hne; simpa using this
                have o1 : (Builtin.firstCells i.size ([] : List (List AV)).length (.slice A ([] : List (List AV)).length 0)).run P w.drew = .ok ([] : List Value).toArray w.drew := by
                  cases A with
                  | none => exact run_firstCells_none w.drew i.size 0 0 0
                  | some a' => exact run_firstCells_some (P := P) w.drew i.size 0 a' 0 0 [] (by simp) (by simp)
                obtain ⟨cap', w', hr, I'⟩ := append_grow (ty := ty) hT I ht he o1 .nil (by simp) s1 s2 hlt c1 hz.2 k
                subst k1
                refine ⟨_, _, _, _, S, _, rfl, hr, I', ?_⟩
                have := mk_lrow (w := w') (S := S) (hb := hb) (st := st) (lb := lb) k e i.size ([] ++ ys) (cap := cap') (b := w.heap.size)
                simpa using this
            | some bc =>
              obtain ⟨b, cap⟩ := bc
              simp only [hl] at k2
              obtain ⟨rfl, rfl⟩ := k2
              obtain ⟨arr, g1, g2, g3, g4, g5, g6⟩ := (I.locs k o e1).rowsAt f2 (N := nm st lb) hl
              by_cases hroom : o.xs.length + ys.length ≤ c
              · have hfit : o.xs.length * i.size + news.length ≤ arr.size := by
                  rw [s1.newsLen, g2, f3, ← Nat.add_mul]; exact Nat.mul_le_mul_right _ hroom
                have hr := run_append_room_src' (P := P) w t tx ty e inf ht h1 b o.xs.length c cx ys.length news (by rw [h2]; exact s1) hroom g1 (by rw [h2]; exact hfit)
                rw [h2] at hr
                have htl : (arr.toList.take (o.xs.length * i.size)).length = o.xs.length * i.size := by rw [List.length_take, Array.length_toList]; omega
                obtain ⟨I', K, H⟩ := I.setRows (xs' := o.xs ++ ys) (g' := st.gen k) (gen' := bump st.gen k) (arr' := (arr.toList.take (o.xs.length * i.size) ++ news ++ arr.toList.drop (o.xs.length * i.size + news.length)).toArray) e1 f2 f1 hl g1 (.inr ⟨rfl, rfl⟩) (by simpa using hroom)
                  (by simp only [List.size_toArray, List.length_append, htl, List.length_drop, Array.length_toList]; omega)
                  (by
                    rw [f3] at g5 ⊢
                    have := (g5.unfrz.take.append htl s2).more (arr.toList.drop (o.xs.length * i.size + news.length))
                    simpa using this)
                subst k1
                refine ⟨_, _, _, _, S, lb, rfl, hr, I', ?_⟩
                rw [frep_eq (by rfl)]
                refine ⟨bump_lt _ _, fun o' q1 q2 _ => ?_⟩
                have q1' : (st.loc.set k (some { o with g := st.gen k, xs := o.xs ++ ys })).getD k none = some o' := q1
                rw [List.getD_eq_getElem?_getD, List.getElem?_set, if_pos rfl, if_pos (loc_lt e1)] at q1'
                simp only [Option.getD_some, Option.some.injEq] at q1'; subst q1'
                exact ⟨some ⟨b, 0, none⟩, c, by simp, by simp [hl]⟩
              · have g5' : RowsAt w S hb (nm st lb) false i.size o.xs (arr.toList.take (o.xs.length * i.size)) := by rw [f3] at g5; exact g5.unfrz.take
                have htl : (arr.toList.take (o.xs.length * i.size)).length = o.xs.length * i.size := by
                  rw [List.length_take, Array.length_toList, g2, f3]
                  exact Nat.min_eq_left (Nat.mul_le_mul_right _ g3)
                have o1 : (Builtin.firstCells i.size o.xs.length (.slice (some ⟨b, 0, none⟩) o.xs.length c)).run P w.drew = .ok (arr.toList.take (o.xs.length * i.size)).toArray w.drew :=
                  run_firstCells_some (P := P) w.drew i.size _ ⟨b, 0, none⟩ _ _ _ htl (fun j u hj => by
                    rw [add_at]
                    show w.cell? _ = _
                    rw [cell_of g1, Nat.zero_add]
                    rw [List.getElem?_take] at hj
                    split at hj
                    · simpa using hj
                    · cases hj)
                obtain ⟨cap', w', hr, I'⟩ := append_grow (ty := ty) hT I ht he o1 g5' htl s1 s2 (by omega) c1 hz.2 k
                rw [hst]
                subst k1
                refine ⟨_, _, _, _, S, _, rfl, hr, I', ?_⟩
                have := mk_lrow (w := w') (S := S) (hb := hb) (st := st) (lb := lb) k e i.size (o.xs ++ ys) (cap := cap') (b := w.heap.size)
                simpa using this
          · cases h
      · cases h
    · cases h
end
end Go.Ev
