/- The abstract interpreter: every operation. -/
import Derived.Test.YtikedmiioonjiaaDoorEvO
set_option linter.unusedVariables false
set_option linter.unusedSimpArgs false
set_option linter.unusedSectionVars false
set_option linter.defProp false
namespace Go.Ev
open Go
section
variable {P : Program} {w0 : World} {S0 : Nat → Prop} {hb0 : List Nat} {xb : Option Nat} {st st' : St} {a : Act} {w w' : World} {S S' : Nat → Prop} {hb hb' : List Nat} {lb lb' : Nat → Option (Nat × Nat)} {N : Nm}

/-- The methods behind interfaces. -/
def MethOK (P : Program) (cf : Cfg) : Prop :=
  ∀ t name g, cf.meth t name = some g → ∀ (v : Value) (w : World), (method (P.types.size + Made.depth) t v name).run P w = .ok (g, v) w

theorem frepL_arr {xs : List AV} {vs : List Value} (h : frepL w S hb N xs vs) : vs.length = xs.length := frepL_len h
theorem builtin_ok {cf : Cfg} (hT : TabOK P cf.tab) (I : Inv w0 S0 hb0 xb st a w S hb lb) {o : Oper} {c : Call} {b : Builtin} {as : List AV} {out : Out} (ho : o.op = .call c) (hb_ : c.callee = .builtin b) (has : opndL st c.args.toList = some as) (h : builtinA cf.tab st (o.dst.getD 0) b c.argTypes.toList as = some out) : outOK P w0 S0 hb0 xb o a w out := by
  have hr := opndL_ok I has
  have hargs : c.args.map a.eval = (c.args.toList.map a.eval).toArray := by apply Array.ext'; simp
  unfold builtinA at h
  split at h
  · -- len
    split at h
    · rename_i t ts x e1
      obtain ⟨u, us, e3, hu, e4⟩ := hr
      cases e4
      split at h
      · rename_i i ht
        have fin : ∀ n : Nat, lenA st x = some n → ((i.desc = .string ∧ ∃ s, x = .str s) ∨ ((∃ e, i.desc = .slice e) ∧ ∀ s, x ≠ .str s)) → outOK P w0 S0 hb0 xb o a w (.val (.int .i64 n) st) := fun n hn hd => by
          have hl := len_ok (P := P) hT I ht hu hn hd o.type
          refine VOK.out (VOK.here I (cv := goInt n) ?_ (frep_int.2 rfl))
          refine run_builtin (b := .len) (s := fun ts ty vs => Builtin.len_ ts ty vs) ho hb_ (fun _ _ _ _ => rfl) ?_
          have : c.argTypes = (t :: ts).toArray := by rw [← e1]
          rw [hargs, e3, this]
          have hl' : (Builtin.len_ (t :: ts).toArray o.type #[u]).run P w = .ok (goInt n) w := by
            have e5 : Builtin.len_ (t :: ts).toArray o.type #[u] = Builtin.len_ #[t] o.type #[u] := by
              unfold Builtin.len_
              simp
            rw [e5]; exact hl
          exact hl'
        split at h
        · rename_i s hd
          simp only [Option.some.injEq] at h; subst h
          exact fin s.size rfl (.inl ⟨hd, s, rfl⟩)
        · rename_i e hd
          split at h
          · cases h
          · rename_i hne
            split at h
            · rename_i n hl
              simp only [Option.some.injEq] at h; subst h
              exact fin n hl (.inr ⟨⟨e, hd⟩, fun s hs => hne s hs⟩)
            · cases h
        · cases h
      · cases h
    · cases h
  · -- append
    split at h
    · rename_i t u s x e1
      obtain ⟨cs, us, e3, hs, cx, us', e4, hx, e5⟩ := hr
      subst e4
      cases e5
      split at h
      · rename_i i j ht hu
        split at h
        · rename_i e e' hd hd'
          split at h
          · rename_i ei hei
            split at h
            · rename_i ys hys
              have u1 := hT.und _ _ ht
              rw [hd] at u1
              have u2 := hT.und _ _ hu
              rw [hd'] at u2
              obtain ⟨v, st', cv, w', S', lb', rfl, k1, k2, k3⟩ := append_ok (ty := o.type) hT I u1 u2 hei hs hx hys h
              refine VOK.out ⟨cv, w', S', hb, lb', .inl ?_, k2, k3⟩
              refine run_builtin (b := .append) (s := fun ts ty vs => Builtin.append_ ts ty vs) ho hb_ (fun _ _ _ _ => rfl) ?_
              have : c.argTypes = [t, u].toArray := by rw [← e1]
              rw [hargs, e3, this]
              exact k1
            · cases h
          · cases h
        · cases h
      · cases h
    · cases h
  · cases h
theorem op_ok {cf : Cfg} {C : Callee} {esc : List Tmp} (hT : TabOK P cf.tab) (hM : MethOK P cf) (hC : COKat P cf C w0 S0 hb0 xb) (I : Inv w0 S0 hb0 xb st a w S hb lb) {o : Oper} {out : Out} (h : aop cf C esc o st = some out) : outOK P w0 S0 hb0 xb o a w out := by
  unfold aop at h
  split at h
  · -- move
    rename_i x ho
    split at h
    · rename_i v hv
      simp only [Option.some.injEq] at h; subst h
      exact VOK.out (move_ok (.inl ho) I hv)
    · cases h
  · rename_i x ho
    split at h
    · rename_i v hv
      simp only [Option.some.injEq] at h; subst h
      exact VOK.out (move_ok (.inr ho) I hv)
    · cases h
  · -- pick
    rename_i c x y ho
    split at h
    · rename_i t hc
      split at h
      · rename_i v hv
        simp only [Option.some.injEq] at h; subst h
        exact VOK.out (pick_ok ho I hc hv)
      · cases h
    · cases h
  · -- alloc
    rename_i t ho
    split at h
    · rename_i d i hd ht
      split at h
      · simp only [Option.some.injEq] at h; subst h
        exact VOK.out (alloc_ok hT ho ht I).2
      · simp only [Option.some.injEq] at h; subst h
        exact VOK.out ((alloc_ok hT ho ht I).1 d)
    · cases h
  · -- box
    rename_i t x ho
    split at h
    · rename_i d i v hd ht hx
      split at h
      · rename_i hc
        split at h
        · split at h
          · rename_i r hr
            simp only [Option.some.injEq] at h; subst h
            exact VOK.out (boxHp_ok (y := r.1) (st' := r.2) ho hx hr I)
          · cases h
        · simp only [Option.some.injEq] at h; subst h
          exact VOK.out (box_ok ho hx hc.1 hc.2 I d)
      · cases h
    · cases h
  · -- build
    rename_i t parts ho
    split at h
    · rename_i i ps ht hps
      split at h
      · rename_i fs hd
        split at h
        · rename_i hk
          split at h
          · rename_i cs hf
            simp only [Option.some.injEq] at h; subst h
            exact VOK.out (build_ok hT I ho ht hd hk hps hf)
          · cases h
        · cases h
      · cases h
    · cases h
  · -- buildSlice
    rename_i t len parts ho
    split at h
    · rename_i d i ps hd ht hps
      split at h
      · rename_i e hde
        split at h
        · rename_i ei hei
          split at h
          · rename_i hc
            split at h
            · rename_i r hr
              split at h
              · rename_i hc2
                simp only [Option.some.injEq] at h; subst h
                exact VOK.out (buildSlice_ok (ys := r.1) (st' := r.2) hT I ho ht hde hei hps hc.1 hc.2 hr hc2.1 hc2.2 d)
              · cases h
            · cases h
          · cases h
        · cases h
      · cases h
    · cases h
  · -- load
    rename_i t x ho
    split at h
    · rename_i i p ht hx
      split at h
      · rename_i v hv
        simp only [Option.some.injEq] at h; subst h
        exact VOK.out (load_ok hT ho I ht hx hv)
      · cases h
    · cases h
  · -- store
    rename_i t x y ho
    split at h
    · rename_i i p v ht hx hy
      split at h
      · rename_i s hs
        simp only [Option.some.injEq] at h; subst h
        exact VOK.out (store_ok hT ho ht hx hy hs I)
      · cases h
    · cases h
  · -- nilCheck
    rename_i x ho
    split at h
    · rename_i id off hx
      simp only [Option.some.injEq] at h; subst h
      exact VOK.out (nilCheck_ok' ho I hx trivial)
    · rename_i d g i off hx
      split at h
      · rename_i q hq
        simp only [Option.some.injEq] at h; subst h
        exact VOK.out (nilCheck_ok' ho I hx (by show (st.lobj d g).isSome = true; rw [hq]; rfl))
      · cases h
    · rename_i cs hx
      simp only [Option.some.injEq] at h; subst h
      exact VOK.out (nilCheck_ok' ho I hx trivial)
    · cases h
  · -- binOp
    rename_i op t x y u ho
    split at h
    · rename_i p q hx hy
      split at h
      · rename_i v hv
        simp only [Option.some.injEq] at h; subst h
        exact VOK.out (binop_ok hT ho I hx hy hv)
      · cases h
    · cases h
  · -- unOp
    rename_i op t x ho
    split at h
    · rename_i b hx
      simp only [Option.some.injEq] at h; subst h
      exact VOK.out ((unop_ok ho I).1 b rfl hx)
    · rename_i k n hx
      simp only [Option.some.injEq] at h; subst h
      exact VOK.out ((unop_ok ho I).2 k n rfl hx)
    · cases h
  · -- convert
    rename_i src dst x ho
    split at h
    · rename_i v hx
      split at h
      · rename_i r hv
        simp only [Option.some.injEq] at h; subst h
        exact VOK.out (convert_ok hT ho I hx hv)
      · cases h
    · cases h
  · -- makeInterface
    rename_i t x ho
    split at h
    · rename_i i v ht hx
      split at h
      · cases h
      · rename_i hd
        split at h
        · rename_i r hr
          simp only [Option.some.injEq] at h; subst h
          exact VOK.out (makeInterface_ok (y := r.1) (st' := r.2) hT ho ht (fun ms e => hd ms e) hx hr I)
        · cases h
    · cases h
  · -- makeFunc
    rename_i fn first captured ho
    split at h
    · rename_i cs hc
      split at h
      · rename_i hf
        split at h
        · rename_i r hr
          simp only [Option.some.injEq] at h; subst h
          exact VOK.out (makeFunc_ok (ys := r.1) (st' := r.2) ho hf hc hr I)
        · cases h
      · cases h
    · cases h
  · -- makeSlice
    rename_i t l c ho
    split at h
    · rename_i d i k n k' m hd ht hl hc
      split at h
      · rename_i e hde
        split at h
        · rename_i ei hei
          split at h
          · rename_i hc2
            obtain ⟨c1, c2, c3, c4, c5⟩ := hc2
            subst c1
            simp only [Option.some.injEq] at h; subst h
            exact VOK.out (makeSlice_ok hT I ho ht hde hei hl hc c2 c3 c4 c5 d)
          · cases h
        · cases h
      · cases h
    · cases h
  · -- slice
    rename_i t x lo hi mx ho
    split at h
    · rename_i i v l hh m ht hx hl hhi hm
      split at h
      · rename_i e v hde
        split at h
        · rename_i full xs
          split at h
          · rename_i ei hei
            split at h
            · rename_i hsz
              split at h
              · rename_i r hr
                simp only [Option.some.injEq] at h; subst h
                exact VOK.out (sliceRows_ok hT I ho ht hde hei hx hl hhi hm hsz hr)
              · cases h
            · cases h
          · cases h
        · rename_i d g
          split at h
          · rename_i ei full xs s' hei hg
            split at h
            · rename_i hsz
              split at h
              · rename_i r hr
                simp only [Option.some.injEq] at h; subst h
                exact VOK.out (sliceRow_ok hT I ho ht hde hei hx hl hhi hm hg hsz hr)
              · cases h
            · cases h
          · cases h
        · cases h
      · rename_i s hds
        split at h
        · cases h
        · split at h
          · rename_i r hr
            simp only [Option.some.injEq] at h; subst h
            exact VOK.out (sliceStr_ok hT I ho ht hds hx hl hhi hm hr)
          · cases h
      · cases h
    · cases h
  · -- fieldAddr
    rename_i t x k ho
    split at h
    · rename_i i p ht hx
      split at h
      · rename_i fs hd
        split at h
        · rename_i f hf
          split at h
          · rename_i j hj
            split at h
            · cases h
            · rename_i hz
              split at h
              · simp only [Option.some.injEq] at h; subst h
                exact VOK.out (fieldAddr_ok hT ho I ht hd hf hj hz hx trivial rfl)
              · rename_i d g j' off
                split at h
                · rename_i q hq
                  simp only [Option.some.injEq] at h; subst h
                  exact VOK.out (fieldAddr_ok hT ho I ht hd hf hj hz hx (by show (st.lobj d g).isSome = true; rw [hq]; rfl) rfl)
                · cases h
              · simp only [Option.some.injEq] at h; subst h
                exact VOK.out (fieldAddr_ok hT ho I ht hd hf hj hz hx trivial rfl)
              · cases h
          · cases h
        · cases h
      · cases h
    · cases h
  · -- indexAddr
    rename_i t x y ho
    split at h
    · rename_i i r k n ht hx hy
      split at h
      · rename_i e hd
        split at h
        · rename_i ei hei
          split at h
          · rename_i full xs
            split at h
            · rename_i h0
              split at h
              · rename_i c hc
                split at h
                · rename_i hl
                  simp only [Option.some.injEq] at h; subst h
                  exact VOK.out (indexRows_ok hT ho I ht hd hei hx hy h0 hc hl)
                · cases h
              · cases h
            · cases h
          · rename_i d g
            split at h
            · rename_i q hq
              split at h
              · rename_i hc
                obtain ⟨c1, c2, c3, c4⟩ := hc
                simp only [Option.some.injEq] at h; subst h
                exact VOK.out (indexRow_ok hT ho I ht hd hei hx hy hq c1 c2 c3 c4)
              · cases h
            · cases h
          · cases h
        · cases h
      · cases h
    · cases h
  · -- index
    rename_i t x y ho
    split at h
    · rename_i i s k n ht hx hy
      split at h
      · rename_i hd
        split at h
        · rename_i h0
          split at h
          · rename_i b hb_
            simp only [Option.some.injEq] at h; subst h
            exact VOK.out (index_ok hT ho I ht hd hx hy h0 hb_)
          · cases h
        · cases h
      · cases h
    · cases h
  · -- range
    rename_i t x ho
    split at h
    · rename_i d i s hd ht hx
      split at h
      · rename_i hde
        simp only [Option.some.injEq] at h; subst h
        exact VOK.out (range_ok hT I ho ht hde hx d)
      · cases h
    · cases h
  · -- next
    rename_i it isS ho
    split at h
    · rename_i d g hx
      split at h
      · rename_i g' f ty sz s p hq
        split at h
        · rename_i hc
          obtain ⟨c1, c2⟩ := hc
          subst c1
          have hg : g' = g := (lobj_some.1 hq).2
          subst hg
          split at h
          · rename_i hlt
            simp only [Option.some.injEq] at h; subst h
            exact VOK.out ((next_ok I ho hx hq c2).1 hlt)
          · rename_i hlt
            simp only [Option.some.injEq] at h; subst h
            exact VOK.out ((next_ok I ho hx hq c2).2 hlt)
        · cases h
      · cases h
    · cases h
  · -- extract
    rename_i x i ho
    split at h
    · rename_i vs hx
      split at h
      · rename_i v hv
        simp only [Option.some.injEq] at h; subst h
        exact VOK.out (extract_ok ho I hx hv)
      · cases h
    · cases h
  · -- call
    rename_i c ho
    split at h
    · rename_i b hcb
      split at h
      · rename_i as has
        exact builtin_ok hT I ho hcb has h
      · cases h
    · rename_i f hcv
      split at h
      · rename_i g cap hf
        split at h
        · rename_i as has
          have hr := opndL_ok I has
          have hfv := I.opnd hf
          rw [frep_eq (by rfl)] at hfv
          simp only [srep, crep] at hfv
          obtain ⟨fst, cp, e1, e2, e3⟩ := hfv
          rw [crepL] at e2
          have e2' : fst = #[] := by simpa using e2
          subst e2'
          refine callV_ok hC I (frepL_append hr (frepL_of_crepL e3)) h fun hfn => ?_
          unfold execOp
          rw [ho]
          simp only [resolve, hcv, e1, Deferred.ofValue, Sem.run_bind, Sem.run_pure, Result.andThen_ok, invoke, run_callFunc hfn]
          congr 2
          apply Array.ext'
          simp
        · cases h
      · cases h
    · rename_i r name hci
      split at h
      · rename_i t v hrv
        split at h
        · rename_i g hg
          split at h
          · rename_i as has
            have hr := opndL_ok I has
            have hfv := I.opnd hrv
            rw [frep_eq (by rfl)] at hfv
            simp only [srep, crep] at hfv
            obtain ⟨y, e1, e2⟩ := hfv
            have hargs : frepL w S hb (nm st lb) (v :: as) (y :: c.args.toList.map a.eval) := ⟨y, _, rfl, crep_frep e2, hr⟩
            refine callV_ok hC I hargs h fun hfn => ?_
            unfold execOp
            rw [ho]
            have ex : (#[Value.iface t y] ++ c.args.map a.eval)[0]? = some (.iface t y) := by rw [Array.getElem?_append_left (by simp)]; rfl
            have ex2 : (#[Value.iface t y] ++ c.args.map a.eval).extract 1 (#[Value.iface t y] ++ c.args.map a.eval).size = c.args.map a.eval := by
              apply Array.ext'
              simp [List.take_of_length_le]
            simp only [resolve, hci, e1, Sem.run_bind, Sem.run_pure, Result.andThen_ok, invoke, ex, ex2, callMethod, program, Sem.run, hM t name g hg y w, run_callFunc hfn]
            congr 2
            apply Array.ext'
            simp
          · cases h
        · cases h
      · cases h
  · -- panic
    rename_i x ho
    split at h
    · rename_i t v hx
      simp only [Option.some.injEq] at h; subst h
      intro next Q hn hQ
      have hv := I.opnd hx
      rw [frep_eq (by rfl)] at hv
      have hv' : crep w S hb (.iface t v) (a.eval x) := hv
      have hv2 := hv'
      rw [crep] at hv2
      obtain ⟨y, e1, e2⟩ := hv2
      have := hQ _ _ rfl _ w S hb lb I hv'
      unfold Oper.wp execOp
      rw [ho]
      simp only [e1] at this ⊢
      exact this
    · cases h
  · cases h
end
end Go.Ev
