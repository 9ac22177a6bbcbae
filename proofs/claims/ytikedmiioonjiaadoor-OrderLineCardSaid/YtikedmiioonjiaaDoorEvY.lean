/- The abstract interpreter: regions that draw their order. -/
import Derived.Test.YtikedmiioonjiaaDoorEvX
set_option linter.unusedVariables false
set_option linter.unusedSimpArgs false
set_option linter.unusedSectionVars false
set_option linter.defProp false
namespace Go.Ev
open Go
section
variable {P : Program} {cf : Cfg} {C : Callee} {esc : List Tmp} {ops : Array Oper}

/-- The operations of a list of numbers, one behind the other. -/
def runs (cf : Cfg) (C : Callee) (esc : List Tmp) (ops : Array Oper) : List Nat → St → St → List (Nat × Rec) → Prop
  | [], s, u, rs => s = u ∧ rs = []
  | i :: is, s, u, rs => ∃ o v s1 q rs', ops[i]? = some o ∧ act1 cf C esc ops o s v s1 q ∧ rs = (i, q) :: rs' ∧ runs cf C esc ops is (put s1 o.dst v) u rs'
/-- An operation comes first. -/
theorem front {j : Nat} {M : List Nat} : ∀ {K : List Nat} {s u : St} {rs : List (Nat × Rec)}, runs cf C esc ops (K ++ j :: M) s u rs →
    (∀ k ∈ K, ∀ ok oj, ops[k]? = some ok → ops[j]? = some oj → Oper.apart ops ok oj = true) → (∀ k ∈ K, ∀ q p, (k, q) ∈ rs → (j, p) ∈ rs → fit q p) →
    ∃ oj v s1 p rs', ops[j]? = some oj ∧ act1 cf C esc ops oj s v s1 p ∧ runs cf C esc ops (K ++ M) (put s1 oj.dst v) u rs' ∧ (j, p) ∈ rs ∧ ∀ x ∈ rs', x ∈ rs
  | [], s, u, rs, ⟨o, v, s1, q, rs', h1, h2, h3, h4⟩, _, _ => ⟨o, v, s1, q, rs', h1, h2, h4, by rw [h3]; simp, fun x hx => by rw [h3]; simp [hx]⟩
  | k :: K, s, u, rs, ⟨ok, vk, sk, qk, rs1, h1, h2, h3, h4⟩, ha, hf => by
    obtain ⟨oj, v, s1, p, rs', g1, g2, g3, g4, g5⟩ := front h4 (fun k' hk => ha k' (by simp [hk])) (fun k' hk q p hq hp => hf k' (by simp [hk]) q p (by rw [h3]; simp [hq]) (by rw [h3]; simp [hp]))
    obtain ⟨t3, t4, e1, e2, e3⟩ := swap (ha k (by simp) ok oj h1 g1) h2 g2 (hf k (by simp) qk p (by rw [h3]; simp) (by rw [h3]; simp [g4]))
    refine ⟨oj, v, t3, p, (k, qk) :: rs', g1, e1, ⟨ok, vk, t4, qk, rs', h1, e2, rfl, by rw [e3]; exact g3⟩, by rw [h3]; simp [g4], fun x hx => ?_⟩
    rw [h3]
    rcases List.mem_cons.1 hx with rfl | hx
    · simp
    · simp [g5 x hx]
theorem fitAll_mem {i : Nat} {r : Rec} : ∀ {l : List (Nat × Rec)}, fitAll ops i r l → ∀ j q, (j, q) ∈ l → fit q r ∨ ahead ops ops.size j i = true
  | (j', q') :: l, h, j, q, hm => by
    rcases List.mem_cons.1 hm with e | hm
    · simp only [Prod.mk.injEq] at e
      obtain ⟨rfl, rfl⟩ := e
      exact h.1
    · exact fitAll_mem h.2 j q hm
theorem fit_nil (p : Rec) : fit p ⟨[], true, .no⟩ := ⟨.inr (disj_nil _), by cases p.hk <;> trivial⟩
theorem evDL_runs : ∀ {l : List Oper} {i : Nat} {done : List (Nat × Rec)} {s u : St} {ex : Ex}, (∀ k, l[k]? = ops[i + k]?) → evDL cf C esc ops i done l s = some (ex, u) →
    ex = .normal ∧ ∃ rs, runs cf C esc ops (List.range' i l.length) s u rs ∧ (∀ k q, (k, q) ∈ rs → i ≤ k ∧ ∀ j p, (j, p) ∈ done → fit p q ∨ ahead ops ops.size j k = true) ∧
      (∀ k q j p, (k, q) ∈ rs → (j, p) ∈ rs → j < k → fit p q ∨ ahead ops ops.size j k = true)
  | [], i, done, s, u, ex, _, h => by
    simp only [evDL, Option.some.injEq, Prod.mk.injEq] at h
    obtain ⟨rfl, rfl⟩ := h
    exact ⟨rfl, [], ⟨rfl, rfl⟩, by simp, by simp⟩
  | o :: os, i, done, s, u, ex, hl, h => by
    have ho : ops[i]? = some o := by have := hl 0; simpa using this.symm
    have hl' : ∀ k, os[k]? = ops[i + 1 + k]? := fun k => by have := hl (k + 1); simpa [Nat.add_assoc, Nat.add_comm 1 k] using this
    simp only [evDL] at h
    split at h
    · rename_i hw
      split at h
      · rename_i v s1 hop
        split at h
        · rename_i r hr
          split at h
          · rename_i hfit
            obtain ⟨rfl, rs, k1, k2, k3⟩ := evDL_runs hl' h
            refine ⟨rfl, (i, r) :: rs, ⟨o, v, s1, r, rs, ho, .inl ⟨hw, hop, hr⟩, rfl, k1⟩, fun k q hm => ?_, fun k q j p hm hm2 hlt => ?_⟩
            · rcases List.mem_cons.1 hm with e | hm
              · simp only [Prod.mk.injEq] at e
                obtain ⟨rfl, rfl⟩ := e
                exact ⟨Nat.le_refl _, fun j p hj => fitAll_mem hfit j p hj⟩
              · obtain ⟨g1, g2⟩ := k2 k q hm
                exact ⟨by omega, fun j p hj => g2 j p (by simp [hj])⟩
            · rcases List.mem_cons.1 hm with e | hm
              · simp only [Prod.mk.injEq] at e
                obtain ⟨rfl, rfl⟩ := e
                rcases List.mem_cons.1 hm2 with e2 | hm2
                · simp only [Prod.mk.injEq] at e2; omega
                · have := (k2 j p hm2).1; omega
              · have hm3 : (k, q) ∈ rs := by assumption
                rcases List.mem_cons.1 hm2 with e2 | hm2
                · simp only [Prod.mk.injEq] at e2
                  obtain ⟨rfl, rfl⟩ := e2
                  exact (k2 k q hm3).2 j p (by simp)
                · exact k3 k q j p hm3 hm2 hlt
          · cases h
        · cases h
      · cases h
    · rename_i hw
      obtain ⟨rfl, rs, k1, k2, k3⟩ := evDL_runs hl' h
      refine ⟨rfl, (i, ⟨[], true, .no⟩) :: rs, ⟨o, .tuple [], s, _, rs, ho, .inr ⟨hw, rfl, rfl, rfl⟩, rfl, k1⟩, fun k q hm => ?_, fun k q j p hm hm2 hlt => ?_⟩
      · rcases List.mem_cons.1 hm with e | hm
        · simp only [Prod.mk.injEq] at e
          obtain ⟨rfl, rfl⟩ := e
          exact ⟨Nat.le_refl _, fun j p hj => .inl (fit_nil p)⟩
        · obtain ⟨g1, g2⟩ := k2 k q hm
          exact ⟨by omega, g2⟩
      · rcases List.mem_cons.1 hm with e | hm
        · simp only [Prod.mk.injEq] at e
          obtain ⟨rfl, rfl⟩ := e
          exact .inl (fit_nil p)
        · rcases List.mem_cons.1 hm2 with e2 | hm2
          · simp only [Prod.mk.injEq] at e2
            obtain ⟨rfl, rfl⟩ := e2
            exact .inl (fit_symm (fit_nil q))
          · exact k3 k q j p hm hm2 hlt
    · cases h

theorem static_back (h : staticB ops = true) {j : Nat} {oj : Oper} (hj : ops[j]? = some oj) {e : Edge} (he : e ∈ oj.after.toList) (hb : Region.binds .any e = true) : e.on < j := by
  have hlt : j < ops.size := (Array.getElem?_eq_some_iff.1 hj).1
  have := List.all_eq_true.1 h j (List.mem_range.2 hlt)
  simp only [hj, Bool.and_eq_true] at this
  have h2 := List.all_eq_true.1 this.1 e he
  simpa [hb] using h2
theorem static_apart (h : staticB ops = true) {i j : Nat} {oi oj : Oper} (hi : ops[i]? = some oi) (hj : ops[j]? = some oj) (hij : i < j) : ahead ops ops.size i j = true ∨ Oper.apart ops oi oj = true := by
  have hlt : j < ops.size := (Array.getElem?_eq_some_iff.1 hj).1
  have := List.all_eq_true.1 h j (List.mem_range.2 hlt)
  simp only [hj, Bool.and_eq_true] at this
  have h2 := List.all_eq_true.1 this.2 i (List.mem_range.2 hij)
  simpa [hi] using h2
/-- Listed operations have their forerunners listed. -/
def closed (ops : Array Oper) (listed : Array Bool) : Prop :=
  ∀ i o, ops[i]? = some o → listed.getD i true = true → ∀ e ∈ o.after.toList, Region.binds .any e = true → listed.getD e.on false = true
theorem ahead_listed {listed : Array Bool} (hc : closed ops listed) : ∀ (n i j : Nat), ahead ops n i j = true → (∀ o, ops[j]? = some o → ∀ e ∈ o.after.toList, Region.binds .any e = true → listed.getD e.on false = true) → listed.getD i false = true
  | 0, i, j, h, _ => by simp [ahead] at h
  | n + 1, i, j, h, hj => by
    simp only [ahead] at h
    split at h
    · rename_i o ho
      obtain ⟨e, he, h2⟩ := List.any_eq_true.1 h
      simp only [Bool.and_eq_true, Bool.or_eq_true, beq_iff_eq] at h2
      have hl := hj o ho e he h2.1
      rcases h2.2 with h3 | h3
      · rw [← h3]; exact hl
      · refine ahead_listed hc n i e.on h3 fun o' ho' e' he' hb' => hc e.on o' ho' ?_ e' he' hb'
        rw [Array.getD_eq_getD_getElem?] at hl ⊢
        cases hx : listed[e.on]? with
        | none => rw [hx] at hl; cases hl
        | some b => rw [hx] at hl; simpa using hl
    · cases h
theorem ahead_lt (h : staticB ops = true) : ∀ (n i j : Nat), ahead ops n i j = true → i < j
  | 0, i, j, e => by simp [ahead] at e
  | n + 1, i, j, e => by
    simp only [ahead] at e
    split at e
    · rename_i o ho
      obtain ⟨ed, he, h2⟩ := List.any_eq_true.1 e
      simp only [Bool.and_eq_true, Bool.or_eq_true, beq_iff_eq] at h2
      have hb := static_back h ho he h2.1
      rcases h2.2 with h3 | h3
      · omega
      · have := ahead_lt h n i ed.on h3; omega
    · cases e
def good (ops : Array Oper) (rs : List (Nat × Rec)) : Prop :=
  ∀ k q j p, (k, q) ∈ rs → (j, p) ∈ rs → j < k → fit p q ∨ ahead ops ops.size j k = true

theorem any_ok (hT : TabOK P cf.tab) (hM : MethOK P cf) {w0 : World} {S0 : Nat → Prop} {hb0 : List Nat} {xb : Option Nat} (hC : COKat P cf C w0 S0 hb0 xb) (hS : staticB ops = true) {u : St} : ∀ (fuel : Nat) (listed : Array Bool) (L : List Nat) (s : St) (rs : List (Nat × Rec)) (a : Act) (w : World) (S : Nat → Prop) (hb : List Nat) (lb : Nat → Option (Nat × Nat)),
    Inv w0 S0 hb0 xb s a w S hb lb → runs cf C esc ops L s u rs → good ops rs → listed.size = ops.size → (∀ i, i ∈ L ↔ i < ops.size ∧ listed.getD i true = false) → L.Pairwise (· < ·) → L.length ≤ fuel → closed ops listed →
    wpAny P .any ops (ExOK w0 S0 hb0 xb .normal u) fuel listed a w := by
  intro fuel
  have none_ready : ∀ (listed : Array Bool) (L : List Nat), (∀ i, i ∈ L ↔ i < ops.size ∧ listed.getD i true = false) → L.Pairwise (· < ·) → listed.size = ops.size → Region.ready .any ops listed = [] → L = [] := by
    intro listed L hL hp hsz hr
    cases L with
    | nil => rfl
    | cons i is =>
      exfalso
      obtain ⟨h1, h2⟩ := (hL i).1 (by simp)
      have hm : i ∈ Region.ready .any ops listed := by
        unfold Region.ready
        refine List.mem_filter.2 ⟨List.mem_range.2 h1, ?_⟩
        rw [h2]
        simp only [Bool.not_false, Bool.true_and]
        rw [Array.getElem?_eq_getElem h1]
        simp only [Option.map_some, Option.getD_some]
        rw [Array.all_eq_true_iff_forall_mem]
        intro e he
        by_cases hb_ : Region.binds .any e = true
        · have hlt := static_back hS (Array.getElem?_eq_getElem h1) (by simpa using he) hb_
          simp only [hb_, Bool.not_true, Bool.false_or]
          have hn : e.on ∉ i :: is := fun hm => by
            rcases List.mem_cons.1 hm with h | h
            · omega
            · have := (List.pairwise_cons.1 hp).1 _ h; omega
          have hb2 : e.on < listed.size := by omega
          have : ¬ (listed.getD e.on true = false) := fun hh => hn ((hL e.on).2 ⟨by omega, hh⟩)
          rw [Array.getD_eq_getD_getElem?, Array.getElem?_eq_getElem hb2] at this ⊢
          simpa using this
        · simp [hb_]
      rw [hr] at hm
      simp at hm
  induction fuel with
  | zero =>
    intro listed L s rs a w S hb lb I hrun hg hsz hL hp hlen hc
    have hL0 : L = [] := List.eq_nil_of_length_eq_zero (by omega)
    subst hL0
    obtain ⟨rfl, _⟩ := hrun
    refine ⟨?_, rfl, S, hb, lb, I⟩
    unfold Region.ready
    refine List.filter_eq_nil_iff.2 fun i hi => ?_
    have : ¬ (listed.getD i true = false) := fun hh => by have := (hL i).2 ⟨List.mem_range.1 hi, hh⟩; simp at this
    simp at this ⊢
    intro h
    simp [this] at h
  | succ fuel ih =>
    intro listed L s rs a w S hb lb I hrun hg hsz hL hp hlen hc
    refine ⟨fun hr => ?_, fun i hi => ?_⟩
    · have hL0 := none_ready listed L hL hp hsz hr
      subst hL0
      obtain ⟨rfl, _⟩ := hrun
      exact ⟨rfl, S, hb, lb, I⟩
    · unfold Region.ready at hi
      obtain ⟨hi1, hi2⟩ := List.mem_filter.1 hi
      have hilt := List.mem_range.1 hi1
      simp only [Bool.and_eq_true, Bool.not_eq_true'] at hi2
      obtain ⟨hi2, hi3⟩ := hi2
      have hiL : i ∈ L := (hL i).2 ⟨hilt, hi2⟩
      obtain ⟨K, M, rfl⟩ := List.append_of_mem hiL
      have hpre : ∀ o, ops[i]? = some o → ∀ e ∈ o.after.toList, Region.binds .any e = true → listed.getD e.on false = true := fun o ho e he hb_ => by
        rw [ho] at hi3
        simp only [Option.map_some, Option.getD_some] at hi3
        have := (Array.all_eq_true_iff_forall_mem.1 hi3) e (by simpa using he)
        simpa [hb_] using this
      have hKlt : ∀ k ∈ K, k < i := fun k hk => (List.pairwise_append.1 hp).2.2 k hk i (by simp)
      have hnah : ∀ k ∈ K, ahead ops ops.size k i = true → False := fun k hk ha => by
        have h1 := ahead_listed hc _ k i ha hpre
        have h2 := ((hL k).1 (by simp [hk])).2
        rw [Array.getD_eq_getD_getElem?] at h1 h2
        cases hx : listed[k]? with
        | none => rw [hx] at h1; cases h1
        | some b => rw [hx] at h1 h2; simp at h1 h2; rw [h1] at h2; cases h2
      obtain ⟨oi, v, s1, p, rs', f1, f2, f3, f4, f5⟩ := front hrun (fun k hk ok oj hok hoj => (static_apart hS hok hoj (hKlt k hk)).resolve_left (hnah k hk)) (fun k hk q p hq hp => (hg i p k q hp hq (hKlt k hk)).resolve_right (hnah k hk))
      have hnd : ∀ j, j ∈ K ++ M ↔ j ∈ K ++ i :: M ∧ j ≠ i := fun j => by
        have h1 := (List.pairwise_append.1 hp).2.1
        have h2 := (List.pairwise_cons.1 h1).1
        simp only [List.mem_append, List.mem_cons]
        constructor
        · rintro (h | h)
          · exact ⟨.inl h, by have := hKlt j h; omega⟩
          · exact ⟨.inr (.inr h), by have := h2 j h; omega⟩
        · rintro ⟨h | h | h, hne⟩
          · exact .inl h
          · exact absurd h hne
          · exact .inr h
      have hget : ∀ j b, j ≠ i → (listed.setIfInBounds i true).getD j b = listed.getD j b := fun j b hne => by
        rw [Array.getD_eq_getD_getElem?, Array.getD_eq_getD_getElem?, Array.getElem?_setIfInBounds, if_neg (Ne.symm hne)]
      have hgeti : ∀ b, (listed.setIfInBounds i true).getD i b = true := fun b => by
        rw [Array.getD_eq_getD_getElem?, Array.getElem?_setIfInBounds, if_pos rfl, if_pos (by omega)]; rfl
      have next : ∀ (a' : Act) (w' : World) (S' : Nat → Prop) (hb' : List Nat) (lb' : Nat → Option (Nat × Nat)), Inv w0 S0 hb0 xb (put s1 oi.dst v) a' w' S' hb' lb' → wpAny P .any ops (ExOK w0 S0 hb0 xb .normal u) fuel (listed.setIfInBounds i true) a' w' := fun a' w' S' hb' lb' I' => by
        refine ih _ (K ++ M) _ rs' a' w' S' hb' lb' I' f3 (fun k q j p h1 h2 => hg k q j p (f5 _ h1) (f5 _ h2)) (by simp [hsz]) (fun j => ?_) ?_ (by simp at hlen ⊢; omega) ?_
        · rw [hnd j, hL j]
          constructor
          · rintro ⟨⟨h1, h2⟩, hne⟩
            exact ⟨h1, by rw [hget j _ hne]; exact h2⟩
          · rintro ⟨h1, h2⟩
            have hne : j ≠ i := fun e => by rw [e, hgeti] at h2; cases h2
            exact ⟨⟨h1, by rw [hget j _ hne] at h2; exact h2⟩, hne⟩
        · exact hp.sublist (List.Sublist.append (List.Sublist.refl _) (List.sublist_cons_self _ _))
        · intro j o hj hl e he hb_
          have hon : listed.getD e.on false = true → (listed.setIfInBounds i true).getD e.on false = true := fun h => by
            by_cases hne : e.on = i
            · rw [hne, hgeti]
            · rw [hget _ _ hne]; exact h
          by_cases hji : j = i
          · subst hji; exact hon (hpre o hj e he hb_)
          · rw [hget j _ hji] at hl
            exact hon (hc j o hj hl e he hb_)
      unfold wpOp
      rw [f1]
      simp only
      rcases f2 with ⟨h1, h2, h3⟩ | ⟨h1, rfl, rfl, rfl⟩
      · rw [wanted_ok I h1]
        simp only [if_true]
        refine .inl (op_ok hT hM hC I h2 _ _ (fun v' st'' e cv w' S' hb' lb' I' hv => ?_) (fun v' st'' e => by cases e))
        simp only [Out.val.injEq] at e
        obtain ⟨rfl, rfl⟩ := e
        exact next _ _ _ _ _ (I'.put oi.dst hv)
      · rw [wanted_ok I h1]
        simp only [Bool.false_eq_true, if_false]
        exact next _ _ _ _ _ (I.put oi.dst (x := .tuple []) (v := undef) frep_no)
/-- A region that draws. -/
theorem draw_ok (hT : TabOK P cf.tab) (hM : MethOK P cf) (hm : P.follows .mixedOrders = true) {w0 : World} {S0 : Nat → Prop} {hb0 : List Nat} {xb : Option Nat} (hC : COKat P cf C w0 S0 hb0 xb) (hS : staticB ops = true) {s u : St} {ex : Ex} {a : Act} {w : World} {S : Nat → Prop} {hb : List Nat} {lb : Nat → Option (Nat × Nat)} (I : Inv w0 S0 hb0 xb s a w S hb lb) (h : evD cf C esc ops s = some (ex, u)) (id : Nat) :
    (Code.region id ops true).wp P (ExOK w0 S0 hb0 xb ex u) a w := by
  obtain ⟨rfl, rs, k1, k2, k3⟩ := evDL_runs (ops := ops) (l := ops.toList) (i := 0) (by simp) h
  refine wp_region_any hm ?_
  have I' : Inv w0 S0 hb0 xb s a { w with drawn := w.drawn + 1 } S hb lb := I.same rfl rfl rfl rfl
  refine any_ok hT hM hC hS ops.size _ _ s rs a _ S hb lb I' k1 (fun k q j p h1 h2 h3 => k3 k q j p h1 h2 h3) (by simp) (fun i => ?_) ?_ (by simp) ?_
  · simp only [Array.length_toList, List.mem_range'_1, Nat.zero_le, true_and, Nat.zero_add]
    constructor
    · intro h
      exact ⟨h, by rw [Array.getD_eq_getD_getElem?, Array.getElem?_replicate, if_pos h]; rfl⟩
    · exact fun h => h.1
  · exact List.pairwise_lt_range'
  · intro i o hi hl
    exfalso
    have hlt : i < ops.size := (Array.getElem?_eq_some_iff.1 hi).1
    rw [Array.getD_eq_getD_getElem?, Array.getElem?_replicate, if_pos hlt] at hl
    cases hl
theorem drawOK (hT : TabOK P cf.tab) (hM : MethOK P cf) (hm : P.follows .mixedOrders = true) : DrawOK P cf :=
  fun _ _ _ id hS _ _ _ _ _ _ _ _ _ _ _ _ hC I h => draw_ok hT hM hm hC hS I h id
/-- THE THEOREM: the program does what the interpreter says. -/
theorem ev_ok (hT : TabOK P cf.tab) (hM : MethOK P cf) (hm : P.follows .mixedOrders = true) (hN : ∀ (f : FuncId) (fn : Func), P.funcs[f]? = some fn → (fn.name == "runtime.NumGoroutine") = false) (hB : ∀ (f : FuncId) (fn : Func) (c : Code), P.funcs[f]? = some fn → fn.body = some c → cf.prim f = false → codeB c = true) {pr : Callee → Callee} (hP : PrimOK P cf pr) : ∀ k, COK P cf (evF P cf pr k) :=
  evF_ok hT hM (drawOK hT hM hm) hN hB hP
end
end Go.Ev
