/- The abstract interpreter: arguments: trees of values, as a row reads them. -/
import Derived.Test.YtikedmiioonjiaaDoorEvZ
import Derived.ChangeArms
import Derived.DataReads
set_option linter.unusedVariables false
set_option linter.unusedSimpArgs false
set_option linter.unusedSectionVars false
set_option linter.defProp false
namespace Go.Ev
open Go

/-- A value, as a tree. -/
structure S24 where
  f0 : Int
  f1 : Int
  f2 : ByteArray
  f3 : List S24
mutual
def cellsS : S24 → List AV
  | ⟨k, n, s, l⟩ => [.int .i64 k, .int .i64 n, .str s, .rows false (rowsS l)]
def rowsS : List S24 → List (List AV)
  | [] => []
  | v :: l => cellsS v :: rowsS l
end
theorem rowsS_map : ∀ l : List S24, rowsS l = l.map cellsS
  | [] => by rw [rowsS]; rfl
  | v :: l => by rw [rowsS, rowsS_map l]; rfl
theorem cellsS_len (v : S24) : (cellsS v).length = 4 := by cases v; rw [cellsS]; rfl
/-- The types that a value has in a program. -/
structure ValTy (P : Program) (tv tr : TypeId) : Prop where
  str : ∃ f0 f1 f2 f3 : Field, P.underlying tv = some (.struct #[f0, f1, f2, f3]) ∧ f0.offset = 0 ∧ f1.offset = 1 ∧ f2.offset = 2 ∧ f3.offset = 3 ∧
    P.underlying f0.type = some (.int .i64) ∧ P.cellsOf f0.type = 1 ∧ P.underlying f1.type = some (.int .i64) ∧ P.cellsOf f1.type = 1 ∧ P.underlying f2.type = some .string ∧ P.cellsOf f2.type = 1 ∧ f3.type = tr
  row : P.underlying tr = some (.slice tv)
  one : P.cellsOf tr = 1
  size : P.cellsOf tv = 4
section
variable {H : Type} {enc : TypeId × Value → H} {P : Program} {W : World} {base : Nat} {sp : Nat → Bool} {held : Bool} {tv tr : TypeId}
def allS (W : World) : Nat → Prop := fun b => b < W.heap.size

theorem open_val (T : ValTy P tv tr) : ∀ (fuel : Nat), (∀ cs x, DataW.trod enc P W base sp held fuel tv cs = some x → ∃ v : S24, crepL W (allS W) [] (cellsS v) cs ∧ ∀ u ∈ cs, u.oneCell' = true) ∧
    (∀ cs x, DataW.trod enc P W base sp held fuel tr cs = some x → ∃ (l : List S24) (u : Value), cs = [u] ∧ crep W (allS W) [] (.rows false (l.map cellsS)) u ∧ u.oneCell' = true) := by
  intro fuel
  induction fuel using Nat.strongRecOn with
  | _ fuel ih =>
    refine ⟨fun cs x h => ?_, fun cs x h => ?_⟩
    · obtain ⟨f0, f1, f2, f3, hu, o0, o1, o2, o3, u0, c0, u1, c1, u2, c2, t3⟩ := T.str
      obtain ⟨xs, n, rfl, rfl, hl, hlen, hf⟩ := DataW.trod_struct hu h
      rw [T.size] at hl
      match cs, hl with
      | [a0, a1, a2, a3], _ =>
        match xs, hlen with
        | [y0, y1, y2, y3], _ =>
          have g0 := hf 0 f0 rfl
          have g1 := hf 1 f1 rfl
          have g2 := hf 2 f2 rfl
          have g3 := hf 3 f3 rfl
          rw [o0, c0] at g0
          rw [o1, c1] at g1
          rw [o2, c2] at g2
          rw [o3, t3, T.one] at g3
          simp only [List.drop_zero, List.drop_succ_cons, List.take_succ_cons, List.take_zero, List.getElem?_cons_zero, List.getElem?_cons_succ] at g0 g1 g2 g3
          obtain ⟨k, e0, _, _⟩ := DataW.trod_int u0 g0
          obtain ⟨m, e1, _, _⟩ := DataW.trod_int u1 g1
          obtain ⟨s, e2, _, _⟩ := DataW.trod_string u2 g2
          obtain ⟨l, u, e3, hr, ho⟩ := (ih n (Nat.lt_succ_self n)).2 _ _ g3
          simp only [List.cons.injEq, and_true] at e0 e1 e2 e3
          subst e0 e1 e2 e3
          refine ⟨⟨k, m, s, l⟩, ?_, ?_⟩
          · rw [cellsS, rowsS_map]
            simp only [crepL]
            exact ⟨_, _, rfl, by rw [crep], _, _, rfl, by rw [crep], _, _, rfl, by rw [crep], _, _, rfl, hr, rfl⟩
          · intro w hw
            simp only [List.mem_cons, List.mem_nil_iff, or_false] at hw
            rcases hw with rfl | rfl | rfl | rfl
            · rfl
            · rfl
            · rfl
            · exact ho
    · rcases DataW.trod_slice T.row h with ⟨rfl, _⟩ | ⟨a, len, cap, elems, rest, n, rfl, rfl, _, hb, hlc, hm, hlen, hel, _, _⟩
      · exact ⟨[], _, rfl, by rw [crep]; exact ⟨none, 0, rfl, Nat.le_refl _, by simp, by simp⟩, rfl⟩
      · rw [T.size] at hel
        have each : ∀ i, i < len → ∃ v : S24, ∃ cs', W.cells? base (a.add (i * 4)) 4 = some cs' ∧ crepL W (allS W) [] (cellsS v) cs' ∧ ∀ u ∈ cs', u.oneCell' = true := fun i hi => by
          have h1 := hel i hi
          rw [List.getElem?_eq_getElem (by omega)] at h1
          obtain ⟨cs', k1, k2⟩ := Option.bind_eq_some_iff.1 h1
          obtain ⟨v, k3, k4⟩ := (ih n (Nat.lt_succ_self n)).1 _ _ k2
          exact ⟨v, cs', k1, k3, k4⟩
        have build : ∀ m, m ≤ len → ∃ l : List S24, l.length = m ∧ ∀ i v, l[i]? = some v → ∃ cs', W.cells? base (a.add (i * 4)) 4 = some cs' ∧ crepL W (allS W) [] (cellsS v) cs' ∧ ∀ u ∈ cs', u.oneCell' = true := by
          intro m
          induction m with
          | zero => intro _; exact ⟨[], rfl, by simp⟩
          | succ m ihm =>
            intro hm
            obtain ⟨l, l1, l2⟩ := ihm (by omega)
            obtain ⟨v, hv⟩ := each m (by omega)
            refine ⟨l ++ [v], by simp [l1], fun i w hw => ?_⟩
            by_cases hi : i < l.length
            · rw [List.getElem?_append_left hi] at hw; exact l2 i w hw
            · rw [List.getElem?_append_right (by omega)] at hw
              have : i = m := by
                have := (List.getElem?_eq_some_iff.1 hw).1
                simp at this; omega
              subst this
              rw [l1, Nat.sub_self] at hw
              simp at hw; subst hw
              exact hv
        obtain ⟨l, l1, l2⟩ := build len (Nat.le_refl _)
        refine ⟨l, _, rfl, ?_, rfl⟩
        rw [crep]
        refine ⟨some a, cap, by rw [List.length_map, l1], by rw [List.length_map, l1]; exact hlc, by simp, fun hne => ?_⟩
        have hpos : 0 < l.length := by cases l with | nil => simp at hne | cons => simp
        obtain ⟨cs0, z1, z2, _⟩ := l2 0 _ (List.getElem?_eq_getElem hpos)
        obtain ⟨_, zl, zc⟩ := World.cells?_some z1
        have z0 := zc 0 (by omega)
        simp only [Nat.zero_mul] at z0
        have hspot : a.spot = none ∧ a.block < W.heap.size := by
          have e0 : (a.add 0).add 0 = a := by simp [Addr.add]
          rw [e0, List.getElem?_eq_getElem (by omega)] at z0
          unfold World.cell? at z0
          split at z0
          · rename_i hb2
            split at z0
            · cases z0
            · rename_i hsp
              exact ⟨by simpa using hsp, (Array.getElem?_eq_some_iff.1 hb2).1⟩
          · cases z0
        obtain ⟨bb, oo, spot⟩ := a
        simp only at hspot
        obtain ⟨rfl, hlt⟩ := hspot
        refine ⟨bb, oo, 4, rfl, hlt, crepR_of fun i x hx => ?_⟩
        rw [List.getElem?_map] at hx
        obtain ⟨v, hv, rfl⟩ := Option.map_eq_some_iff.1 hx
        refine ⟨cellsS_len v, crepAt_of fun j y hy => ?_⟩
        obtain ⟨cs', k1, k2, k3⟩ := l2 i v hv
        obtain ⟨_, kl, kc⟩ := World.cells?_some k1
        have hj : j < 4 := by rw [← cellsS_len v]; exact (List.getElem?_eq_some_iff.1 hy).1
        obtain ⟨w, w1, w2⟩ := crepL_get k2 j y hy
        have := kc j hj
        rw [add_at, add_at, w1] at this
        exact ⟨w, this, k3 w (List.mem_of_getElem? w1), w2⟩

/-- What a law's call comes to: true; all that was there is as it was. -/
theorem law_calls {cf : Cfg} {C : Callee} (hL : cf.laidIn = W ∧ ∀ b ∈ cf.laid, b < W.heap.size) (hC : COK P cf C) {f : FuncId} (hx : cf.xf f = false) {avs : List AV} {b : Bool} {out hp' : List (List AV)} (h : C f avs [] = some (.ret (.bool b) out hp')) {vs : List Value} (hr : crepL W (allS W) [] avs vs) :
    Calls P f vs.toArray W fun e W' => e = .returned (.bool b) ∧ RowKit.Below W.heap.size W W' := by
  obtain ⟨_, hc⟩ := hC _ _ _ _ h
  have hH : HRep W (allS W) [] [] := ⟨rfl, List.nodup_nil, by simp, fun id b x e => by simp at e⟩
  refine Calls.mono (hc W (allS W) [] none vs (fun b hb => ⟨hL.2 b hb, by rw [hL.1]⟩) hH (fun _ h => h) (by unfold ArgsOK; rw [hx]; exact ⟨rfl, hr⟩)) fun e W' hp => ?_
  cases e with
  | returned cv =>
    obtain ⟨v, o2, hp2, S', hb', e1, E, hv, _⟩ := hp
    simp only [Res.ret.injEq] at e1
    obtain ⟨rfl, rfl, rfl⟩ := e1
    have hv' : crep W' S' hb' (.bool b) cv := hv
    rw [crep] at hv'
    subst hv'
    exact ⟨rfl, ⟨E.os, E.tape, E.output, E.size, fun k hk => E.block k hk (by simp) (by simp)⟩⟩
  | panicked chain =>
    obtain ⟨v, hp2, S', hb', cv, e1, _⟩ := hp
    cases e1
  | outgrown => exact hp.elim
end
end Go.Ev
