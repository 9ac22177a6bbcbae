/- The abstract interpreter: each operation's equation. -/
import Derived.Test.YtikedmiioonjiaaDoorEvZd
import Derived.IntWalk
set_option linter.unusedVariables false
set_option linter.unusedSimpArgs false
set_option linter.unusedSectionVars false
set_option linter.defProp false
namespace Go.Ev
open Go
section
variable {cf : Cfg} {C : Callee} {esc : List Tmp} {d : Option Tmp} {ty : TypeId} {pos : String} {after : Array Edge} {g : Option (Nat × Bool)} {st : St} {K : St → Prop} {Kp : AV → St → Prop}
theorem opnd_tmp {t : Tmp} : opnd st (.tmp t) = some (st.fr.getD t .undef) := nr rfl
theorem opnd_int {k : IntKind} {n : Int} : opnd st (.const (.int k n)) = some (.int k n) := nr rfl
theorem opnd_bool {b : Bool} : opnd st (.const (.bool b)) = some (.bool b) := nr rfl
theorem opnd_str {s : ByteArray} : opnd st (.const (.string s)) = some (.str s) := nr rfl
theorem opnd_nil : opnd st (.const (.slice none 0 0)) = some (.rows true []) := nr rfl
theorem opnd_nilptr : opnd st (.const (.pointer none)) = some .nilptr := nr rfl
theorem opnd_nilfunc : opnd st (.const .nilFunc) = some .nilFunc := nr rfl
theorem opnd_niliface : opnd st (.const .nilIface) = some .nilIface := nr rfl
theorem opnd_func {f : FuncId} : opnd st (.func f) = some (.func (.func f) [] []) := nr rfl
theorem aop_move {x : Operand} : aop cf C esc ⟨d, .move x, ty, pos, after, g⟩ st = (match opnd st x with | some v => some (.val v st) | none => none) := nr rfl
theorem aop_assign {x : Operand} : aop cf C esc ⟨d, .assign x, ty, pos, after, g⟩ st = (match opnd st x with | some v => some (.val v st) | none => none) := nr rfl
theorem aop_pick {c a b : Operand} : aop cf C esc ⟨d, .pick c a b, ty, pos, after, g⟩ st = (match opnd st c with
    | some (.bool t) => match opnd st (if t then a else b) with
      | some v => some (.val v st)
      | none => none
    | _ => none) := nr rfl
/-- What a choice comes to. -/
def pickV (t : Bool) (v w : AV) : AV := if t then v else w
theorem pickV_true {v w : AV} : pickV true v w = v := nr rfl
theorem pickV_false {v w : AV} : pickV false v w = w := nr rfl
theorem pickV_tt {t : Bool} {w : Bool} : pickV t (.bool true) (.bool w) = .bool (t || w) := by cases t <;> rfl
theorem pickV_ff {t : Bool} {w : Bool} : pickV t (.bool w) (.bool false) = .bool (t && w) := by cases t <;> rfl
theorem wpA_pick {c a b : Operand} {t : Bool} {v w : AV} (h1 : opnd st c = some (.bool t)) (h2 : opnd st a = some v) (h3 : opnd st b = some w) : wpA cf C esc ⟨d, .pick c a b, ty, pos, after, g⟩ st K Kp = K (put st d (pickV t v w)) := by
  unfold wpA
  rw [aop_pick]
  cases t <;> simp [h1, h2, h3, pickV]
theorem aop_alloc {t : TypeId} {d : Tmp} : aop cf C esc ⟨some d, .alloc t, ty, pos, after, g⟩ st = (match cf.tab t with
    | some i => if esc.contains d then some (.val (.ptr st.hp.length 0) { st with hp := st.hp ++ [i.zero] }) else some (.val (.lptr d (st.gen d) 0 0) (st.mk_ d false t i.size [i.zero]))
    | none => none) := by
  show (match some d, cf.tab t with | some d, some i => _ | _, _ => _) = _
  cases cf.tab t <;> rfl
theorem aop_box {t : TypeId} {x : Operand} {d : Tmp} : aop cf C esc ⟨some d, .box t x, ty, pos, after, g⟩ st = (match cf.tab t, opnd st x with
    | some i, some v => if (cellsOf v).length = i.size ∧ okCells st v = true then
        (if esc.contains d then match giveV st v with
          | some r => some (.val (.ptr r.2.hp.length 0) { r.2 with hp := r.2.hp ++ [cellsOf r.1] })
          | none => none
        else some (.val (.lptr d (st.gen d) 0 0) (st.mk_ d false t i.size [cellsOf v]))) else none
    | _, _ => none) := by
  show (match some d, cf.tab t, opnd st x with | some d, some i, some v => _ | _, _, _ => _) = _
  cases cf.tab t <;> cases opnd st x <;> rfl
theorem aop_build {t : TypeId} {parts : Array (Nat × Operand)} : aop cf C esc ⟨d, .build t parts, ty, pos, after, g⟩ st = (match cf.tab t, opndP st parts.toList with
    | some i, some ps => match i.desc with
      | .struct fs => if known cf.tab fs then match fillA st (fieldOf cf.tab fs) i.zero ps with
          | some cs => some (.val (.agg cs) st)
          | none => none else none
      | _ => none
    | _, _ => none) := nr rfl
theorem aop_buildSlice {t : TypeId} {len : Nat} {parts : Array (Nat × Operand)} {d : Tmp} : aop cf C esc ⟨some d, .buildSlice t len parts, ty, pos, after, g⟩ st = (match cf.tab t, opndP st parts.toList with
    | some i, some ps => match i.desc with
      | .slice e => match cf.tab e with
        | some ei => if len * ei.size ≤ 16777216 ∧ ei.size ≠ 0 then
            match giveA st (ps.map (·.2)) with
            | some r => if ps.map (·.1) = List.range len ∧ r.1.all (fun v => (cellsOf v).length == ei.size && (cellsOf v).all clean1) then some (.val (.lrow d (r.2.gen d)) (r.2.mk_ d false e ei.size (r.1.map cellsOf))) else none
            | none => none
          else none
        | none => none
      | _ => none
    | _, _ => none) := by
  show (match some d, cf.tab t, opndP st parts.toList with | some d, some i, some ps => _ | _, _, _ => _) = _
  cases cf.tab t <;> cases opndP st parts.toList <;> rfl
theorem aop_load {t : TypeId} {a : Operand} : aop cf C esc ⟨d, .load t a, ty, pos, after, g⟩ st = (match cf.tab t, opnd st a with
    | some i, some p => match loadAt i st p with
      | some v => some (.val v st)
      | none => none
    | _, _ => none) := nr rfl
theorem aop_store {t : TypeId} {a x : Operand} : aop cf C esc ⟨d, .store t a x, ty, pos, after, g⟩ st = (match cf.tab t, opnd st a, opnd st x with
    | some i, some p, some v => match storeAt i st p v with
      | some st => some (.val .undef st)
      | none => none
    | _, _, _ => none) := nr rfl
theorem aop_nilCheck {x : Operand} : aop cf C esc ⟨d, .nilCheck x, ty, pos, after, g⟩ st = (match opnd st x with
    | some (.ptr id off) => some (.val (.ptr id off) st)
    | some (.lptr d g i off) => match st.lobj d g with
      | some _ => some (.val (.lptr d g i off) st)
      | none => none
    | some (.eptr cs) => some (.val (.eptr cs) st)
    | _ => none) := nr rfl
theorem aop_binOp {op : BinOp} {t u : TypeId} {x y : Operand} : aop cf C esc ⟨d, .binOp op t x y u, ty, pos, after, g⟩ st = (match opnd st x, opnd st y with
    | some a, some b => match binopA cf.tab op t x y a b with
      | some v => some (.val v st)
      | none => none
    | _, _ => none) := nr rfl
theorem aop_not {t : TypeId} {x : Operand} : aop cf C esc ⟨d, .unOp .not t x, ty, pos, after, g⟩ st = (match opnd st x with
    | some (.bool b) => some (.val (.bool !b) st)
    | _ => none) := by
  show (match UnOp.not, opnd st x with | .not, some (.bool b) => _ | .neg, some (.int k n) => _ | _, _ => _) = _
  cases opnd st x with
  | none => rfl
  | some v => cases v <;> rfl
theorem aop_neg {t : TypeId} {x : Operand} : aop cf C esc ⟨d, .unOp .neg t x, ty, pos, after, g⟩ st = (match opnd st x with
    | some (.int k n) => some (.val (.int k (k.wrap (0 - n))) st)
    | _ => none) := by
  show (match UnOp.neg, opnd st x with | .not, some (.bool b) => _ | .neg, some (.int k n) => _ | _, _ => _) = _
  cases opnd st x with
  | none => rfl
  | some v => cases v <;> rfl
theorem aop_convert {s t : TypeId} {x : Operand} : aop cf C esc ⟨d, .convert s t x, ty, pos, after, g⟩ st = (match opnd st x with
    | some v => match convA cf.tab s t v with
      | some v => some (.val v st)
      | none => none
    | none => none) := nr rfl
theorem aop_makeInterface {t : TypeId} {x : Operand} : aop cf C esc ⟨d, .makeInterface t x, ty, pos, after, g⟩ st = (match cf.tab t, opnd st x with
    | some i, some v => match i.desc with
      | .interface _ => none
      | _ => match giveV st v with
        | some r => some (.val (.iface t r.1) r.2)
        | none => none
    | _, _ => none) := nr rfl
theorem aop_makeFunc {fn : Fn} {first captured : Array Operand} : aop cf C esc ⟨d, .makeFunc fn first captured, ty, pos, after, g⟩ st = (match opndL st captured.toList with
    | some cs => if first.isEmpty then match giveC st cs with
        | some r => some (.val (.func fn [] r.1) r.2)
        | none => none else none
    | none => none) := nr rfl
theorem aop_makeSlice {t : TypeId} {l c : Operand} {d : Tmp} : aop cf C esc ⟨some d, .makeSlice t l c, ty, pos, after, g⟩ st = (match cf.tab t, opnd st l, opnd st c with
    | some i, some (.int _ n), some (.int _ m) => match i.desc with
      | .slice e => match cf.tab e with
        | some ei => if n = m ∧ 0 ≤ n ∧ n.toNat * ei.bytes ≤ roomB ∧ ei.bytes ≠ 0 ∧ ei.size ≠ 0 then some (.val (.lrow d (st.gen d)) (st.mk_ d false e ei.size (List.replicate n.toNat ei.zero))) else none
        | none => none
      | _ => none
    | _, _, _ => none) := by
  show (match some d, cf.tab t, opnd st l, opnd st c with | some d, some i, some (.int _ n), some (.int _ m) => _ | _, _, _, _ => _) = _
  cases cf.tab t with
  | none => rfl
  | some i => cases opnd st l with
    | none => rfl
    | some v => cases opnd st c with
      | none => cases v <;> rfl
      | some u => cases v <;> cases u <;> rfl
theorem aop_fieldAddr {t : TypeId} {a : Operand} {k : Nat} : aop cf C esc ⟨d, .fieldAddr t a k, ty, pos, after, g⟩ st = (match cf.tab t, opnd st a with
    | some i, some p => match i.desc with
      | .struct fs => match fs[k]? with
        | some f => match cf.tab f.type with
          | some j => if j.size = 0 then none else match p with
            | .eptr cs => some (.val (.eptr (cs.drop f.offset)) st)
            | .lptr d g j off => match st.lobj d g with
              | some _ => some (.val (.lptr d g j (off + f.offset)) st)
              | none => none
            | .ptr id off => some (.val (.ptr id (off + f.offset)) st)
            | _ => none
          | none => none
        | none => none
      | _ => none
    | _, _ => none) := nr rfl
theorem aop_indexAddr {t : TypeId} {x k : Operand} : aop cf C esc ⟨d, .indexAddr t x k, ty, pos, after, g⟩ st = (match cf.tab t, opnd st x, opnd st k with
    | some i, some r, some (.int _ n) => match i.desc with
      | .slice e => match cf.tab e with
        | some ei => match r with
          | .rows _ xs => if 0 ≤ n then match xs[n.toNat]? with
              | some x => if x.length = ei.size then some (.val (.eptr x) st) else none
              | none => none else none
          | .lrow d g => match st.lobj d g with
            | some o => if o.it = false ∧ o.sz = ei.size ∧ 0 ≤ n ∧ n < o.xs.length then some (.val (.lptr d g n.toNat 0) st) else none
            | none => none
          | _ => none
        | none => none
      | _ => none
    | _, _, _ => none) := nr rfl
theorem aop_index {t : TypeId} {x k : Operand} : aop cf C esc ⟨d, .index t x k, ty, pos, after, g⟩ st = (match cf.tab t, opnd st x, opnd st k with
    | some i, some (.str s), some (.int _ n) => match i.desc with
      | .string => if 0 ≤ n then match s[n.toNat]? with
          | some b => some (.val (.int .u8 b.toNat) st)
          | none => none else none
      | _ => none
    | _, _, _ => none) := nr rfl
theorem aop_slice {t : TypeId} {x : Operand} {lo hi mx : Option Operand} : aop cf C esc ⟨d, .slice t x lo hi mx, ty, pos, after, g⟩ st = (match cf.tab t, opnd st x, optIdx st lo, optIdx st hi, optIdx st mx with
    | some i, some v, some l, some h, some m => match i.desc, v with
      | .slice e, v => match v with
        | .rows full xs => match cf.tab e with
          | some ei => if xs.all (fun x => x.length == ei.size) then match cutA xs full l h m with
            | some r => some (.val r st)
            | none => none else none
          | none => none
        | .lrow d g => match cf.tab e, give1 st (.lrow d g) with
          | some ei, some (.rows _ xs, st') => if xs.all (fun x => x.length == ei.size) then match cutA xs false l h m with
            | some r => some (.val r st')
            | none => none else none
          | _, _ => none
        | _ => none
      | .string, .str s => match m with
        | some _ => none
        | none => match cutS s l h with
          | some r => some (.val r st)
          | none => none
      | _, _ => none
    | _, _, _, _, _ => none) := nr rfl
theorem aop_range {t : TypeId} {x : Operand} {d : Tmp} : aop cf C esc ⟨some d, .range t x, ty, pos, after, g⟩ st = (match cf.tab t, opnd st x with
    | some i, some (.str s) => match i.desc with
      | .string => some (.val (.liter d (st.gen d)) (st.mk_ d true 0 2 [[.str s, .int .i64 0]]))
      | _ => none
    | _, _ => none) := by
  show (match some d, cf.tab t, opnd st x with | some d, some i, some (.str s) => _ | _, _, _ => _) = _
  cases cf.tab t with
  | none => rfl
  | some i => cases opnd st x with
    | none => rfl
    | some v => cases v <;> rfl
theorem aop_next {it : Operand} {isS : Bool} : aop cf C esc ⟨d, .next it isS, ty, pos, after, g⟩ st = (match opnd st it with
    | some (.liter d g) => match st.lobj d g with
      | some ⟨g', f, true, ty, sz, [[.str s, .int .i64 p]]⟩ => if isS ∧ 0 ≤ p then
          if p < s.size then some (.val (.tuple [.bool true, .int .i64 p, .int .i32 (Utf8.decode s p.toNat).1]) { st with loc := st.loc.set d (some ⟨g', f, true, ty, sz, [[.str s, .int .i64 (p + (Utf8.decode s p.toNat).2)]]⟩) })
          else some (.val (.tuple [.bool false]) st)
        else none
      | _ => none
    | _ => none) := nr rfl
theorem aop_extract {x : Operand} {i : Nat} : aop cf C esc ⟨d, .extract x i, ty, pos, after, g⟩ st = (match opnd st x with
    | some (.tuple vs) => match vs[i]? with
      | some v => some (.val v st)
      | none => none
    | _ => none) := nr rfl
theorem aop_builtin {b : Builtin} {args : Array Operand} {tys : Array TypeId} : aop cf C esc ⟨d, .call ⟨.builtin b, args, tys⟩, ty, pos, after, g⟩ st = (match opndL st args.toList with
      | some as => builtinA cf.tab st (d.getD 0) b tys.toList as
      | none => none) := nr rfl
theorem aop_call {f : Operand} {args : Array Operand} {tys : Array TypeId} : aop cf C esc ⟨d, .call ⟨.value f, args, tys⟩, ty, pos, after, g⟩ st = (match opnd st f with
      | some (.func (.func g) [] cap) => match opndL st args.toList with
        | some as => callV cf C st d g (as ++ cap)
        | none => none
      | _ => none) := nr rfl
theorem aop_panic {x : Operand} : aop cf C esc ⟨d, .panic x, ty, pos, after, g⟩ st = (match opnd st x with
    | some (.iface t v) => some (.pan (.iface t v) st)
    | _ => none) := nr rfl
theorem guardSlot_l {l : List Oper} {j : Nat} : guardSlot l.toArray j = (match l[j]? with
    | some oj => oj.dst
    | none => none) := by unfold guardSlot; rw [List.getElem?_toArray]; rfl
/-- The two kinds of calls. -/
theorem callV_plain {f : FuncId} {args : List AV} (hx : cf.xf f = false) : callV cf C st d f args = (match giveA st args with
    | some r => match C f r.1 r.2.hp with
      | some (.ret (.orow ty sz xs) _ hp) => match d with
        | some d => some (.val (.lrow d (r.2.gen d)) ({ r.2 with hp := hp }.mk_ d false ty sz xs))
        | none => none
      | some (.ret v _ hp) => some (.val v { r.2 with hp := hp })
      | some (.pan v hp) => some (.pan v { r.2 with hp := hp })
      | none => none
    | none => none) := by
  unfold callV
  rw [if_neg (by rw [hx]; decide)]
  rfl
theorem callV_x {f : FuncId} {args : List AV} (hx : cf.xf f = true) : callV cf C st d f args = (match args with
    | .lrow e g :: rest => match giveA st rest with
      | some r => match r.2.lobj e g with
        | some o => if o.frz = false ∧ o.it = false ∧ cleanRows o.xs = true then match C f (.orow o.ty o.sz o.xs :: r.1) r.2.hp with
            | some (.ret v out hp) => if out.length = o.xs.length ∧ isORow v = false ∧ out.all (fun x => x.length == o.sz) = true then some (.val v { r.2 with hp := hp, loc := r.2.loc.set e (some { o with xs := out }) }) else none
            | _ => none
          else none
        | none => none
      | none => none
    | _ => none) := by
  unfold callV
  rw [if_pos hx]
  rfl
/-! Slots. -/
theorem put_some {fr : List AV} {loc : List (Option LObj)} {gen : Nat → Nat} {hp : List (List AV)} {d : Tmp} {v : AV} : put ⟨fr, loc, gen, hp⟩ (some d) v = ⟨fr.set d v, loc, gen, hp⟩ := nr rfl
theorem put_none {st : St} {v : AV} : put st none v = st := nr rfl
theorem setFr_mk {fr : List AV} {loc : List (Option LObj)} {gen : Nat → Nat} {hp : List (List AV)} {d : Nat} {v : AV} : setFr ⟨fr, loc, gen, hp⟩ d v = ⟨fr.set d v, loc, gen, hp⟩ := nr rfl
theorem mk_mk {fr : List AV} {loc : List (Option LObj)} {gen : Nat → Nat} {hp : List (List AV)} {d : Nat} {it : Bool} {ty sz : Nat} {xs : List (List AV)} : St.mk_ ⟨fr, loc, gen, hp⟩ d it ty sz xs = ⟨fr, loc.set d (some ⟨gen d, false, it, ty, sz, xs⟩), bump gen d, hp⟩ := nr rfl
theorem slotS {α : Type} {l : List α} {d : Nat} {v w : α} (h : d < l.length) : (l.set d v).getD d w = v := by
  rw [List.getD_eq_getElem?_getD, List.getElem?_set, if_pos rfl, if_pos h]
  rfl
theorem slotN {α : Type} {l : List α} {d e : Nat} {v w : α} (h : ¬ d = e) : (l.set d v).getD e w = l.getD e w := by
  rw [List.getD_eq_getElem?_getD, List.getElem?_set, if_neg h, ← List.getD_eq_getElem?_getD]
theorem set_one {α : Type} {a b : α} : [a].set 0 b = [b] := nr rfl
def setC (x : List AV) (off : Nat) (v : AV) : List AV := x.set off v
theorem setC_zero {a v : AV} {l : List AV} : setC (a :: l) 0 v = v :: l := nr rfl
theorem setC_succ {a v : AV} {l : List AV} {n : Nat} : setC (a :: l) (n + 1) v = a :: setC l n v := nr rfl
theorem writeCells_nil {x : List AV} {off : Nat} : writeCells x off [] = x := nr rfl
theorem writeCells_cons {x : List AV} {off : Nat} {v : AV} {vs : List AV} : writeCells x off (v :: vs) = writeCells (setC x off v) (off + 1) vs := nr rfl
/-- A whole number in its range is itself. -/
theorem wrap_i64 {n : Int} (h : -9223372036854775808 ≤ n ∧ n ≤ 9223372036854775807) : IntKind.wrap .i64 n = n := IntWalk.i64_in n h
end
end Go.Ev
