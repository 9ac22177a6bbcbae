/- Values: their order, which are right, how many parts they have: plain Lean. -/
import Derived.Test.YtikedmiioonjiaaDoorEvZa
set_option linter.unusedVariables false
set_option linter.unusedSimpArgs false
set_option linter.unusedSectionVars false
set_option linter.defProp false
open Go.Ev
namespace Sp
abbrev V := S24

def cmpI (a b : Int) : Int := if a < b then -1 else if b < a then 1 else 0
def cmpB : List UInt8 → List UInt8 → Int
  | [], [] => 0
  | [], _ :: _ => -1
  | _ :: _, [] => 1
  | a :: as, b :: bs => if a < b then -1 else if b < a then 1 else cmpB as bs

mutual
def cmpV : S24 → S24 → Int
  | ⟨k1, n1, t1, l1⟩, ⟨k2, n2, t2, l2⟩ =>
    if k1 ≠ k2 then cmpI k1 k2
    else if k1 = 1 ∨ k1 = 2 then cmpI n1 n2
    else if k1 = 3 then cmpB t1.data.toList t2.data.toList
    else if k1 = 4 ∨ k1 = 5 ∨ k1 = 6 then cmpL l1 l2
    else 0
def cmpL : List S24 → List S24 → Int
  | [], [] => 0
  | [], _ :: _ => -1
  | _ :: _, [] => 1
  | a :: as, b :: bs => if cmpV a b ≠ 0 then cmpV a b else cmpL as bs
end

mutual
/-- an induction over values and lists of them, at once -/
theorem ind2 {P : S24 → Prop} {Q : List S24 → Prop} (hv : ∀ k n t l, Q l → P ⟨k, n, t, l⟩) (hn : Q []) (hc : ∀ a as, P a → Q as → Q (a :: as)) : ∀ v, P v
  | ⟨k, n, t, l⟩ => hv k n t l (ind2L hv hn hc l)
theorem ind2L {P : S24 → Prop} {Q : List S24 → Prop} (hv : ∀ k n t l, Q l → P ⟨k, n, t, l⟩) (hn : Q []) (hc : ∀ a as, P a → Q as → Q (a :: as)) : ∀ l, Q l
  | [] => hn
  | a :: as => hc a as (ind2 hv hn hc a) (ind2L hv hn hc as)
end

theorem cmpV_eq (a b : S24) : cmpV a b = (if a.f0 ≠ b.f0 then cmpI a.f0 b.f0
    else if a.f0 = 1 ∨ a.f0 = 2 then cmpI a.f1 b.f1
    else if a.f0 = 3 then cmpB a.f2.data.toList b.f2.data.toList
    else if a.f0 = 4 ∨ a.f0 = 5 ∨ a.f0 = 6 then cmpL a.f3 b.f3
    else 0) := by
  cases a; cases b; rw [cmpV]

/-- What a comparison is: three answers, turned about the negative, and one line. -/
structure Good {α : Type} (c : α → α → Int) : Prop where
  swap : ∀ a b, c b a = - c a b
  le_trans : ∀ a b d, c a b ≤ 0 → c b d ≤ 0 → c a d ≤ 0

theorem Good.self {α : Type} {c : α → α → Int} (h : Good c) (a : α) : c a a = 0 := by have := h.swap a a; omega
theorem Good.eq_left {α : Type} {c : α → α → Int} (h : Good c) {a b : α} (e : c a b = 0) (d : α) : (c a d ≤ 0 ↔ c b d ≤ 0) := by
  have e' : c b a = 0 := by have := h.swap a b; omega
  exact ⟨fun x => h.le_trans b a d (by omega) x, fun x => h.le_trans a b d (by omega) x⟩
theorem Good.eq_right {α : Type} {c : α → α → Int} (h : Good c) {a b : α} (e : c a b = 0) (d : α) : (c d a ≤ 0 ↔ c d b ≤ 0) := by
  have e' : c b a = 0 := by have := h.swap a b; omega
  exact ⟨fun x => h.le_trans d a b x (by omega), fun x => h.le_trans d b a x (by omega)⟩
theorem Good.lt_of_lt_of_le {α : Type} {c : α → α → Int} (h : Good c) {a b d : α} (h1 : c a b < 0) (h2 : c b d ≤ 0) : c a d < 0 := by
  have hle := h.le_trans a b d (by omega) h2
  rcases Int.lt_or_eq_of_le hle with g | g
  · exact g
  · -- c a d = 0, so d ≤ a, so b ≤ a
    have h3 : c d a ≤ 0 := by have := h.swap a d; omega
    have h4 := h.le_trans b d a h2 h3
    have := h.swap a b
    omega
theorem Good.lt_of_le_of_lt {α : Type} {c : α → α → Int} (h : Good c) {a b d : α} (h1 : c a b ≤ 0) (h2 : c b d < 0) : c a d < 0 := by
  have hle := h.le_trans a b d h1 (by omega)
  rcases Int.lt_or_eq_of_le hle with g | g
  · exact g
  · have h3 : c d a ≤ 0 := by have := h.swap a d; omega
    have h4 := h.le_trans d a b h3 h1
    have := h.swap b d
    omega
theorem Good.eq_trans {α : Type} {c : α → α → Int} (h : Good c) {a b d : α} (h1 : c a b = 0) (h2 : c b d = 0) : c a d = 0 := by
  have x := h.le_trans a b d (by omega) (by omega)
  have h3 : c d b ≤ 0 := by have := h.swap b d; omega
  have h4 : c b a ≤ 0 := by have := h.swap a b; omega
  have y := h.le_trans d b a h3 h4
  have := h.swap a d
  omega

theorem good_cmpI : Good cmpI := ⟨fun _ _ => by unfold cmpI; (repeat' split) <;> omega, fun _ _ _ => by unfold cmpI; (repeat' split) <;> omega⟩
theorem cmpI_eq0 {a b : Int} : cmpI a b = 0 ↔ a = b := by unfold cmpI; (repeat' split) <;> omega

/-- first by one, then by another -/
def orI (x y : Int) : Int := if x ≠ 0 then x else y
theorem good_or {α : Type} {c d : α → α → Int} (hc : Good c) (hd : Good d) : Good (fun a b => orI (c a b) (d a b)) where
  swap a b := by
    have h1 := hc.swap a b; have h2 := hd.swap a b
    unfold orI; (repeat' split) <;> omega
  le_trans a b e h1 h2 := by
    simp only [orI] at *
    by_cases x : c a b = 0 <;> by_cases y : c b e = 0 <;> simp only [x, y, ne_eq, not_true, not_false_iff, if_true, if_false] at h1 h2
    · have := hc.eq_trans x y
      simp only [this, ne_eq, not_true, if_false]
      exact hd.le_trans a b e h1 h2
    · have : c a e < 0 := hc.lt_of_le_of_lt (by omega) (show c b e < 0 by omega)
      rw [if_pos (by omega)]; omega
    · have : c a e < 0 := hc.lt_of_lt_of_le (show c a b < 0 by omega) (by omega)
      rw [if_pos (by omega)]; omega
    · have : c a e < 0 := hc.lt_of_lt_of_le (show c a b < 0 by omega) (by omega)
      rw [if_pos (by omega)]; omega
theorem good_by {α β : Type} {c : β → β → Int} (h : Good c) (f : α → β) : Good (fun a b => c (f a) (f b)) :=
  ⟨fun a b => h.swap _ _, fun a b d => h.le_trans _ _ _⟩
theorem good_flip {α : Type} {c : α → α → Int} (h : Good c) : Good (fun a b => c b a) :=
  ⟨fun a b => h.swap _ _, fun a b d h1 h2 => h.le_trans d b a h2 h1⟩

theorem cmpB_swap : ∀ a b, cmpB b a = - cmpB a b
  | [], [] => rfl
  | [], _ :: _ => rfl
  | _ :: _, [] => rfl
  | a :: as, b :: bs => by
    unfold cmpB
    have ih := cmpB_swap as bs
    have e1 : (a < b) ↔ (a.toNat < b.toNat) := UInt8.lt_iff_toNat_lt
    have e2 : (b < a) ↔ (b.toNat < a.toNat) := UInt8.lt_iff_toNat_lt
    simp only [e1, e2]
    (repeat' split) <;> omega
theorem cmpB_trans : ∀ a b d, cmpB a b ≤ 0 → cmpB b d ≤ 0 → cmpB a d ≤ 0
  | [], _, [], _, _ => by simp [cmpB]
  | [], _, _ :: _, _, _ => by simp [cmpB]
  | _ :: _, [], _, h, _ => by simp [cmpB] at h
  | _ :: _, _ :: _, [], _, h => by simp [cmpB] at h
  | a :: as, b :: bs, d :: ds, h1, h2 => by
    unfold cmpB at *
    have ih := cmpB_trans as bs ds
    have e1 : (a < b) ↔ (a.toNat < b.toNat) := UInt8.lt_iff_toNat_lt
    have e2 : (b < a) ↔ (b.toNat < a.toNat) := UInt8.lt_iff_toNat_lt
    have e3 : (b < d) ↔ (b.toNat < d.toNat) := UInt8.lt_iff_toNat_lt
    have e4 : (d < b) ↔ (d.toNat < b.toNat) := UInt8.lt_iff_toNat_lt
    have e5 : (a < d) ↔ (a.toNat < d.toNat) := UInt8.lt_iff_toNat_lt
    have e6 : (d < a) ↔ (d.toNat < a.toNat) := UInt8.lt_iff_toNat_lt
    simp only [e1, e2, e3, e4, e5, e6] at *
    split at h1
    · split at h2
      · rw [if_pos (by omega)]; omega
      · split at h2
        · omega
        · rw [if_pos (by omega)]; omega
    · split at h1
      · omega
      · split at h2
        · rw [if_pos (by omega)]; omega
        · split at h2
          · omega
          · rw [if_neg (by omega), if_neg (by omega)]; exact ih h1 h2
theorem good_cmpB : Good cmpB := ⟨cmpB_swap, cmpB_trans⟩
theorem cmpB_eq0 : ∀ {a b}, cmpB a b = 0 → a = b
  | [], [], _ => rfl
  | [], _ :: _, h => by simp [cmpB] at h
  | _ :: _, [], h => by simp [cmpB] at h
  | a :: as, b :: bs, h => by
    unfold cmpB at h
    have e1 : (a < b) ↔ (a.toNat < b.toNat) := UInt8.lt_iff_toNat_lt
    have e2 : (b < a) ↔ (b.toNat < a.toNat) := UInt8.lt_iff_toNat_lt
    simp only [e1, e2] at h
    split at h
    · omega
    · split at h
      · omega
      · rw [cmpB_eq0 h, show a = b from UInt8.toNat_inj.1 (by omega)]

mutual
theorem cmpV_swap : ∀ a b, cmpV b a = - cmpV a b
  | ⟨k1, n1, t1, l1⟩, ⟨k2, n2, t2, l2⟩ => by
    rw [cmpV, cmpV]
    have h1 := good_cmpI.swap k1 k2; have h2 := good_cmpI.swap n1 n2; have h3 := cmpB_swap t1.data.toList t2.data.toList
    have h4 := cmpL_swap l1 l2
    by_cases e : k1 = k2
    · subst e
      simp only [ne_eq, not_true, if_false]
      (repeat' split) <;> omega
    · rw [if_pos (fun h => e h.symm), if_pos e]; exact h1
theorem cmpL_swap : ∀ a b, cmpL b a = - cmpL a b
  | [], [] => rfl
  | [], _ :: _ => rfl
  | _ :: _, [] => rfl
  | a :: as, b :: bs => by
    rw [cmpL, cmpL]
    have h1 := cmpV_swap a b; have h2 := cmpL_swap as bs
    (repeat' split) <;> omega
end
theorem cmp_trans3 {x y z p q r : Int} (hx : x ≤ 0 → y ≤ 0 → z ≤ 0) (hx' : x < 0 → y ≤ 0 → z < 0) (hx'' : x ≤ 0 → y < 0 → z < 0) (hp : p ≤ 0 → q ≤ 0 → r ≤ 0)
    (h1 : (if x ≠ 0 then x else p) ≤ 0) (h2 : (if y ≠ 0 then y else q) ≤ 0) : (if z ≠ 0 then z else r) ≤ 0 := by
  by_cases a : x = 0 <;> by_cases b : y = 0
  · rw [if_neg (by simp [a])] at h1; rw [if_neg (by simp [b])] at h2
    by_cases c : z = 0
    · rw [if_neg (by simp [c])]; exact hp h1 h2
    · rw [if_pos c]; exact hx (by omega) (by omega)
  · rw [if_pos b] at h2; have := hx'' (by omega) (by omega); rw [if_pos (by omega)]; omega
  · rw [if_pos a] at h1; have := hx' (by omega) (by omega); rw [if_pos (by omega)]; omega
  · rw [if_pos a] at h1; rw [if_pos b] at h2; have := hx' (by omega) (by omega); rw [if_pos (by omega)]; omega
/-- strict steps out of the others -/
theorem lt_le_of {α : Type} {c : α → α → Int} (sw : ∀ a b, c b a = - c a b) {a b d : α} (t1 : c a b ≤ 0 → c b d ≤ 0 → c a d ≤ 0) (t2 : c b d ≤ 0 → c d a ≤ 0 → c b a ≤ 0) (h1 : c a b < 0) (h2 : c b d ≤ 0) : c a d < 0 := by
  have h3 := t1 (by omega) h2
  by_cases e : c a d = 0
  · have := t2 h2 (by have := sw a d; omega); have := sw a b; omega
  · omega
theorem le_lt_of {α : Type} {c : α → α → Int} (sw : ∀ a b, c b a = - c a b) {a b d : α} (t1 : c a b ≤ 0 → c b d ≤ 0 → c a d ≤ 0) (t2 : c d a ≤ 0 → c a b ≤ 0 → c d b ≤ 0) (h1 : c a b ≤ 0) (h2 : c b d < 0) : c a d < 0 := by
  have h3 := t1 h1 (by omega)
  by_cases e : c a d = 0
  · have := t2 (by have := sw a d; omega) h1; have := sw b d; omega
  · omega
/-- All ways round for three: by the first one's depth. -/
theorem cmp_trans_all : (∀ a : S24, ∀ b d, (cmpV a b ≤ 0 → cmpV b d ≤ 0 → cmpV a d ≤ 0) ∧ (cmpV b d ≤ 0 → cmpV d a ≤ 0 → cmpV b a ≤ 0) ∧ (cmpV d a ≤ 0 → cmpV a b ≤ 0 → cmpV d b ≤ 0)) ∧
    (∀ a : List S24, ∀ b d, (cmpL a b ≤ 0 → cmpL b d ≤ 0 → cmpL a d ≤ 0) ∧ (cmpL b d ≤ 0 → cmpL d a ≤ 0 → cmpL b a ≤ 0) ∧ (cmpL d a ≤ 0 → cmpL a b ≤ 0 → cmpL d b ≤ 0)) := by
  have key : ∀ (Q : List S24 → Prop) (P : S24 → Prop), (∀ k n t l, Q l → P ⟨k, n, t, l⟩) → Q [] → (∀ a as, P a → Q as → Q (a :: as)) → (∀ a, P a) ∧ (∀ a, Q a) :=
    fun Q P h1 h2 h3 => ⟨ind2 h1 h2 h3, ind2L h1 h2 h3⟩
  refine key _ _ ?_ ?_ ?_
  · intro k n t l ih b d
    have K := good_cmpI
    have B := good_cmpB
    have hI : ∀ x y z : Int, cmpI x y ≤ 0 → cmpI y z ≤ 0 → cmpI x z ≤ 0 := K.le_trans
    obtain ⟨kb, nb, tb, lb⟩ := b
    obtain ⟨kd, nd, td, ld⟩ := d
    obtain ⟨i1, i2, i3⟩ := ih lb ld
    simp only [cmpV]
    by_cases e1 : k = kb
    · subst e1
      by_cases e2 : k = kd
      · subst e2
        simp only [ne_eq, not_true, if_false]
        by_cases c1 : k = 1 ∨ k = 2
        · simp only [if_pos c1]; exact ⟨hI _ _ _, hI _ _ _, hI _ _ _⟩
        simp only [if_neg c1]
        by_cases c2 : k = 3
        · simp only [if_pos c2]; exact ⟨B.le_trans _ _ _, B.le_trans _ _ _, B.le_trans _ _ _⟩
        simp only [if_neg c2]
        by_cases c3 : k = 4 ∨ k = 5 ∨ k = 6
        · simp only [if_pos c3]; exact ⟨i1, i2, i3⟩
        · simp only [if_neg c3]; exact ⟨fun _ _ => by omega, fun _ _ => by omega, fun _ _ => by omega⟩
      · have e2' : ¬ kd = k := fun h => e2 h.symm
        simp only [ne_eq, not_true, if_false, e2, e2', not_false_iff, if_true]
        have hs := K.swap k kd
        have h0 : cmpI k kd ≠ 0 := fun h => e2 (cmpI_eq0.1 h)
        exact ⟨fun _ h => h, fun h h' => by omega, fun h _ => h⟩
    · have e1' : ¬ kb = k := fun h => e1 h.symm
      by_cases e2 : k = kd
      · subst e2
        simp only [ne_eq, not_true, if_false, e1, e1', not_false_iff, if_true]
        have hs := K.swap k kb
        have h0 : cmpI k kb ≠ 0 := fun h => e1 (cmpI_eq0.1 h)
        exact ⟨fun h h' => by omega, fun h _ => h, fun _ h => h⟩
      · have e2' : ¬ kd = k := fun h => e2 h.symm
        by_cases e3 : kb = kd
        · subst e3
          simp only [ne_eq, not_true, if_false, e1, e1', not_false_iff, if_true]
          have hs := K.swap k kb
          have h0 : cmpI k kb ≠ 0 := fun h => e1 (cmpI_eq0.1 h)
          exact ⟨fun h _ => h, fun _ h => h, fun h h' => by omega⟩
        · have e3' : ¬ kd = kb := fun h => e3 h.symm
          simp only [ne_eq, e1, e1', e2, e2', e3, e3', not_false_iff, if_true]
          exact ⟨hI _ _ _, hI _ _ _, hI _ _ _⟩
  · intro b d
    cases b <;> cases d <;> simp [cmpL]
  · intro a as iha ihas b d
    cases b with
    | nil => cases d <;> simp [cmpL]
    | cons b bs =>
      cases d with
      | nil => simp [cmpL]
      | cons d ds =>
        obtain ⟨p1, p2, p3⟩ := iha b d
        obtain ⟨q1, q2, q3⟩ := ihas bs ds
        have sw := cmpV_swap
        simp only [cmpL]
        refine ⟨fun h1 h2 => cmp_trans3 p1 (lt_le_of sw p1 p2) (le_lt_of sw p1 p3) q1 h1 h2, fun h1 h2 => cmp_trans3 p2 (lt_le_of sw p2 p3) (le_lt_of sw p2 p1) q2 h1 h2, fun h1 h2 => cmp_trans3 p3 (lt_le_of sw p3 p1) (le_lt_of sw p3 p2) q3 h1 h2⟩
theorem good_cmpV : Good cmpV := ⟨cmpV_swap, fun a b d => (cmp_trans_all.1 a b d).1⟩
theorem good_cmpL : Good cmpL := ⟨cmpL_swap, fun a b d => (cmp_trans_all.2 a b d).1⟩


/-! ### What a value's shape is, and which values are right -/
mutual
def sizeV : S24 → Int
  | ⟨_, _, _, l⟩ => 1 + sizeL l
def sizeL : List S24 → Int
  | [] => 0
  | a :: as => sizeV a + sizeL as
end
mutual
def depV : S24 → Int
  | ⟨_, _, _, l⟩ => depL l
def depL : List S24 → Int
  | [] => 0
  | a :: as => max (1 + depV a) (depL as)
end
def keysOf : List S24 → List S24
  | [] => []
  | [a] => [a]
  | a :: _ :: r => a :: keysOf r
def risB : List S24 → Bool
  | a :: b :: r => decide (cmpV a b < 0) && risB (b :: r)
  | _ => true
section
variable (utfB : ByteArray → Bool)
def plainV (v : S24) : Bool :=
  (v.f0 == 3 || v.f2.size == 0) && (v.f0 == 2 || v.f0 == 1 || v.f1 == 0) &&
  (if v.f0 = 1 then v.f1 == 0 || v.f1 == 1 else if v.f0 = 3 then decide (v.f2.size ≤ 256) && utfB v.f2 else decide (0 ≤ v.f0) && decide (v.f0 ≤ 6))
def formV (v : S24) : Bool :=
  if v.f0 = 4 then true else if v.f0 = 6 then v.f3.length % 2 == 0 && risB (keysOf v.f3) else if v.f0 = 5 then risB v.f3 else v.f3.isEmpty
mutual
def okV : S24 → Bool
  | ⟨k, n, t, l⟩ => plainV utfB ⟨k, n, t, l⟩ && formV ⟨k, n, t, l⟩ && okL l
def okL : List S24 → Bool
  | [] => true
  | a :: as => okV a && okL as
end
mutual
/-- as value.count goes -/
def cntV : S24 → Int → Int → Int
  | ⟨k, n, t, l⟩, deep, most =>
    if most < 1 ∨ (l.length : Int) ≥ most ∨ (0 < l.length ∧ deep = 0) ∨ plainV utfB ⟨k, n, t, l⟩ = false then 0
    else if cntL l (deep - 1) most 1 = 0 then 0 else if formV ⟨k, n, t, l⟩ = false then 0 else cntL l (deep - 1) most 1
def cntL : List S24 → Int → Int → Int → Int
  | [], _, _, acc => acc
  | x :: xs, d, most, acc => if cntV x d (most - acc) = 0 then 0 else cntL xs d most (acc + cntV x d (most - acc))
end
end
mutual
theorem sizeV_pos : ∀ v, 1 ≤ sizeV v
  | ⟨_, _, _, l⟩ => by rw [sizeV]; have := sizeL_len l; omega
theorem sizeL_len : ∀ l, (l.length : Int) ≤ sizeL l
  | [] => by simp [sizeL]
  | a :: as => by rw [sizeL, List.length_cons]; have := sizeV_pos a; have := sizeL_len as; omega
end
mutual
theorem depV_nn : ∀ v, 0 ≤ depV v
  | ⟨_, _, _, l⟩ => by rw [depV]; exact depL_nn l
theorem depL_nn : ∀ l, 0 ≤ depL l
  | [] => by simp [depL]
  | a :: as => by rw [depL]; have := depL_nn as; omega
end
theorem depL_pos {l : List S24} (h : 0 < l.length) : 1 ≤ depL l := by
  cases l with
  | nil => simp at h
  | cons a as => rw [depL]; have := depV_nn a; omega
mutual
theorem cntV_eq (u : ByteArray → Bool) : ∀ v deep most, 0 ≤ deep → cntV u v deep most = if okV u v = true ∧ sizeV v ≤ most ∧ depV v ≤ deep then sizeV v else 0
  | ⟨k, n, t, l⟩, deep, most, hd => by
    have hs := sizeL_len l
    have hnn := depL_nn l
    rw [cntV, okV, sizeV, depV]
    by_cases c1 : most < 1 ∨ (l.length : Int) ≥ most
    · rw [if_pos (by rcases c1 with c | c <;> simp [c]), if_neg (by rintro ⟨_, h, _⟩; omega)]
    by_cases c2 : 0 < l.length ∧ deep = 0
    · rw [if_pos (.inr (.inr (.inl c2))), if_neg (by rintro ⟨_, _, h⟩; have := depL_pos c2.1; omega)]
    by_cases c3 : plainV u ⟨k, n, t, l⟩ = false
    · rw [if_pos (.inr (.inr (.inr c3))), if_neg (by simp [c3])]
    rw [if_neg (by simp only [not_or] at c1 ⊢; exact ⟨c1.1, c1.2, c2, c3⟩)]
    by_cases hl : l = []
    · subst hl
      have e : cntL u [] (deep - 1) most 1 = 1 := by rw [cntL]
      rw [e]
      simp only [sizeL, depL, okL]
      by_cases c4 : formV ⟨k, n, t, []⟩ = false
      · simp [c4]
      · simp only [Bool.not_eq_false] at c3 c4; simp [c3, c4]; omega
    have hpos : 0 < l.length := by cases l <;> simp_all
    have hC := cntL_eq u l (deep - 1) most 1 (by omega) (by omega) (by omega)
    simp only [Bool.not_eq_false] at c3
    by_cases c4 : formV ⟨k, n, t, l⟩ = false
    · rw [if_neg (c := _ ∧ _) (by simp [c4])]; simp [c4]
    · simp only [Bool.not_eq_false] at c4
      simp only [c3, c4, Bool.true_and, Bool.true_eq_false, if_false]
      by_cases c5 : okL u l = true ∧ 1 + sizeL l ≤ most ∧ depL l ≤ deep
      · rw [if_pos ⟨c5.1, c5.2.1, by omega⟩] at hC; rw [hC, if_pos c5, if_neg (by omega)]
      · rw [if_neg (by rintro ⟨a, b, c⟩; exact c5 ⟨a, b, by omega⟩)] at hC; rw [hC, if_neg c5]; simp
theorem cntL_eq (u : ByteArray → Bool) : ∀ l d most acc, 0 ≤ d → 1 ≤ acc → acc ≤ most → cntL u l d most acc = if okL u l = true ∧ acc + sizeL l ≤ most ∧ depL l ≤ d + 1 then acc + sizeL l else 0
  | [], d, most, acc, hd, ha, hm => by rw [cntL]; simp [okL, sizeL, depL]; omega
  | x :: xs, d, most, acc, hd, ha, hm => by
    rw [cntL, cntV_eq u x d (most - acc) hd, okL, sizeL, depL]
    have hx := sizeV_pos x
    have hs := sizeL_len xs
    by_cases c : okV u x = true ∧ sizeV x ≤ most - acc ∧ depV x ≤ d
    · rw [if_pos c]
      rw [if_neg (by omega), cntL_eq u xs d most (acc + sizeV x) hd (by omega) (by omega)]
      simp only [c.1, Bool.true_and]
      by_cases c5 : okL u xs = true ∧ acc + sizeV x + sizeL xs ≤ most ∧ depL xs ≤ d + 1
      · rw [if_pos c5, if_pos ⟨c5.1, by omega, by omega⟩]; omega
      · rw [if_neg c5, if_neg (by rintro ⟨a, b, e⟩; exact c5 ⟨a, by omega, by omega⟩)]
    · rw [if_neg c, if_pos rfl, if_neg]
      rintro ⟨a, b, e⟩
      rw [Bool.and_eq_true] at a
      exact c ⟨a.1, by omega, by omega⟩
end
def rightV (u : ByteArray → Bool) (v : S24) : Bool := okV u v && decide (sizeV v ≤ 1024) && decide (depV v ≤ 16)
theorem rightV_cnt (u : ByteArray → Bool) (v : S24) : (0 < cntV u v 16 1024) ↔ rightV u v = true := by
  rw [cntV_eq u v 16 1024 (by omega)]
  have := sizeV_pos v
  unfold rightV
  by_cases c : okV u v = true ∧ sizeV v ≤ 1024 ∧ depV v ≤ 16
  · rw [if_pos c]; simp [c]; omega
  · rw [if_neg c]; simp only [Bool.and_eq_true, decide_eq_true_eq, Int.lt_irrefl, false_iff]; rintro ⟨⟨a, b⟩, e⟩; exact c ⟨a, b, e⟩

theorem barr_ext {a b : ByteArray} (h : a.data.toList = b.data.toList) : a = b := by
  cases a; cases b; simp only [ByteArray.mk.injEq]; exact Array.toList_inj.1 h
theorem barr_nil {a : ByteArray} (h : a.size = 0) : a = ⟨#[]⟩ := by
  cases a with
  | mk d => simp only [ByteArray.mk.injEq]; exact Array.eq_empty_of_size_eq_zero h
theorem okV_parts {u : ByteArray → Bool} {v : S24} (h : okV u v = true) : plainV u v = true ∧ formV v = true ∧ okL u v.f3 = true := by
  cases v; rw [okV, Bool.and_eq_true, Bool.and_eq_true] at h; exact ⟨h.1.1, h.1.2, h.2⟩
/-- Two right values that compare as equal are one. -/
theorem eq_of_cmp_all (u : ByteArray → Bool) : (∀ a : S24, ∀ b, okV u a = true → okV u b = true → cmpV a b = 0 → a = b) ∧ (∀ a : List S24, ∀ b, okL u a = true → okL u b = true → cmpL a b = 0 → a = b) := by
  have key : ∀ (Q : List S24 → Prop) (P : S24 → Prop), (∀ k n t l, Q l → P ⟨k, n, t, l⟩) → Q [] → (∀ a as, P a → Q as → Q (a :: as)) → (∀ a, P a) ∧ (∀ a, Q a) :=
    fun Q P h1 h2 h3 => ⟨ind2 h1 h2 h3, ind2L h1 h2 h3⟩
  refine key _ _ ?_ ?_ ?_
  · intro k n t l ih b ha hb h
    obtain ⟨kb, nb, tb, lb⟩ := b
    obtain ⟨pa, fa, oa⟩ := okV_parts ha
    obtain ⟨pb, fb, ob⟩ := okV_parts hb
    rw [cmpV] at h
    by_cases e : k = kb
    · subst e
      simp only [ne_eq, not_true, if_false] at h
      simp only [plainV, Bool.and_eq_true, Bool.or_eq_true, beq_iff_eq] at pa pb
      simp only [formV] at fa fb
      obtain ⟨⟨pa1, pa2⟩, pa3⟩ := pa
      obtain ⟨⟨pb1, pb2⟩, pb3⟩ := pb
      have hl : (k = 4 ∨ k = 5 ∨ k = 6) ∨ (l = [] ∧ lb = []) := by
        by_cases c4 : k = 4; · exact .inl (.inl c4)
        by_cases c6 : k = 6; · exact .inl (.inr (.inr c6))
        by_cases c5 : k = 5; · exact .inl (.inr (.inl c5))
        rw [if_neg c4, if_neg c6, if_neg c5] at fa fb
        exact .inr ⟨List.isEmpty_iff.1 fa, List.isEmpty_iff.1 fb⟩
      have hn : n = nb := by
        by_cases c : k = 1 ∨ k = 2
        · rw [if_pos c] at h; exact cmpI_eq0.1 h
        · have : n = 0 := by rcases pa2 with (x | x) | x <;> first | exact x | (exfalso; omega)
          have : nb = 0 := by rcases pb2 with (x | x) | x <;> first | exact x | (exfalso; omega)
          omega
      have ht : t = tb := by
        by_cases c : k = 3
        · rw [if_neg (by omega), if_pos c] at h; exact barr_ext (cmpB_eq0 h)
        · rcases pa1 with x | x; · exact absurd x c
          rcases pb1 with y | y; · exact absurd y c
          rw [barr_nil x, barr_nil y]
      have hl2 : l = lb := by
        rcases hl with hl | ⟨x, y⟩
        · rw [if_neg (by omega), if_neg (by omega), if_pos hl] at h; exact ih lb oa ob h
        · rw [x, y]
      rw [hn, ht, hl2]
    · rw [if_pos e] at h; exact absurd (cmpI_eq0.1 h) e
  · intro b _ _ h
    cases b with
    | nil => rfl
    | cons => simp [cmpL] at h
  · intro a as iha ihas b ha hb h
    cases b with
    | nil => simp [cmpL] at h
    | cons b bs =>
      rw [okL, Bool.and_eq_true] at ha hb
      rw [cmpL] at h
      by_cases c : cmpV a b = 0
      · rw [if_neg (by simp [c])] at h
        rw [iha b ha.1 hb.1 c, ihas bs ha.2 hb.2 h]
      · rw [if_pos c] at h; exact absurd h c
theorem right_ok {u : ByteArray → Bool} {v : S24} (h : rightV u v = true) : okV u v = true := by
  unfold rightV at h; simp only [Bool.and_eq_true] at h; exact h.1.1
theorem eq_of_cmp {u : ByteArray → Bool} {a b : S24} (ha : rightV u a = true) (hb : rightV u b = true) (h : cmpV a b = 0) : a = b := (eq_of_cmp_all u).1 a b (right_ok ha) (right_ok hb) h
end Sp
