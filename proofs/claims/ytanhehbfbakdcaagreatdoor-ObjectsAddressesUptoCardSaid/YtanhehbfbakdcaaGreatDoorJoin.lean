/- Ways that meet again; structs held against one another; maps. Own work; nothing about a program stands here. -/
import Derived.Test.YtanhehbfbakdcaaGreatDoorRow
import Derived.Test.YtanhehbfbakdcaaGreatDoorIter
import Derived.Maps.RangeRun
import Derived.Laws.StructEq
import Derived.LaidEqlPtr
set_option linter.unusedVariables false
set_option linter.unusedSimpArgs false
namespace Go.Proofs.YtanhehbfbakdcaaGreatDoor
namespace Sl
open Go Go.RowKit

/-! ### 1. Frames cut back -/
class Suf (F G : List (Nat × Value)) (X : outParam (List Nat)) : Prop where
  h : ∀ i, i ∉ X → lk G i = lk F i
instance (priority := high) Suf.refl {F : List (Nat × Value)} : Suf F F [] := ⟨fun _ _ => rfl⟩
instance (priority := low) Suf.cons {F G : List (Nat × Value)} {X : List Nat} {i : Nat} {v : Value} [h : Suf F G X] : Suf F ((i, v) :: G) (i :: X) := ⟨fun j hj => by
  have hne : j ≠ i := fun e => hj (by simp [e])
  have : Nat.beq i j = false := by
    cases hh : Nat.beq i j
    · rfl
    · exact absurd (Nat.eq_of_beq_eq_true hh).symm hne
  rw [lk, this]
  exact h.h j (fun hx => hj (by simp [hx]))⟩
def hasK (F : List (Nat × Value)) (i : Nat) : Bool := F.any fun p => Nat.beq p.1 i
theorem lk_hasK {F : List (Nat × Value)} {i : Nat} {v : Value} (h : lk F i = some v) : hasK F i = true := by
  induction F with
  | nil => cases h
  | cons p F ih =>
    obtain ⟨j, u⟩ := p
    simp only [lk, cond_eq_ite] at h
    simp only [hasK, List.any_cons, Bool.or_eq_true]
    split at h
    · rename_i hb; exact .inl hb
    · exact .inr (ih h)
theorem Fr.suf {n : Nat} {a : Act} {F G : List (Nat × Value)} {X : List Nat} {D : List Deferred} [s : Suf F G X] (A : Fr n a G D) (h : X.all (fun i => !hasK F i) = true) : Fr n a F D :=
  A.weaken fun i v hv => by
    rw [s.h i fun hx => ?_]
    · exact hv
    · have h1 := List.all_eq_true.1 h i hx
      rw [lk_hasK hv] at h1; cases h1
theorem Fr.with1 {n d : Nat} {a : Act} {F G : List (Nat × Value)} {D : List Deferred} {u v : Value} (B : Fr n a F D) (A : Fr n a G D) (h : lk G d = some u) (e : u = v) : Fr n a ((d, v) :: F) D := by
  subst e
  refine ⟨B.size, B.defers, fun i x hx => ?_⟩
  simp only [lk, cond_eq_ite] at hx
  split at hx
  · rename_i hb
    have : d = i := Nat.eq_of_beq_eq_true hb
    subst this; cases hx; exact A.at_ _ _ h
  · exact B.at_ i x hx

/-! ### 2. Ways that meet -/
section
variable {P : Program} {n : Nat} {a : Act} {F : List (Nat × Value)} {D : List Deferred} {w0 w : World} {m : Mem} {L : List Res} {ops : Array Oper} {Q : Exit → Act → World → Prop} {l : List Oper}
theorem join (k : Nat) (N : List (Nat × Value) → List (Nat × Value)) (L' : List Res) (_A : Fr n a F D) (_H : St w0 w m L)
    (h1 : (∀ a w m', Le m m' → Fr n a (N F) D → St w0 w m' L' → wpList P ops Q (l.drop k) a w) → wpList P ops Q l a w)
    (h2 : ∀ a w m', Le m m' → Fr n a (N F) D → St w0 w m' L' → wpList P ops Q (l.drop k) a w) : wpList P ops Q l a w := h1 h2
theorem joinSame (k : Nat) (N : List (Nat × Value) → List (Nat × Value)) (_A : Fr n a F D) (_H : St w0 w m L)
    (h1 : (∀ a w m', Le m m' → Fr n a (N F) D → St w0 w m' L → wpList P ops Q (l.drop k) a w) → wpList P ops Q l a w)
    (h2 : ∀ a w m', Le m m' → Fr n a (N F) D → St w0 w m' L → wpList P ops Q (l.drop k) a w) : wpList P ops Q l a w := h1 h2
theorem joinC {c : Code} (N : List (Nat × Value) → List (Nat × Value)) (L' : List Res) (_A : Fr n a F D) (_H : St w0 w m L)
    (h1 : (∀ a w m', Le m m' → Fr n a (N F) D → St w0 w m' L' → Q .normal a w) → c.wp P Q a w)
    (h2 : ∀ a w m', Le m m' → Fr n a (N F) D → St w0 w m' L' → Q .normal a w) : c.wp P Q a w := h1 h2
theorem joinCSame {c : Code} (N : List (Nat × Value) → List (Nat × Value)) (_A : Fr n a F D) (_H : St w0 w m L)
    (h1 : (∀ a w m', Le m m' → Fr n a (N F) D → St w0 w m' L → Q .normal a w) → c.wp P Q a w)
    (h2 : ∀ a w m', Le m m' → Fr n a (N F) D → St w0 w m' L → Q .normal a w) : c.wp P Q a w := h1 h2
end

/-! ### 3. Flat structs -/
inductive K1 | i (k : IntKind) | s | b
  deriving DecidableEq
def okF (P : Program) (f : Field) (k : K1) (o : Nat) : Bool := Nat.beq f.offset o && !(f.name == "_") && (match P.underlying f.type, k with
  | some (.int k'), .i k => decide (k = k')
  | some .string, .s => true
  | some .bool, .b => true
  | _, _ => false)
def flatF (P : Program) : List Field → List K1 → Nat → Bool
  | [], [], _ => true
  | f :: fs, k :: ks, o => okF P f k o && flatF P fs ks (o + 1)
  | _, _, _ => false
class FlatC (P : Program) (t : Nat) (ks : outParam (List K1)) : Prop where
  u : P.underlying t = some (.struct (P.fieldsOf t))
  p : P.stoodInHeld t = false
  g : P.eqGuardType P.depth t = false
  f : flatF P (P.fieldsOf t).toList ks 0 = true
def fitK : K1 → Value → Bool
  | .i k, .int k' _ => decide (k = k')
  | .s, .string _ => true
  | .b, .bool _ => true
  | _, _ => false
def fitsK : List K1 → List Value → Bool
  | [], [] => true
  | k :: ks, v :: vs => fitK k v && fitsK ks vs
  | _, _ => false
def eqV : Value → Value → Bool
  | .int _ p, .int _ q => decide (p = q)
  | .string s, .string r => decide (s = r)
  | .bool b, .bool c => decide (b = c)
  | _, _ => false
def eqL : List Value → List Value → Bool
  | x :: xs, y :: ys => eqV x y && eqL xs ys
  | _, _ => true
section
variable {P : Program} {n : Nat} {a : Act} {F : List (Nat × Value)} {D : List Deferred} {w0 w : World} {m : Mem} {L L' : List Res} {ops : Array Oper} {Q : Exit → Act → World → Prop} {rest : List Oper}
variable {d t t' : Nat} {pos : String} {after : Array Edge} {x y : Operand}
theorem part_one {k : K1} {o : Nat} {f : Field} {xs : Array Value} {v : Value} (h : okF P f k o = true) (hv : xs[o]? = some v) : (part f.type xs f.offset).run P w = .ok v w := by
  simp only [okF, Bool.and_eq_true] at h
  obtain ⟨⟨h1, _⟩, h3⟩ := h
  have ho := Nat.eq_of_beq_eq_true h1
  have : (isAgg f.type).run P w = .ok false w := by
    unfold isAgg
    rw [Sem.run_bind]
    split at h3 <;> first | (rename_i hu; rw [run_underlying hu w]; rfl) | cases h3
  simp [part, Sem.run_bind, this, ho, hv]
theorem eq_one {k : K1} {o dd : Nat} {f : Field} {u v : Value} (h : okF P f k o = true) (hu : fitK k u = true) (hv : fitK k v = true) : (Op.equalIn (dd + 1) f.type u v).run P w = .ok (eqV u v) w := by
  simp only [okF, Bool.and_eq_true] at h
  obtain ⟨_, h3⟩ := h
  split at h3
  · rename_i k1 k2 hd
    have hk : k2 = k1 := of_decide_eq_true h3
    subst hk
    cases u <;> simp [fitK] at hu
    cases v <;> simp [fitK] at hv
    subst hu; subst hv
    rw [run_equalIn_int _ _ _ _ _ _ _ hd, eqV, Bool.beq_eq_decide_eq]
  · rename_i hd
    cases u <;> simp [fitK] at hu
    cases v <;> simp [fitK] at hv
    rw [run_equalIn_string _ _ _ _ _ hd, eqV, toList_inj]
  · rename_i hd
    cases u <;> simp [fitK] at hu
    cases v <;> simp [fitK] at hv
    rw [run_equalIn_bool _ _ _ _ _ hd, eqV, Bool.beq_eq_decide_eq]
  · cases h3
theorem eq_flat {dd : Nat} : ∀ (fs : List Field) (ks : List K1) (o : Nat) (xs ys us vs : List Value), flatF P fs ks o = true → fitsK ks us = true → fitsK ks vs = true → xs.drop o = us → ys.drop o = vs →
    (Op.eqFields (dd + 1) xs.toArray ys.toArray fs).run P w = .ok (eqL us vs) w
  | [], [], _, _, _, us, vs, _, hu, hv, _, _ => by
    cases us <;> simp [fitsK] at hu
    rfl
  | [], _ :: _, _, _, _, _, _, h, _, _, _, _ => by cases h
  | _ :: _, [], _, _, _, _, _, h, _, _, _, _ => by cases h
  | f :: fs, k :: ks, o, xs, ys, [], vs, h, hu, _, _, _ => by cases hu
  | f :: fs, k :: ks, o, xs, ys, u :: us, [], h, _, hv, _, _ => by cases hv
  | f :: fs, k :: ks, o, xs, ys, u :: us, v :: vs, h, hu, hv, ex, ey => by
    simp only [flatF, Bool.and_eq_true] at h
    simp only [fitsK, Bool.and_eq_true] at hu hv
    have hx : xs[o]? = some u := by have := List.getElem?_drop (xs := xs) (i := o) (j := 0); rw [ex] at this; simpa using this.symm
    have hy : ys[o]? = some v := by have := List.getElem?_drop (xs := ys) (i := o) (j := 0); rw [ey] at this; simpa using this.symm
    have ex' : xs.drop (o + 1) = us := by rw [← List.tail_drop, ex]; rfl
    have ey' : ys.drop (o + 1) = vs := by rw [← List.tail_drop, ey]; rfl
    have hn : f.name ≠ "_" := by
      have := h.1
      simp only [okF, Bool.and_eq_true, Bool.not_eq_true', beq_eq_false_iff_ne] at this
      exact this.1.2
    simp only [Op.eqFields, hn, ne_eq, not_false_iff, if_true, Sem.run_bind, part_one (w := w) h.1 (show xs.toArray[o]? = some u by simpa using hx), part_one (w := w) h.1 (show ys.toArray[o]? = some v by simpa using hy), Result.andThen_ok, eq_one (dd := dd) (w := w) h.1 hu.1 hv.1]
    cases hb : eqV u v
    · simp [eqL, hb]
    · simp only [Bool.not_true, Bool.false_eq_true, if_false, eqL, hb, Bool.true_and]
      exact eq_flat fs ks (o + 1) xs ys us vs h.2 hu.2 hv.2 ex' ey'
theorem equal_flat {ks : List K1} {xs ys : List Value} [h : FlatC P t ks] (hx : fitsK ks xs = true) (hy : fitsK ks ys = true) : (Op.equalIn 10000 t (.agg xs.toArray) (.agg ys.toArray)).run P w = .ok (eqL xs ys) w := by
  rw [run_equalIn_struct w 9999 t _ _ h.u h.p]
  exact eq_flat (dd := 9998) _ ks 0 xs ys xs ys h.f hx hy rfl rfl
theorem Runs.aeql {ks : List K1} {xs ys : List Value} (A : Fr n a F D) (hx : ev F x = some (.agg xs.toArray)) (hy : ev F y = some (.agg ys.toArray)) [h : FlatC P t ks] (h1 : fitsK ks xs = true) (h2 : fitsK ks ys = true) : Runs P a w (.binOp .eql t x y t') (.bool (eqL xs ys)) := by
  intro _ _ _ _ _
  have e := equal_flat (P := P) (t := t) (w := w) h1 h2
  have g := run_eqGuard_agg (P := P) w .eql t x y xs.toArray ys.toArray h.g
  simp only [execOp, A.ev hx, A.ev hy, Sem.run_bind, g, Result.andThen_ok, run_eql_struct, e, Sem.run_pure]
theorem Runs.aneq {ks : List K1} {xs ys : List Value} (A : Fr n a F D) (hx : ev F x = some (.agg xs.toArray)) (hy : ev F y = some (.agg ys.toArray)) [h : FlatC P t ks] (h1 : fitsK ks xs = true) (h2 : fitsK ks ys = true) : Runs P a w (.binOp .neq t x y t') (.bool (!eqL xs ys)) := by
  intro _ _ _ _ _
  have e := equal_flat (P := P) (t := t) (w := w) h1 h2
  have g := run_eqGuard_agg (P := P) w .neq t x y xs.toArray ys.toArray h.g
  simp only [execOp, A.ev hx, A.ev hy, Sem.run_bind, g, Result.andThen_ok, run_neq_struct, e, Sem.run_pure]
theorem Runs.negW {p : Int} (A : Fr n a F D) (hx : ev F x = some (.int .i64 p)) : Runs P a w (.unOp .neg t x) (.int .i64 (IntKind.i64.wrap (-p))) := by
  intro _ _ _ _ _
  simp [execOp, A.ev hx, Op.unary, Op.intArith]
theorem Runs.max2 {k : IntKind} {p q : Int} {tys : Array TypeId} (A : Fr n a F D) (hx : ev F x = some (.int k p)) (hy : ev F y = some (.int k q)) : Runs P a w (.call { callee := .builtin .max, args := #[x, y], argTypes := tys }) (.int k (if q > p then q else p)) := by
  intro _ _ _ _ _
  simp [execOp, resolve, invoke, builtin, A.ev hx, A.ev hy, Builtin.max_, Builtin.max2]
/-- pointers of a struct's type held against one another -/
class PtrC (P : Program) (t : Nat) : Prop where
  h : ∃ te, P.underlying t = some (.pointer te) ∧ (P.info? te).isSome = true
theorem Runs.peqlNil {ad : Addr} (A : Fr n a F D) (hx : ev F x = some (.pointer (some ad))) (hy : ev F y = some (.pointer none)) [h : PtrC P t] : Runs P a w (.binOp .eql t x y t') (.bool false) := by
  intro _ _ _ _ _
  obtain ⟨te, h1, _⟩ := h.h
  have e : (Op.equal t (.pointer (some ad)) (.pointer none)).run P w = .ok false w := by
    unfold Op.equal
    rw [show Op.maxDepth = 9999 + 1 from rfl]
    generalize 9999 = dd
    simp only [Op.equalIn, Sem.run_bind, run_underlying h1, Result.andThen_ok, Sem.run_pure]
  simp only [execOp, A.ev hx, A.ev hy, eqGuard, Bool.not_true, Bool.false_eq_true, if_false, Sem.run_bind, Sem.run_pure, Result.andThen_ok, binOp, e]
theorem Runs.peqlNN (A : Fr n a F D) (hx : ev F x = some (.pointer none)) (hy : ev F y = some (.pointer none)) [h : PtrC P t] : Runs P a w (.binOp .eql t x y t') (.bool true) := by
  intro _ _ _ _ _
  obtain ⟨te, h1, _⟩ := h.h
  have e : (Op.equal t (.pointer none) (.pointer none)).run P w = .ok true w := by
    unfold Op.equal
    rw [show Op.maxDepth = 9999 + 1 from rfl]
    generalize 9999 = dd
    simp [Op.equalIn, Sem.run_bind, run_underlying h1]
  simp only [execOp, A.ev hx, A.ev hy, eqGuard, Bool.not_true, Bool.false_eq_true, if_false, Sem.run_bind, Sem.run_pure, Result.andThen_ok, binOp, e]
theorem Runs.pneqSame {ad : Addr} (A : Fr n a F D) (hx : ev F x = some (.pointer (some ad))) (hy : ev F y = some (.pointer (some ad))) [h : PtrC P t] : Runs P a w (.binOp .neq t x y t') (.bool false) := by
  intro _ _ _ _ _
  obtain ⟨te, h1, h2⟩ := h.h
  obtain ⟨j, h2⟩ := Option.isSome_iff_exists.1 h2
  have e : (Op.equal t (.pointer (some ad)) (.pointer (some ad))).run P w = .ok true w := by
    unfold Op.equal
    rw [show Op.maxDepth = 9999 + 1 from rfl]
    generalize 9999 = dd
    simp [Op.equalIn, run_underlying h1, sizeOf, typeInfo, h2, run_sameAddr_same]
  simp only [execOp, A.ev hx, A.ev hy, eqGuard, Sem.run_bind, Sem.run_pure, Result.andThen_ok, binOp, e, Bool.not_true, Bool.false_eq_true, if_false]
end
end Sl
end Go.Proofs.YtanhehbfbakdcaaGreatDoor
