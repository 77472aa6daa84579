/- Rules for the operations of the machine, in the words of the separation logic. Own work; nothing about a program stands here. -/
import Derived.Test.YtanhehbfbakdcaaGreatDoorSl
import Derived.Lib.Strings
namespace Go.Proofs.YtanhehbfbakdcaaGreatDoor
namespace Sl
open Go Go.RowKit

/-! ### 1. What a type is -/
def aggD : TypeDesc → Bool
  | .struct _ | .array _ _ => true
  | _ => false
structure Ty (P : Program) (t : TypeId) (agg : Bool) (size bytes : Nat) (zs : List Value) : Prop where
  ag : (P.underlying t).map aggD = some agg
  inf : (P.info? t).map (fun i => (i.size, i.bytes, i.zero.map (·.cells.toList))) = some (size, bytes, some zs)
theorem Ty.und {P : Program} {t : TypeId} {agg : Bool} {size bytes : Nat} {zs : List Value} (T : Ty P t agg size bytes zs) : ∃ d, P.underlying t = some d ∧ aggD d = agg := by
  have := T.ag
  cases h : P.underlying t with
  | none => simp [h] at this
  | some d => exact ⟨d, rfl, by simpa [h] using this⟩
theorem Ty.info {P : Program} {t : TypeId} {agg : Bool} {size bytes : Nat} {zs : List Value} (T : Ty P t agg size bytes zs) : ∃ i z, P.info? t = some i ∧ i.size = size ∧ i.bytes = bytes ∧ i.zero = some z ∧ z.cells.toList = zs := by
  have := T.inf
  cases h : P.info? t with
  | none => simp [h] at this
  | some i =>
    simp [h] at this
    obtain ⟨h1, h2, z, h3, h4⟩ := this
    exact ⟨i, z, rfl, h1, h2, h3, h4⟩
theorem Ty.runAgg {P : Program} {t : TypeId} {agg : Bool} {size bytes : Nat} {zs : List Value} (T : Ty P t agg size bytes zs) (w : World) : (isAgg t).run P w = .ok agg w := by
  obtain ⟨d, h1, h2⟩ := T.und
  unfold isAgg
  rw [Sem.run_bind, run_underlying h1 w]
  cases d <;> simp_all [aggD]
theorem Ty.runSize {P : Program} {t : TypeId} {agg : Bool} {size bytes : Nat} {zs : List Value} (T : Ty P t agg size bytes zs) (w : World) : (sizeOf t).run P w = .ok size w := by
  obtain ⟨i, z, h1, h2, _⟩ := T.info
  simp [sizeOf, typeInfo, Sem.run_bind, h1, h2]
theorem Ty.runZero {P : Program} {t : TypeId} {agg : Bool} {size bytes : Nat} {zs : List Value} (T : Ty P t agg size bytes zs) (w : World) : ∃ z, (zeroValue t).run P w = .ok z w ∧ z.cells.toList = zs := by
  obtain ⟨i, z, h1, _, _, h3, h4⟩ := T.info
  exact ⟨z, by simp [zeroValue, typeInfo, Sem.run_bind, h1, h3], h4⟩

/-! ### 2. Pieces of cells -/
def consO (c : Value) : Option (List Value) → Option (List Value)
  | some r => some (c :: r)
  | none => none
theorem consO_some {c : Value} {o : Option (List Value)} {vs : List Value} (h : consO c o = some vs) : ∃ r, o = some r ∧ vs = c :: r := by
  cases o with
  | none => cases h
  | some r => exact ⟨r, rfl, (Option.some.inj h).symm⟩
def getN : List Value → Nat → Nat → Option (List Value)
  | _, 0, 0 => some []
  | c :: cs, 0, k + 1 => consO c (getN cs 0 k)
  | _ :: cs, o + 1, k => getN cs o k
  | [], _, _ => none
def setN : List Value → Nat → List Value → Option (List Value)
  | cs, 0, [] => some cs
  | _ :: cs, 0, v :: vs => consO v (setN cs 0 vs)
  | c :: cs, o + 1, vs => consO c (setN cs o vs)
  | [], _, _ => none
theorem getN_some : ∀ {cs : List Value} {o k : Nat} {vs : List Value}, getN cs o k = some vs → o + k ≤ cs.length ∧ vs = (cs.drop o).take k
  | cs, 0, 0, vs, h => by
    have : vs = [] := by cases cs <;> simpa [getN] using h.symm
    simp [this]
  | c :: cs, 0, k + 1, vs, h => by
    obtain ⟨us, hu, rfl⟩ := consO_some h
    obtain ⟨h1, h2⟩ := getN_some hu
    refine ⟨by simp; omega, ?_⟩
    simp at h2
    simp [h2]
  | c :: cs, o + 1, k, vs, h => by
    have h' : getN cs o k = some vs := by simpa [getN] using h
    obtain ⟨h1, h2⟩ := getN_some h'
    exact ⟨by simp; omega, by simpa using h2⟩
  | [], 0, k + 1, vs, h => by simp [getN] at h
  | [], o + 1, k, vs, h => by simp [getN] at h
theorem setN_some : ∀ {cs : List Value} {o : Nat} {vs us : List Value}, setN cs o vs = some us → o + vs.length ≤ cs.length ∧ us = cs.take o ++ vs ++ cs.drop (o + vs.length)
  | cs, 0, [], us, h => by
    have : us = cs := by cases cs <;> simpa [setN] using h.symm
    simp [this]
  | c :: cs, 0, v :: vs, us, h => by
    obtain ⟨ts, ht, rfl⟩ := consO_some h
    obtain ⟨h1, h2⟩ := setN_some ht
    refine ⟨by simp at *; omega, ?_⟩
    simp at h2
    simp [h2]
  | c :: cs, o + 1, vs, us, h => by
    have h' : consO c (setN cs o vs) = some us := by cases vs <;> simpa [setN] using h
    obtain ⟨ts, ht, rfl⟩ := consO_some h'
    obtain ⟨h1, h2⟩ := setN_some ht
    refine ⟨by simp; omega, ?_⟩
    rw [h2]
    simp [Nat.add_right_comm]
  | [], 0, v :: vs, us, h => by simp [setN] at h
  | [], o + 1, vs, us, h => by simp [setN] at h

/-- The cells of block 'b', owned or frozen. -/
def Blk (m : Mem) (L : List Res) (b : Nat) (cs : List Value) : Prop := (∃ t L', Take L (pt b cs t) L') ∨ fz m b cs
theorem Blk.own {m : Mem} {L L' : List Res} {b t : Nat} {cs : List Value} (T : Take L (pt b cs t) L') : Blk m L b cs := .inl ⟨t, L', T⟩
theorem Blk.fz {m : Mem} {L : List Res} {b : Nat} {cs : List Value} (h : fz m b cs) : Blk m L b cs := .inr h
theorem St.blk {w0 w : World} {m : Mem} {L : List Res} {b : Nat} {cs : List Value} (H : St w0 w m L) (h : Blk m L b cs) : ∃ t fr, w.heap[b]? = some (.cells cs.toArray t fr) := by
  rcases h with ⟨t, L', T⟩ | h
  · exact ⟨t, _, (H.take T).block⟩
  · exact H.fzblock h
theorem St.cell {w0 w : World} {m : Mem} {L : List Res} {b : Nat} {cs : List Value} (H : St w0 w m L) (h : Blk m L b cs) (off : Nat) : w.cell? ⟨b, off, none⟩ = cs[off]? := by
  obtain ⟨t, fr, hb⟩ := H.blk h
  rw [cell_of_row w b off cs.toArray t fr hb]
  simp
theorem addr_add (b off j : Nat) : (⟨b, off, none⟩ : Addr).add j = ⟨b, off + j, none⟩ := by
  unfold Addr.add
  split <;> simp_all

/-! ### 3. Operations that leave the world as it is -/
def Runs (P : Program) (a : Act) (w : World) (op : Op) (v : Value) : Prop := ∀ dst t pos after guard, (execOp a.eval ⟨dst, op, t, pos, after, guard⟩).run P w = .ok (.value v) w

section
variable {P : Program} {n : Nat} {a : Act} {F : List (Nat × Value)} {D : List Deferred} {w0 w : World} {m : Mem} {L L' : List Res} {x y z : Operand} {b off : Nat} {cs : List Value}

theorem Runs.move {v : Value} (A : Fr n a F D) (hx : ev F x = some v) : Runs P a w (.move x) v := by
  intro _ _ _ _ _
  simp [execOp, A.ev hx]
theorem Runs.assign {v : Value} (A : Fr n a F D) (hx : ev F x = some v) : Runs P a w (.assign x) v := by
  intro _ _ _ _ _
  simp [execOp, A.ev hx]
theorem Runs.pick {c : Bool} {v u : Value} (A : Fr n a F D) (hx : ev F x = some (.bool c)) (hy : ev F y = some v) (hz : ev F z = some u) : Runs P a w (.pick x y z) (if c then v else u) := by
  intro _ _ _ _ _
  simp [execOp, A.ev hx, A.ev hy, A.ev hz, asBool]
theorem Runs.nilCheck {ad : Addr} (A : Fr n a F D) (hx : ev F x = some (.pointer (some ad))) : Runs P a w (.nilCheck x) (.pointer (some ad)) := by
  intro _ _ _ _ _
  simp [execOp, A.ev hx]
theorem Runs.load1 {ty bytes : Nat} {zs : List Value} {v : Value} (A : Fr n a F D) (H : St w0 w m L) (hx : ev F x = some (.pointer (some ⟨b, off, none⟩))) (T : Ty P ty false 1 bytes zs) (hb : Blk m L b cs) (hv : cs[off]? = some v) : Runs P a w (.load ty x) v := by
  intro _ _ _ _ _
  have hc : w.cell? ⟨b, off, none⟩ = some v := (H.cell hb off).trans hv
  simp [execOp, A.ev hx, Instr.loadAt, Instr.sureAddr, loadVar, Sem.run_bind, T.runAgg, load, Sem.run, hc]
theorem Runs.loadN {ty k bytes : Nat} {zs vs : List Value} (A : Fr n a F D) (H : St w0 w m L) (hx : ev F x = some (.pointer (some ⟨b, off, none⟩))) (T : Ty P ty true k bytes zs) (hb : Blk m L b cs) (hv : getN cs off k = some vs) : Runs P a w (.load ty x) (.agg vs.toArray) := by
  intro _ _ _ _ _
  obtain ⟨h1, h2⟩ := getN_some hv
  have hl : vs.length = k := by rw [h2]; simp; omega
  have hc : (loadCells ⟨b, off, none⟩ vs.length).run P w = .ok vs.toArray w := run_loadCells_list w ⟨b, off, none⟩ vs fun j v hj => by
    rw [addr_add, H.cell hb]
    rw [h2] at hj
    have hlt : j < k := by
      have := (List.getElem?_eq_some_iff.1 hj).1
      simp at this; omega
    rw [List.getElem?_take_of_lt hlt, List.getElem?_drop] at hj
    exact hj
  rw [hl] at hc
  simp [execOp, A.ev hx, Instr.loadAt, Instr.sureAddr, loadVar, Sem.run_bind, T.runAgg, T.runSize, hc]

/-- Where field number 'i' of the struct type 't' begins. -/
def fldOff (P : Program) (t i : Nat) : Option Nat :=
  match P.underlying t with
  | some (.struct fs) => (fs[i]?).bind fun f => (P.info? f.type).bind fun q => if q.size = 0 then none else some f.offset
  | _ => none
theorem fldOff_spec {t i o : Nat} (h : fldOff P t i = some o) : ∃ fs f q, P.underlying t = some (.struct fs) ∧ fs[i]? = some f ∧ P.info? f.type = some q ∧ q.size ≠ 0 ∧ f.offset = o := by
  unfold fldOff at h
  split at h
  · rename_i fs hf
    simp only [Option.bind_eq_some_iff] at h
    obtain ⟨f, hi, q, hq, h⟩ := h
    split at h
    · cases h
    · exact ⟨fs, f, q, hf, hi, hq, by assumption, Option.some.inj h⟩
  · cases h
theorem Runs.fieldAddr {t i o : Nat} (A : Fr n a F D) (hx : ev F x = some (.pointer (some ⟨b, off, none⟩))) (hf : fldOff P t i = some o) : Runs P a w (.fieldAddr t x i) (.pointer (some ⟨b, off + o, none⟩)) := by
  intro _ _ _ _ _
  obtain ⟨fs, f, q, h1, h2, h3, h4, h5⟩ := fldOff_spec hf
  simp [execOp, A.ev hx, Instr.fieldAt, Instr.sureAddr, Sem.run_bind, run_underlying h1, h2, fieldPlace, sizeOf, typeInfo, h3, h4, h5, addr_add]
theorem Runs.field1 {t i o ty bytes : Nat} {zs : List Value} {v : Value} (A : Fr n a F D) (hx : ev F x = some (.agg cs.toArray)) (hf : fldOff P t i = some o) (hty : (P.underlying t).bind (fun d => match d with | .struct fs => (fs[i]?).map (·.type) | _ => none) = some ty) (T : Ty P ty false 1 bytes zs) (hv : cs[o]? = some v) :
    Runs P a w (.field t x i) v := by
  intro _ _ _ _ _
  obtain ⟨fs, f, q, h1, h2, h3, h4, h5⟩ := fldOff_spec hf
  have : f.type = ty := by simpa [h1, h2] using hty
  subst this
  subst h5
  simp [execOp, A.ev hx, Instr.field, asAgg, part, Sem.run_bind, run_underlying h1, h2, T.runAgg, hv]
/-- The element type of a slice type, and its cells. -/
def slEl (P : Program) (t : Nat) : Option (Nat × Nat) :=
  match P.underlying t with
  | some (.slice e) => (P.info? e).map fun q => (e, q.size)
  | _ => none
theorem slEl_spec {t e k : Nat} (h : slEl P t = some (e, k)) : ∃ q, P.underlying t = some (.slice e) ∧ P.info? e = some q ∧ q.size = k := by
  unfold slEl at h
  split at h
  · rename_i e' he
    simp only [Option.map_eq_some_iff, Prod.mk.injEq] at h
    obtain ⟨q, hq, rfl, hk⟩ := h
    exact ⟨q, he, hq, hk⟩
  · cases h
theorem Runs.indexAddr {t e k len cap : Nat} {i : Int} {ik : IntKind} (A : Fr n a F D) (hx : ev F x = some (.slice (some ⟨b, off, none⟩) len cap)) (hy : ev F y = some (.int ik i)) (hs : slEl P t = some (e, k)) (h0 : 0 ≤ i) (h1 : i < len) :
    Runs P a w (.indexAddr t x y) (.pointer (some ⟨b, off + i.toNat * k, none⟩)) := by
  intro _ _ _ _ _
  obtain ⟨q, h2, h3, h4⟩ := slEl_spec hs
  have hand : 0 ≤ i ∧ i < len := ⟨h0, h1⟩
  simp [execOp, A.ev hx, A.ev hy, Instr.indexAt, asIntOf, Sem.run_bind, run_underlying h2, sizeOf, typeInfo, h3, h4, hand, addr_add]
theorem Runs.extract {i : Nat} {vs : List Value} {v : Value} (A : Fr n a F D) (hx : ev F x = some (.tuple vs.toArray)) (hv : vs[i]? = some v) : Runs P a w (.extract x i) v := by
  intro _ _ _ _ _
  simp [execOp, A.ev hx, Instr.extract, hv]
theorem Runs.not {t : Nat} {c : Bool} (A : Fr n a F D) (hx : ev F x = some (.bool c)) : Runs P a w (.unOp .not t x) (.bool (!c)) := by
  intro _ _ _ _ _
  simp [execOp, A.ev hx, Op.unary]

theorem wrap_i64 {q : Int} (h0 : -9223372036854775808 ≤ q) (h1 : q ≤ 9223372036854775807) : IntKind.i64.wrap q = q := by
  rw [IntKind.wrap_i64]; omega
section
variable {t t' : Nat} {p q : Int} {k : IntKind}
theorem Runs.add (A : Fr n a F D) (hx : ev F x = some (.int .i64 p)) (hy : ev F y = some (.int .i64 q)) (h : -9223372036854775808 ≤ p + q ∧ p + q ≤ 9223372036854775807) : Runs P a w (.binOp .add t x y t') (.int .i64 (p + q)) := by
  intro _ _ _ _ _
  simp [execOp, A.ev hx, A.ev hy, eqGuard, binOp, Op.intArith, wrap_i64 h.1 h.2]
theorem Runs.sub (A : Fr n a F D) (hx : ev F x = some (.int .i64 p)) (hy : ev F y = some (.int .i64 q)) (h : -9223372036854775808 ≤ p - q ∧ p - q ≤ 9223372036854775807) : Runs P a w (.binOp .sub t x y t') (.int .i64 (p - q)) := by
  intro _ _ _ _ _
  simp [execOp, A.ev hx, A.ev hy, eqGuard, binOp, Op.intArith, wrap_i64 h.1 h.2]
theorem Runs.mul (A : Fr n a F D) (hx : ev F x = some (.int .i64 p)) (hy : ev F y = some (.int .i64 q)) (h : -9223372036854775808 ≤ p * q ∧ p * q ≤ 9223372036854775807) : Runs P a w (.binOp .mul t x y t') (.int .i64 (p * q)) := by
  intro _ _ _ _ _
  simp [execOp, A.ev hx, A.ev hy, eqGuard, binOp, Op.intArith, wrap_i64 h.1 h.2]
theorem Runs.neg (A : Fr n a F D) (hx : ev F x = some (.int .i64 p)) (h : -9223372036854775807 ≤ p ∧ p ≤ 9223372036854775807) : Runs P a w (.unOp .neg t x) (.int .i64 (-p)) := by
  intro _ _ _ _ _
  simp [execOp, A.ev hx, Op.unary, Op.intArith]
  rw [wrap_i64 (by omega) (by omega)]
theorem Runs.addW (A : Fr n a F D) (hx : ev F x = some (.int k p)) (hy : ev F y = some (.int k q)) : Runs P a w (.binOp .add t x y t') (.int k (k.wrap (p + q))) := by
  intro _ _ _ _ _
  simp [execOp, A.ev hx, A.ev hy, eqGuard, binOp, Op.intArith]
theorem Runs.subW (A : Fr n a F D) (hx : ev F x = some (.int k p)) (hy : ev F y = some (.int k q)) : Runs P a w (.binOp .sub t x y t') (.int k (k.wrap (p - q))) := by
  intro _ _ _ _ _
  simp [execOp, A.ev hx, A.ev hy, eqGuard, binOp, Op.intArith]
theorem Runs.mulW (A : Fr n a F D) (hx : ev F x = some (.int k p)) (hy : ev F y = some (.int k q)) : Runs P a w (.binOp .mul t x y t') (.int k (k.wrap (p * q))) := by
  intro _ _ _ _ _
  simp [execOp, A.ev hx, A.ev hy, eqGuard, binOp, Op.intArith]
theorem Runs.quo (A : Fr n a F D) (hx : ev F x = some (.int .i64 p)) (hy : ev F y = some (.int .i64 q)) (h0 : 0 ≤ p) (h1 : 0 < q) (h2 : p ≤ 9223372036854775807) : Runs P a w (.binOp .quo t x y t') (.int .i64 (p / q)) := by
  intro _ _ _ _ _
  have e : p.tdiv q = p / q := Int.tdiv_eq_ediv_of_nonneg h0
  have l : p / q ≤ p := Int.ediv_le_self q h0
  have g : 0 ≤ p / q := Int.ediv_nonneg h0 (by omega)
  have ne : q ≠ 0 := by omega
  simp [execOp, A.ev hx, A.ev hy, eqGuard, binOp, Op.intDiv, ne, e]
  rw [wrap_i64 (by omega) (by omega)]
theorem Runs.rem (A : Fr n a F D) (hx : ev F x = some (.int k p)) (hy : ev F y = some (.int k q)) (h0 : 0 ≤ p) (h1 : 0 < q) : Runs P a w (.binOp .rem t x y t') (.int k (p % q)) := by
  intro _ _ _ _ _
  have e : p.tmod q = p % q := Int.tmod_eq_emod_of_nonneg h0
  have ne : q ≠ 0 := by omega
  simp [execOp, A.ev hx, A.ev hy, eqGuard, binOp, Op.intDiv, ne, e]
theorem Runs.eql (A : Fr n a F D) (hx : ev F x = some (.int k p)) (hy : ev F y = some (.int k q)) : Runs P a w (.binOp .eql t x y t') (.bool (decide (p = q))) := by
  intro _ _ _ _ _
  simp [execOp, A.ev hx, A.ev hy, eqGuard, binOp, Op.intCmp]
  exact Bool.beq_eq_decide_eq p q
theorem Runs.neq (A : Fr n a F D) (hx : ev F x = some (.int k p)) (hy : ev F y = some (.int k q)) : Runs P a w (.binOp .neq t x y t') (.bool (decide (p ≠ q))) := by
  intro _ _ _ _ _
  simp [execOp, A.ev hx, A.ev hy, eqGuard, binOp, Op.intCmp]
  by_cases h : p = q <;> simp [h]
theorem Runs.lss (A : Fr n a F D) (hx : ev F x = some (.int k p)) (hy : ev F y = some (.int k q)) : Runs P a w (.binOp .lss t x y t') (.bool (decide (p < q))) := by
  intro _ _ _ _ _
  simp [execOp, A.ev hx, A.ev hy, eqGuard, binOp, Op.intCmp]
theorem Runs.leq (A : Fr n a F D) (hx : ev F x = some (.int k p)) (hy : ev F y = some (.int k q)) : Runs P a w (.binOp .leq t x y t') (.bool (decide (p ≤ q))) := by
  intro _ _ _ _ _
  simp [execOp, A.ev hx, A.ev hy, eqGuard, binOp, Op.intCmp]
theorem Runs.gtr (A : Fr n a F D) (hx : ev F x = some (.int k p)) (hy : ev F y = some (.int k q)) : Runs P a w (.binOp .gtr t x y t') (.bool (decide (q < p))) := by
  intro _ _ _ _ _
  simp [execOp, A.ev hx, A.ev hy, eqGuard, binOp, Op.intCmp]
theorem Runs.geq (A : Fr n a F D) (hx : ev F x = some (.int k p)) (hy : ev F y = some (.int k q)) : Runs P a w (.binOp .geq t x y t') (.bool (decide (q ≤ p))) := by
  intro _ _ _ _ _
  simp [execOp, A.ev hx, A.ev hy, eqGuard, binOp, Op.intCmp]
theorem toList_inj {s r : ByteArray} : (s.toList == r.toList) = decide (s = r) := by
  rw [Bool.eq_iff_iff]
  simp only [beq_iff_eq, decide_eq_true_eq]
  refine ⟨fun h => ?_, fun h => by rw [h]⟩
  rw [Lib.toList_data, Lib.toList_data] at h
  cases s; cases r
  simpa using h
theorem Runs.seql {s r : ByteArray} (A : Fr n a F D) (hx : ev F x = some (.string s)) (hy : ev F y = some (.string r)) : Runs P a w (.binOp .eql t x y t') (.bool (decide (s = r))) := by
  intro _ _ _ _ _
  simp [execOp, A.ev hx, A.ev hy, eqGuard, binOp, Op.stringOp, toList_inj]
theorem Runs.sneq {s r : ByteArray} (A : Fr n a F D) (hx : ev F x = some (.string s)) (hy : ev F y = some (.string r)) : Runs P a w (.binOp .neq t x y t') (.bool (decide (s ≠ r))) := by
  intro _ _ _ _ _
  simp [execOp, A.ev hx, A.ev hy, eqGuard, binOp, Op.stringOp, toList_inj]
theorem Runs.sadd {s r : ByteArray} (A : Fr n a F D) (hx : ev F x = some (.string s)) (hy : ev F y = some (.string r)) (h : s.size + r.size ≤ 9223372036854775807) : Runs P a w (.binOp .add t x y t') (.string (s ++ r)) := by
  intro _ _ _ _ _
  simp [execOp, A.ev hx, A.ev hy, eqGuard, binOp, Op.stringOp]
  omega
end
theorem Runs.lenS {t : TypeId} {s : ByteArray} (A : Fr n a F D) (hx : ev F x = some (.string s)) (ht : P.underlying t = some .string) : Runs P a w (.call { callee := .builtin .len, args := #[x], argTypes := #[t] }) (.int .i64 s.size) := by
  intro _ _ _ _ _
  simp [execOp, resolve, invoke, builtin, A.ev hx, Builtin.len_, goInt, Sem.run_bind, run_underlying ht]
theorem Runs.lenL {t e k : Nat} {ad : Option Addr} {l c : Nat} (A : Fr n a F D) (hx : ev F x = some (.slice ad l c)) (hs : slEl P t = some (e, k)) : Runs P a w (.call { callee := .builtin .len, args := #[x], argTypes := #[t] }) (.int .i64 l) := by
  intro _ _ _ _ _
  obtain ⟨q, h2, h3, h4⟩ := slEl_spec hs
  simp [execOp, resolve, invoke, builtin, A.ev hx, Builtin.len_, goInt, Sem.run_bind, run_underlying h2]
theorem Runs.capL {t e k : Nat} {ad : Option Addr} {l c : Nat} (A : Fr n a F D) (hx : ev F x = some (.slice ad l c)) (hs : slEl P t = some (e, k)) : Runs P a w (.call { callee := .builtin .cap, args := #[x], argTypes := #[t] }) (.int .i64 c) := by
  intro _ _ _ _ _
  obtain ⟨q, h2, h3, h4⟩ := slEl_spec hs
  simp [execOp, resolve, invoke, builtin, A.ev hx, Builtin.cap_, goInt, Sem.run_bind, run_underlying h2]

/-- the byte at 'i' -/
def bt (s : ByteArray) (i : Nat) : Int := ((s.data[i]?).getD 0).toNat
theorem bt_range (s : ByteArray) (i : Nat) : 0 ≤ bt s i ∧ bt s i ≤ 255 := by
  unfold bt
  have := ((s.data[i]?).getD 0).toNat_lt
  omega
theorem Runs.indexS {t : TypeId} {s : ByteArray} {i : Int} {k : IntKind} (A : Fr n a F D) (hx : ev F x = some (.string s)) (hy : ev F y = some (.int k i)) (ht : P.underlying t = some .string) (h0 : 0 ≤ i) (h1 : i < s.size) :
    Runs P a w (.index t x y) (.int .u8 (bt s i.toNat)) := by
  intro _ _ _ _ _
  have hlt : i.toNat < s.size := by omega
  have hlt' : i.toNat < s.data.size := hlt
  have e : s[i.toNat]? = some s[i.toNat] := by simp [hlt]
  simp [execOp, A.ev hx, A.ev hy, Instr.index, asIntOf, Sem.run_bind, run_underlying ht, h0, e, bt]
  rw [Array.getElem?_eq_getElem hlt']
  rfl
theorem Runs.sliceS {t : TypeId} {s : ByteArray} {lo hi : Int} {k k' : IntKind} (A : Fr n a F D) (hx : ev F x = some (.string s)) (hy : ev F y = some (.int k lo)) (hz : ev F z = some (.int k' hi)) (ht : P.underlying t = some .string) (h0 : 0 ≤ lo) (h1 : lo ≤ hi) (h2 : hi ≤ s.size) :
    Runs P a w (.slice t x (some y) (some z) none) (.string (s.extract lo.toNat hi.toNat)) := by
  intro _ _ _ _ _
  have a1 : 0 ≤ hi ∧ hi ≤ s.size := by omega
  have a2 : 0 ≤ lo ∧ lo ≤ hi.toNat := by omega
  simp only [execOp, Instr.sliceAt, Sem.run_bind, run_underlying ht, Result.andThen_ok]
  simp [A.ev hx, A.ev hy, A.ev hz, Instr.slice, Sem.run_bind, run_underlying ht, Instr.sliceBounds, Instr.sliceBound, asIntOf, a1, a2]
  intro hh
  exfalso; omega
theorem Runs.sliceSlo {t : TypeId} {s : ByteArray} {lo : Int} {k : IntKind} (A : Fr n a F D) (hx : ev F x = some (.string s)) (hy : ev F y = some (.int k lo)) (ht : P.underlying t = some .string) (h0 : 0 ≤ lo) (h1 : lo ≤ s.size) :
    Runs P a w (.slice t x (some y) none none) (.string (s.extract lo.toNat s.size)) := by
  intro _ _ _ _ _
  have a2 : 0 ≤ lo ∧ lo ≤ s.size := by omega
  simp only [execOp, Instr.sliceAt, Sem.run_bind, run_underlying ht, Result.andThen_ok]
  simp [A.ev hx, A.ev hy, Instr.slice, Sem.run_bind, run_underlying ht, Instr.sliceBounds, Instr.sliceBound, asIntOf, a2]
theorem Runs.sliceShi {t : TypeId} {s : ByteArray} {hi : Int} {k : IntKind} (A : Fr n a F D) (hx : ev F x = some (.string s)) (hy : ev F y = some (.int k hi)) (ht : P.underlying t = some .string) (h0 : 0 ≤ hi) (h1 : hi ≤ s.size) :
    Runs P a w (.slice t x none (some y) none) (.string (s.extract 0 hi.toNat)) := by
  intro _ _ _ _ _
  have a2 : 0 ≤ hi ∧ hi ≤ s.size := by omega
  simp only [execOp, Instr.sliceAt, Sem.run_bind, run_underlying ht, Result.andThen_ok]
  simp [A.ev hx, A.ev hy, Instr.slice, Sem.run_bind, run_underlying ht, Instr.sliceBounds, Instr.sliceBound, asIntOf, a2]
/-- where a slice cut at 'l' begins -/
def cutAd (ad : Option Addr) (cap l k : Nat) : Option Addr := if cap = l then ad else ad.map (·.add (l * k))
theorem Runs.sliceL {t e k : Nat} {ad : Option Addr} {len cap : Nat} {lo hi : Int} {k1 k2 : IntKind} (A : Fr n a F D) (hx : ev F x = some (.slice ad len cap)) (hy : ev F y = some (.int k1 lo)) (hz : ev F z = some (.int k2 hi)) (hs : slEl P t = some (e, k)) (h0 : 0 ≤ lo) (h1 : lo ≤ hi) (h2 : hi ≤ cap) :
    Runs P a w (.slice t x (some y) (some z) none) (.slice (cutAd ad cap lo.toNat k) (hi.toNat - lo.toNat) (cap - lo.toNat)) := by
  intro _ _ _ _ _
  obtain ⟨q, h3, h4, h5⟩ := slEl_spec hs
  have a1 : 0 ≤ hi ∧ hi ≤ cap := by omega
  have a2 : 0 ≤ lo ∧ lo ≤ hi.toNat := by omega
  simp only [execOp, Instr.sliceAt, Sem.run_bind, run_underlying h3, Result.andThen_ok]
  simp [A.ev hx, A.ev hy, A.ev hz, Instr.slice, Sem.run_bind, run_underlying h3, Instr.sliceBounds, Instr.sliceBound, asIntOf, a1, a2, sizeOf, typeInfo, h4, h5, cutAd]
  intro hh
  exfalso; omega
theorem Runs.sliceLlo {t e k : Nat} {ad : Option Addr} {len cap : Nat} {lo : Int} {k1 : IntKind} (A : Fr n a F D) (hx : ev F x = some (.slice ad len cap)) (hy : ev F y = some (.int k1 lo)) (hs : slEl P t = some (e, k)) (h0 : 0 ≤ lo) (h1 : lo ≤ len) :
    Runs P a w (.slice t x (some y) none none) (.slice (cutAd ad cap lo.toNat k) (len - lo.toNat) (cap - lo.toNat)) := by
  intro _ _ _ _ _
  obtain ⟨q, h3, h4, h5⟩ := slEl_spec hs
  have a2 : 0 ≤ lo ∧ lo ≤ len := by omega
  simp only [execOp, Instr.sliceAt, Sem.run_bind, run_underlying h3, Result.andThen_ok]
  simp [A.ev hx, A.ev hy, Instr.slice, Sem.run_bind, run_underlying h3, Instr.sliceBounds, Instr.sliceBound, asIntOf, a2, sizeOf, typeInfo, h4, h5, cutAd]
theorem Runs.sliceLhi {t e k : Nat} {ad : Option Addr} {len cap : Nat} {hi : Int} {k1 : IntKind} (A : Fr n a F D) (hx : ev F x = some (.slice ad len cap)) (hy : ev F y = some (.int k1 hi)) (hs : slEl P t = some (e, k)) (h0 : 0 ≤ hi) (h1 : hi ≤ cap) :
    Runs P a w (.slice t x none (some y) none) (.slice (cutAd ad cap 0 k) hi.toNat cap) := by
  intro _ _ _ _ _
  obtain ⟨q, h3, h4, _⟩ := slEl_spec hs
  have a2 : 0 ≤ hi ∧ hi ≤ cap := by omega
  simp only [execOp, Instr.sliceAt, Sem.run_bind, run_underlying h3, Result.andThen_ok]
  simp [A.ev hx, A.ev hy, Instr.slice, Sem.run_bind, run_underlying h3, Instr.sliceBounds, Instr.sliceBound, asIntOf, a2, sizeOf, typeInfo, h4, cutAd]

def aggOf (P : Program) (t : Nat) : Bool := (P.underlying t).map (fun d => match d with | .interface _ => false | _ => true) == some true
theorem Runs.makeInterface {t : TypeId} {v : Value} (A : Fr n a F D) (hx : ev F x = some v) (ht : aggOf P t = true) : Runs P a w (.makeInterface t x) (.iface t v) := by
  intro _ _ _ _ _
  unfold aggOf at ht
  cases hd : P.underlying t with
  | none => simp [hd] at ht
  | some d => cases d <;> simp_all [execOp, A.ev hx, Instr.makeInterface, Sem.run_bind, run_underlying hd]
/-- the values of a list of operands -/
def evs (F : List (Nat × Value)) : List Operand → Option (List Value)
  | [] => some []
  | x :: xs => (ev F x).bind fun v => (evs F xs).map (v :: ·)
theorem Fr.evs {n : Nat} {a : Act} {F : List (Nat × Value)} {D : List Deferred} (A : Fr n a F D) : ∀ {xs : List Operand} {vs : List Value}, evs F xs = some vs → xs.map a.eval = vs
  | [], vs, h => by simpa [Sl.evs] using h
  | x :: xs, vs, h => by
    simp only [Sl.evs, Option.bind_eq_some_iff, Option.map_eq_some_iff] at h
    obtain ⟨v, hv, us, hu, rfl⟩ := h
    simp [A.ev hv, A.evs hu]
theorem Runs.makeFunc {fn : Fn} {xs : List Operand} {vs : List Value} (A : Fr n a F D) (hx : evs F xs = some vs) : Runs P a w (.makeFunc fn #[] xs.toArray) (.func fn #[] vs.toArray) := by
  intro _ _ _ _ _
  simp [execOp, Instr.makeFunc, A.evs hx]

/-- The zero cells of a struct type, and where its fields lie. -/
structure Bd (P : Program) (t : TypeId) (zs : List Value) (ps : List (Nat × Nat)) : Prop where
  z : (P.info? t).map (fun i => i.zero.map (·.cells.toList)) = some (some zs)
  f : (match P.underlying t with
    | some (.struct fs) => some (fs.toList.map fun f => (f.offset, ((P.info? f.type).map (·.size)).getD 0), fs.toList.all fun f => (P.info? f.type).isSome)
    | _ => none) = some (ps, true)
def bindO (o : Option (List Value)) (f : List Value → Option (List Value)) : Option (List Value) :=
  match o with
  | some r => f r
  | none => none
theorem bindO_some {o : Option (List Value)} {f : List Value → Option (List Value)} {us : List Value} (h : bindO o f = some us) : ∃ r, o = some r ∧ f r = some us := by
  cases o with
  | none => cases h
  | some r => exact ⟨r, rfl, h⟩
/-- the list, its spine laid out -/
def forceL : List Value → Option (List Value)
  | [] => some []
  | c :: cs => consO c (forceL cs)
theorem forceL_eq : ∀ cs : List Value, forceL cs = some cs
  | [] => rfl
  | c :: cs => by simp [forceL, forceL_eq cs, consO]
def fillP (place : Nat → Option (Nat × Nat)) : List Value → List (Nat × Value) → Option (List Value)
  | cs, [] => forceL cs
  | cs, (i, v) :: r => match place i with
    | some (o, k) => bif Nat.beq v.cells.toList.length k then bindO (setN cs o v.cells.toList) fun cs' => fillP place cs' r else none
    | none => none
theorem fill_set (cs : Array Value) (off : Nat) (vs : List Value) : ∀ (j : Nat), off + j + vs.length ≤ cs.size →
    ((vs.zipIdx j).foldl (fun cs (cj : Value × Nat) => cs.setIfInBounds (off + cj.2) cj.1) cs).toList = cs.toList.take (off + j) ++ vs ++ cs.toList.drop (off + j + vs.length) := by
  induction vs generalizing cs with
  | nil => intro j _; simp
  | cons v vs ih =>
    intro j h
    simp only [List.length_cons] at h
    simp only [List.zipIdx_cons, List.foldl_cons]
    rw [ih (cs.setIfInBounds (off + j) v) (j + 1) (by simp; omega)]
    simp only [Array.toList_setIfInBounds, List.length_cons]
    apply List.ext_getElem?
    intro k
    simp only [List.append_assoc, List.getElem?_append, List.length_take, List.length_set, Array.length_toList, List.getElem?_take, List.getElem?_set, List.getElem?_drop, List.cons_append, List.getElem?_cons]
    grind
theorem fill_fillP (place : Nat → Option (Nat × Nat)) : ∀ (parts : List (Nat × Value)) (cs us : List Value), fillP place cs parts = some us → Instr.fill place cs.toArray parts = some us.toArray
  | [], cs, us, h => by simp [fillP, forceL_eq] at h; simp [Instr.fill, h]
  | (i, v) :: r, cs, us, h => by
    simp only [fillP] at h
    split at h
    · rename_i o k hk
      rw [cond_eq_ite] at h
      split at h
      · rename_i hl
        have hl := Nat.eq_of_beq_eq_true hl
        obtain ⟨ts, ht, h⟩ := bindO_some h
        obtain ⟨h1, h2⟩ := setN_some ht
        have hl' : v.cells.size = k := by simpa using hl
        simp only [Instr.fill, hk]
        rw [if_neg (by simp [hl']; simp at h1; omega)]
        have e : (v.cells.zipIdx.foldl (fun cs (x : Value × Nat) => cs.setIfInBounds (o + x.2) x.1) cs.toArray) = ts.toArray := by
          apply Array.ext'
          have := fill_set cs.toArray o v.cells.toList 0 (by simpa using h1)
          simp only [Nat.add_zero] at this
          rw [h2]
          rw [← this]
          congr 1
          rw [← Array.foldl_toList]
          simp
        rw [show (v.cells.zipIdx.foldl (fun cs (c, j) => cs.setIfInBounds (o + j) c) cs.toArray) = ts.toArray from e]
        exact fill_fillP place r ts us h
      · cases h
    · cases h
end
end Sl
end Go.Proofs.YtanhehbfbakdcaaGreatDoor
