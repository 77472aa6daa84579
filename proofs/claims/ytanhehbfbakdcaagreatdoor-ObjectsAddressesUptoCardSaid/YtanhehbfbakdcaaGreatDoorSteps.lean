/- The steps of a walk in the words of the separation logic. Own work; nothing about a program stands here. -/
import Derived.Test.YtanhehbfbakdcaaGreatDoorOps
namespace Go.Proofs.YtanhehbfbakdcaaGreatDoor
namespace Sl
open Go Go.RowKit

/-! ### 1. What is found by instance -/
class HasOb (L : List Res) (b : Nat) (o : outParam Obj) (L' : outParam (List Res)) : Prop where
  p : L.Perm (ob b o :: L')
instance (priority := high) HasOb.head {b : Nat} {o : Obj} {L : List Res} : HasOb (ob b o :: L) b o L := ⟨.refl _⟩
instance (priority := low) HasOb.tail {b : Nat} {o : Obj} {r : Res} {L L' : List Res} [h : HasOb L b o L'] : HasOb (r :: L) b o (r :: L') := ⟨(List.Perm.cons r h.p).trans (.swap _ _ _)⟩
class HasPt (L : List Res) (b : Nat) (cs : outParam (List Value)) (t : outParam TypeId) (L' : outParam (List Res)) : Prop where
  p : L.Perm (pt b cs t :: L')
instance (priority := high) HasPt.head {b t : Nat} {cs : List Value} {L : List Res} : HasPt (pt b cs t :: L) b cs t L := ⟨.refl _⟩
instance (priority := low) HasPt.tail {b t : Nat} {cs : List Value} {r : Res} {L L' : List Res} [h : HasPt L b cs t L'] : HasPt (r :: L) b cs t (r :: L') := ⟨(List.Perm.cons r h.p).trans (.swap _ _ _)⟩
class Fz (m : Mem) (b : Nat) (cs : outParam (List Value)) : Prop where
  h : fz m b cs
theorem Fz.mono {m m' : Mem} {b : Nat} {cs : List Value} (k : Fz m b cs) (h : Le m m') : Fz m' b cs := ⟨k.h.mono h⟩
class BlkC (m : Mem) (L : List Res) (b : Nat) (cs : outParam (List Value)) : Prop where
  h : Blk m L b cs
instance (priority := high) BlkC.pt {m : Mem} {L L' : List Res} {b t : Nat} {cs : List Value} [h : HasPt L b cs t L'] : BlkC m L b cs := ⟨.inl ⟨t, L', h.p⟩⟩
instance (priority := low) BlkC.fz {m : Mem} {L : List Res} {b : Nat} {cs : List Value} [h : Fz m b cs] : BlkC m L b cs := ⟨.inr h.h⟩
theorem St.mapTail {w0 w : World} {m : Mem} {r : Res} {L L' : List Res} (H : St w0 w m (r :: L)) (k : ∀ h, Holds L h → ∃ h', Holds L' h' ∧ ∀ b o, h' b = some o → h b = some o) : St w0 w m (r :: L') := by
  obtain ⟨a, b, h, ⟨h1, h2, x1, x2, x3, x4⟩, d⟩ := H
  obtain ⟨h', y1, y2⟩ := k h2 x2
  refine ⟨a, b, fun q => (h1 q).or (h' q), ⟨h1, h', x1, y1, fun q => ?_, fun _ => rfl⟩, fun q o hq => ?_⟩
  · rcases x3 q with z | z
    · exact .inl z
    · refine .inr ?_
      cases hh : h' q with
      | none => rfl
      | some o => rw [y2 q o hh] at z; cases z
  · refine d q o ?_
    rw [x4]
    cases hh : h1 q with
    | some u => simpa [hh] using hq
    | none => simp [hh] at hq ⊢; exact y2 q o hq
class SubH (L' L : List Res) : Prop where
  h : ∀ h, Holds L h → ∃ h', Holds L' h' ∧ ∀ b o, h' b = some o → h b = some o
instance (priority := high) SubH.refl {L : List Res} : SubH L L := ⟨fun h x => ⟨h, x, fun _ _ q => q⟩⟩
instance (priority := low) SubH.skip {r : Res} {L L' : List Res} [k : SubH L' L] : SubH L' (r :: L) := ⟨fun h ⟨h1, h2, x1, x2, x3, x4⟩ => by
  obtain ⟨h', y1, y2⟩ := k.h h2 x2
  refine ⟨h', y1, fun b o q => ?_⟩
  rw [x4]
  rcases x3 b with z | z
  · simp [z, y2 b o q]
  · rw [y2 b o q] at z; cases z⟩
instance (priority := default) SubH.keep {r : Res} {L L' : List Res} [k : SubH L' L] : SubH (r :: L') (r :: L) := ⟨fun h ⟨h1, h2, x1, x2, x3, x4⟩ => by
  obtain ⟨h', y1, y2⟩ := k.h h2 x2
  refine ⟨fun b => (h1 b).or (h' b), ⟨h1, h', x1, y1, fun b => ?_, fun _ => rfl⟩, fun b o q => ?_⟩
  · rcases x3 b with z | z
    · exact .inl z
    · refine .inr ?_
      cases hh : h' b with
      | none => rfl
      | some o => rw [y2 b o hh] at z; cases z
  · rw [x4]
    cases hh : h1 b with
    | some u => simpa [hh] using q
    | none => simp [hh] at q ⊢; exact y2 b o q⟩
instance (priority := low) SubH.nil {L : List Res} : SubH [] L := ⟨fun h _ => ⟨fun _ => none, fun _ => rfl, fun _ _ q => by cases q⟩⟩
theorem St.subH {w0 w : World} {m : Mem} {L L' : List Res} [k : SubH L' L] (H : St w0 w m L) : St w0 w m L' := by
  obtain ⟨a, b, h, x, d⟩ := H
  obtain ⟨h', y1, y2⟩ := k.h h x
  exact ⟨a, b, h', y1, fun q o hq => d q o (y2 q o hq)⟩
theorem St.sub {w0 w : World} {m : Mem} {L L' : List Res} [h : SubH L' L] (H : St w0 w m L) : St w0 w m L' := H.subH
class TyC (P : Program) (t : TypeId) (agg : outParam Bool) (size bytes : outParam Nat) (zs : outParam (List Value)) : Prop where
  h : Ty P t agg size bytes zs
class FldC (P : Program) (t i : Nat) (o : outParam Nat) : Prop where
  h : fldOff P t i = some o
class SlC (P : Program) (t : Nat) (e k : outParam Nat) : Prop where
  h : slEl P t = some (e, k)
class StrC (P : Program) (t : Nat) : Prop where
  h : P.underlying t = some .string
class BdC (P : Program) (t : Nat) (zs : outParam (List Value)) (ps : outParam (List (Nat × Nat))) : Prop where
  h : Bd P t zs ps
class FnC (P : Program) (f : Nat) : Prop where
  h : ∀ args w, (callFunc f args).run P w = .ok (.enter f args) w
theorem FnC.mk' {P : Program} {f : Nat} {fn : Func} (hf : P.funcs[f]? = some fn) (hn : (fn.name == "runtime.NumGoroutine") = false) (hb : fn.body.isNone = false) : FnC P f := ⟨fun args w => by
  simp only [callFunc, Sem.run_bind, run_program, Result.andThen_ok, hf, hn, hb, Bool.false_eq_true, if_false, Sem.run_pure]⟩

/-! ### 2. Plain regions -/
section
variable {P : Program} {n : Nat} {a : Act} {F : List (Nat × Value)} {D : List Deferred} {w0 w : World} {m : Mem} {L L' : List Res} {ops : Array Oper} {Q : Exit → Act → World → Prop} {rest : List Oper}
variable {d t : Nat} {pos : String} {after : Array Edge} {op : Op}

theorem step {v : Value} (R : Runs P a w op v) (A : Fr n a F D) (hd : Nat.blt d n = true) (k : ∀ a', Fr n a' ((d, v) :: F) D → wpList P ops Q rest a' w) :
    wpList P ops Q (⟨some d, op, t, pos, after, none⟩ :: rest) a w := by
  refine wpList_plain rfl fun K hK => ?_
  unfold Oper.wp
  rw [R (some d) t pos after none]
  exact hK _ _ (k _ (A.put hd v))
theorem wanted_of {o : Oper} {j dj : Nat} {want b : Bool} (hg : o.guard = some (j, want)) (A : Fr n a F D) (hj : (ops[j]?).bind (·.dst) = some dj) (hv : lk F dj = some (.bool b)) : Region.wanted o (yielded ops a.tmps) = (b == want) := by
  have := A.at_ dj _ hv
  simp only [Region.wanted, hg, yielded, hj, Option.bind_some, this]
  cases b <;> cases want <;> rfl
theorem stepG {v : Value} {j dj : Nat} {want b : Bool} (hj : (ops[j]?).bind (·.dst) = some dj) (hv : lk F dj = some (.bool b)) (hb : b = want) (R : Runs P a w op v) (A : Fr n a F D) (hd : Nat.blt d n = true) (k : ∀ a', Fr n a' ((d, v) :: F) D → wpList P ops Q rest a' w) :
    wpList P ops Q (⟨some d, op, t, pos, after, some (j, want)⟩ :: rest) a w := by
  refine wpList_step fun K hK => ?_
  rw [if_pos (by rw [wanted_of (ops := ops) rfl A hj hv, hb]; simp)]
  unfold Oper.wp
  rw [R (some d) t pos after _]
  exact hK _ _ (k _ (A.put hd v))
theorem stepSkip {j dj : Nat} {want b : Bool} (hj : (ops[j]?).bind (·.dst) = some dj) (hv : lk F dj = some (.bool b)) (hb : b = !want) (A : Fr n a F D) (hd : Nat.blt d n = true) (k : ∀ a', Fr n a' ((d, undef) :: F) D → wpList P ops Q rest a' w) :
    wpList P ops Q (⟨some d, op, t, pos, after, some (j, want)⟩ :: rest) a w := by
  refine wpList_step fun K hK => ?_
  rw [if_neg (by rw [wanted_of (ops := ops) rfl A hj hv, hb]; cases want <;> simp)]
  exact hK _ _ (k _ (A.put hd undef))
/-- Whether a guard holds. -/
theorem onBool {G : Prop} {dj : Nat} {b : Bool} (_A : Fr n a F D) (_hv : lk F dj = some (.bool b)) (ht : b = true → G) (hf : b = false → G) : G := by
  cases b
  · exact hf rfl
  · exact ht rfl
theorem Runs.pickT {x y z : Operand} {c : Bool} {v : Value} (A : Fr n a F D) (hx : ev F x = some (.bool c)) (hc : c = true) (hy : ev F y = some v) : Runs P a w (.pick x y z) v := by
  intro _ _ _ _ _
  simp [execOp, A.ev hx, A.ev hy, asBool, hc]
theorem Runs.pickF {x y z : Operand} {c : Bool} {v : Value} (A : Fr n a F D) (hx : ev F x = some (.bool c)) (hc : c = false) (hz : ev F z = some v) : Runs P a w (.pick x y z) v := by
  intro _ _ _ _ _
  simp [execOp, A.ev hx, A.ev hz, asBool, hc]

section
variable {x y : Operand} {b off : Nat} {cs : List Value}
theorem Runs.ld1 {ty bytes : Nat} {zs : List Value} {v : Value} (A : Fr n a F D) (H : St w0 w m L) (hx : ev F x = some (.pointer (some ⟨b, off, none⟩))) [T : TyC P ty false 1 bytes zs] [hb : BlkC m L b cs] (hv : cs[off]? = some v) : Runs P a w (.load ty x) v := Runs.load1 A H hx T.h hb.h hv
theorem Runs.ldN {ty k bytes : Nat} {zs vs : List Value} (A : Fr n a F D) (H : St w0 w m L) (hx : ev F x = some (.pointer (some ⟨b, off, none⟩))) [T : TyC P ty true k bytes zs] [hb : BlkC m L b cs] (hv : getN cs off k = some vs) : Runs P a w (.load ty x) (.agg vs.toArray) := Runs.loadN A H hx T.h hb.h hv
theorem Runs.fa {s i o : Nat} (A : Fr n a F D) (hx : ev F x = some (.pointer (some ⟨b, off, none⟩))) [hf : FldC P s i o] : Runs P a w (.fieldAddr s x i) (.pointer (some ⟨b, off + o, none⟩)) := Runs.fieldAddr A hx hf.h
theorem run_mapM_pairs (fs : Array Field) (h2 : (fs.toList.all fun f => (P.info? f.type).isSome) = true) (w : World) :
    (fs.mapM (m := Sem) fun f => do Pure.pure (f.offset, ← sizeOf f.type)).run P w = .ok (fs.toList.map fun f => (f.offset, ((P.info? f.type).map (·.size)).getD 0)).toArray w := by
  generalize hg : (fun (f : Field) => (do Pure.pure (f.offset, ← sizeOf f.type) : Sem (Nat × Nat))) = g
  have hone : ∀ f : Field, (P.info? f.type).isSome = true → (g f).run P w = .ok (f.offset, ((P.info? f.type).map (·.size)).getD 0) w := by
    intro f hf
    obtain ⟨q, hq⟩ := Option.isSome_iff_exists.1 hf
    rw [← hg]
    simp only [Sem.run_bind, sizeOf, typeInfo, run_program, Result.andThen_ok, hq, Sem.run_pure, Option.map_some, Option.getD_some]
  have hall : ∀ (l : List Field), (l.all fun f => (P.info? f.type).isSome) = true → (l.mapM g).run P w = .ok (l.map fun f => (f.offset, ((P.info? f.type).map (·.size)).getD 0)) w := by
    intro l
    induction l with
    | nil => intro _; rfl
    | cons f l ih =>
      intro h
      simp only [List.all_cons, Bool.and_eq_true] at h
      rw [List.mapM_cons]
      simp only [Sem.run_bind, hone f h.1, Result.andThen_ok, ih h.2, Sem.run_pure, List.map_cons]
  rw [Array.mapM_eq_mapM_toList, Sem.run_map, hall _ h2]
  rfl
theorem Runs.build {s : Nat} {zs us : List Value} {ps : List (Nat × Nat)} {parts : List (Nat × Operand)} {ixs : List Nat} {vs : List Value} [hB : BdC P s zs ps] (A : Fr n a F D) (hi : parts.map (·.1) = ixs) (hx : evs F (parts.map (·.2)) = some vs) (hf : fillP (fun i => ps[i]?) zs (ixs.zip vs) = some us) : Runs P a w (.build s parts.toArray) (.agg us.toArray) := by
  intro _ _ _ _ _
  have hz := hB.h.z
  have hF := hB.h.f
  cases hq : P.info? s with
  | none => simp [hq] at hz
  | some i =>
    simp only [hq, Option.map_some, Option.some.injEq, Option.map_eq_some_iff] at hz
    obtain ⟨z, hz1, hz2⟩ := hz
    cases hu : P.underlying s with
    | none => simp [hu] at hF
    | some dd =>
      cases dd <;> simp only [hu, reduceCtorEq, Option.some.injEq, Prod.mk.injEq] at hF
      rename_i fs
      obtain ⟨h1, h2⟩ := hF
      have hp : (fs.mapM (m := Sem) fun f => do Pure.pure (f.offset, ← sizeOf f.type)).run P w = .ok ps.toArray w := by
        rw [← h1]
        exact run_mapM_pairs fs h2 w
      have hvs : (parts.map fun p => (p.1, a.eval p.2)) = ixs.zip vs := by
        have := A.evs hx
        rw [← hi, ← this]
        clear hf hx this hi
        induction parts with
        | nil => rfl
        | cons p r ih => simp [ih]
      have hfill := fill_fillP _ (ixs.zip vs) zs us hf
      have hzc : z.cells = zs.toArray := by rw [← hz2]
      simp only [execOp, Instr.build, List.map_toArray, hvs, Sem.run_bind, zeroValue, typeInfo, run_program, Result.andThen_ok, hq, hz1, Sem.run_pure, run_underlying hu, hp, hzc]
      rw [show (fun x => ps.toArray[x]?) = (fun i => ps[i]?) by funext i; rw [List.getElem?_toArray], hfill]
      rfl

/-! ### 3. Operations that change the world -/
theorem stepW {v : Value} {w1 : World} (R : ∀ dst t pos after guard, (execOp a.eval ⟨dst, op, t, pos, after, guard⟩).run P w = .ok (.value v) w1) (A : Fr n a F D) (hd : Nat.blt d n = true) (k : ∀ a', Fr n a' ((d, v) :: F) D → wpList P ops Q rest a' w1) :
    wpList P ops Q (⟨some d, op, t, pos, after, none⟩ :: rest) a w := by
  refine wpList_plain rfl fun K hK => ?_
  unfold Oper.wp
  rw [R (some d) t pos after none]
  exact hK _ _ (k _ (A.put hd v))
theorem alloc_runs {ty k bytes : Nat} {ag : Bool} {zs : List Value} (T : Ty P ty ag k bytes zs) : ∀ dst t pos after guard, (execOp a.eval ⟨dst, .alloc ty, t, pos, after, guard⟩).run P w = .ok (.value (.pointer (some ⟨w.heap.size, 0, none⟩))) (w.alloc (.cells zs.toArray ty (0, 0))) := by
  intro _ _ _ _ _
  obtain ⟨z, h1, h2⟩ := T.runZero w
  have hc : z.cells = zs.toArray := by rw [← h2]
  simp only [execOp, Instr.alloc, Sem.run_bind, h1, Result.andThen_ok, newVar, newRow, newObj, hc]
  rfl
theorem box_runs {ty : Nat} {v : Value} {vs : List Value} (A : Fr n a F D) (hx : ev F x = some v) (hv : v.cells.toList = vs) : ∀ dst t pos after guard, (execOp a.eval ⟨dst, .box ty x, t, pos, after, guard⟩).run P w = .ok (.value (.pointer (some ⟨w.heap.size, 0, none⟩))) (w.alloc (.cells vs.toArray ty (0, 0))) := by
  intro _ _ _ _ _
  have hc : v.cells = vs.toArray := by rw [← hv]
  simp only [execOp, Instr.box, Sem.run_bind, newVar, newRow, newObj, A.ev hx, hc]
  rfl
theorem step_alloc {ty k bytes : Nat} {ag : Bool} {zs : List Value} [T : TyC P ty ag k bytes zs] (A : Fr n a F D) (H : St w0 w m L) (hd : Nat.blt d n = true)
    (k : ∀ b a' w', Fr n a' ((d, .pointer (some ⟨b, 0, none⟩)) :: F) D → St w0 w' m (pt b zs ty :: L) → wpList P ops Q rest a' w') :
    wpList P ops Q (⟨some d, .alloc ty, t, pos, after, none⟩ :: rest) a w :=
  stepW (alloc_runs T.h) A hd fun a' A' => k _ a' _ A' (H.alloc _)
theorem step_box {ty : Nat} {v : Value} {vs : List Value} (A : Fr n a F D) (H : St w0 w m L) (hx : ev F x = some v) (hv : v.cells.toList = vs) (hd : Nat.blt d n = true)
    (k : ∀ b a' w', Fr n a' ((d, .pointer (some ⟨b, 0, none⟩)) :: F) D → St w0 w' m (pt b vs ty :: L) → wpList P ops Q rest a' w') :
    wpList P ops Q (⟨some d, .box ty x, t, pos, after, none⟩ :: rest) a w :=
  stepW (box_runs A hx hv) A hd fun a' A' => k _ a' _ A' (H.alloc _)
theorem step_store {ty sz bytes tb : Nat} {ag : Bool} {zs vs cs' : List Value} {v : Value} (A : Fr n a F D) (H : St w0 w m L) (hx : ev F x = some (.pointer (some ⟨b, off, none⟩))) (hy : ev F y = some v) [T : TyC P ty ag sz bytes zs] [hp : HasPt L b cs tb L']
    (hv : v.cells.toList = vs) (hk : vs.length = sz) (h1 : vs.all (·.oneCell') = true) (hs : setN cs off vs = some cs')
    (k : ∀ w', St w0 w' m (pt b cs' tb :: L') → wpList P ops Q rest a w') : wpList P ops Q (⟨none, .store ty x y, t, pos, after, none⟩ :: rest) a w := by
  refine wpList_plain rfl fun K hK => ?_
  have H' : St w0 w m (pt b cs tb :: L') := H.perm hp.p
  have hb := H'.block
  obtain ⟨g1, g2⟩ := setN_some hs
  have hst : (storeCells ⟨b, off, none⟩ vs 0).run P w = .ok () (w.setRow b cs'.toArray) := by
    have := run_storeCells_at (P := P) b off tb vs 0 cs.toArray w hb (by simpa using g1) (by simpa using h1)
    rw [this, g2]
    simp
  unfold Oper.wp
  have hsz : v.cells.size = sz := by rw [← hk, ← hv]; simp
  simp only [execOp, Instr.storeAt, Instr.sureAddr, A.ev hx, A.ev hy, Sem.run_bind, Sem.run_pure, Result.andThen_ok, storeVar, T.h.runSize, hsz, hv, hst, ne_eq, not_true_eq_false, if_false]
  refine hK _ _ (k _ (H'.update ⟨rfl, rfl, rfl, by simp⟩ (setRow_heap w b _ _ _ _ hb) fun j hj _ => setRow_other w b j _ hj))
theorem replicate_row (zs : List Value) (len : Nat) : (Array.range (len * zs.length)).map (fun j => zs.toArray[j % zs.toArray.size]!) = ((List.replicate len zs).flatten).toArray := by
  apply Array.ext'
  simp only [Array.toList_map, Array.toList_range, List.size_toArray]
  induction len with
  | zero => simp
  | succ len ih =>
    rw [List.replicate_succ', List.flatten_append, ← ih, Nat.add_mul, Nat.one_mul, List.range_add, List.map_append, List.map_map]
    congr 1
    simp only [List.flatten_cons, List.flatten_nil, List.append_nil]
    apply List.ext_getElem
    · simp
    · intro i h1 h2
      have hi : i < zs.length := h2
      simp [Nat.mod_eq_of_lt hi, hi]
theorem mkrow_runs {s e k len : Nat} {zs us vs : List Value} {parts : List (Nat × Operand)} {ixs : List Nat} (hs : slEl P s = some (e, k)) (hz : (P.info? e).map (fun i => i.zero.map (·.cells.toList)) = some (some zs)) (hzl : zs.length = k) (hsm : len * k ≤ 16777216) (A : Fr n a F D)
    (hi : parts.map (·.1) = ixs) (hx : evs F (parts.map (·.2)) = some vs) (hf : fillP (fun i => some (i * k, k)) (List.replicate len zs).flatten (ixs.zip vs) = some us) :
    ∀ dst t pos after guard, (execOp a.eval ⟨dst, .buildSlice s len parts.toArray, t, pos, after, guard⟩).run P w = .ok (.value (.slice (some ⟨w.heap.size, 0, none⟩) len len)) (w.alloc (.cells us.toArray e (0, 0))) := by
  intro _ _ _ _ _
  obtain ⟨q, h2, h3, h4⟩ := slEl_spec hs
  have hvs : (parts.map fun p => (p.1, a.eval p.2)) = ixs.zip vs := by
    have := A.evs hx
    rw [← hi, ← this]
    clear hf hx this hi
    induction parts with
    | nil => rfl
    | cons p r ih => simp [ih]
  have hlim : ¬ len * k > 2 ^ 24 := by omega
  have hfill := fill_fillP _ (ixs.zip vs) _ us hf
  simp only [execOp, Instr.buildSlice, List.map_toArray, hvs, Sem.run_bind, run_underlying h2, Result.andThen_ok, sizeOf, typeInfo, run_program, h3, Sem.run_pure, h4, hlim, if_false]
  by_cases h0 : len * k = 0
  · have he : (List.replicate len zs).flatten = [] := by
      apply List.eq_nil_of_length_eq_zero
      simp [hzl, h0]
    rw [he] at hfill
    have hr0 : (Array.range 0).map (fun x => (#[] : Array Value)[x % (#[] : Array Value).size]!) = ([] : List Value).toArray := by simp
    simp only [h0, if_true, Sem.run_bind, Sem.run_pure, Result.andThen_ok]
    rw [hr0, hfill]
    simp only [newRow, newObj, Sem.run_bind]
    rfl
  · simp only [h3, Option.map_some, Option.some.injEq, Option.map_eq_some_iff] at hz
    obtain ⟨z, hz1, hz2⟩ := hz
    have hzc : z.cells = zs.toArray := by rw [← hz2]
    have hr := replicate_row zs len
    rw [hzl] at hr
    simp only [h0, if_false, Sem.run_bind, zeroValue, typeInfo, run_program, Result.andThen_ok, h3, hz1, Sem.run_pure, hzc]
    rw [hr, hfill]
    simp only [newRow, newObj, Sem.run_bind]
    rfl
theorem step_slice {s e k len bytes : Nat} {ag : Bool} {zs us vs : List Value} {parts : List (Nat × Operand)} {ixs : List Nat} [hs : SlC P s e k] [T : TyC P e ag k bytes zs] (A : Fr n a F D) (H : St w0 w m L) (hzl : Nat.beq zs.length k = true) (hsm : Nat.ble (len * k) 16777216 = true)
    (hi : parts.map (·.1) = ixs) (hx : evs F (parts.map (·.2)) = some vs) (hf : fillP (fun i => some (i * k, k)) (List.replicate len zs).flatten (ixs.zip vs) = some us) (hd : Nat.blt d n = true)
    (K : ∀ b a' w', Fr n a' ((d, .slice (some ⟨b, 0, none⟩) len len) :: F) D → St w0 w' m (pt b us e :: L) → wpList P ops Q rest a' w') :
    wpList P ops Q (⟨some d, .buildSlice s len parts.toArray, t, pos, after, none⟩ :: rest) a w := by
  refine stepW (mkrow_runs hs.h ?_ (Nat.eq_of_beq_eq_true hzl) (by simpa [Nat.ble_eq] using hsm) A hi hx hf) A hd fun a' A' => K _ a' _ A' (H.alloc _)
  obtain ⟨i, z, h1, _, _, h3, h4⟩ := T.h.info
  simp [h1, h3, h4]
end

/-! ### 4. Calls -/
section
variable {xs : List Operand} {vs : List Value} {f : Nat} {tys : Array TypeId}
/-- An ending that is a return, with what it returns. -/
def RetV (R : Mem → Value → List Res → Prop) : Mem → Ending → List Res → Prop
  | m, .returned v, L => R m v L
  | _, _, _ => False
/-- A return, or a panic with one entry. -/
def RetP (R : Mem → Value → List Res → Prop) (E : Mem → Value → List Res → Prop) : Mem → Ending → List Res → Prop
  | m, .returned v, L => R m v L
  | m, .panicked [⟨v, false, false⟩], L => E m v L
  | _, _, _ => False
theorem enter_runs [hf : FnC P f] (A : Fr n a F D) (hx : evs F xs = some vs) : ∀ dst t pos after guard, (execOp a.eval ⟨dst, .call { callee := .value (.func f), args := xs.toArray, argTypes := tys }, t, pos, after, guard⟩).run P w = .ok (.enter f vs.toArray) w := by
  intro _ _ _ _ _
  have := A.evs hx
  simp only [execOp, resolve, Act.eval, Deferred.ofValue, List.map_toArray, this, Sem.run_bind, Sem.run_pure, Result.andThen_ok, invoke]
  simpa using hf.h vs.toArray w
theorem oper_call {o : Oper} {R : Mem → Value → List Res → Prop} {Lc Lf : List Res} {K : Act → World → Prop} {dst : Option Tmp} (hR : (execOp a.eval o).run P w = .ok (.enter f vs.toArray) w) (hdst : o.dst = dst) (S : Spec P f vs.toArray m Lc (RetV R)) (H : St w0 w m (Lc ++ Lf))
    (k : ∀ v w' m' L', Le m m' → R m' v L' → St w0 w' m' (L' ++ Lf) → K (a.put dst v) w') : o.wp P a w K Q := by
  unfold Oper.wp
  rw [hR, Oper.upon_enter]
  refine S.call H fun e w' m' L' hm hp H' => ?_
  cases e with
  | returned v => subst hdst; exact k v w' m' L' hm hp H'
  | panicked c => exact hp.elim
  | outgrown => exact hp.elim
theorem oper_callP {o : Oper} {R E : Mem → Value → List Res → Prop} {Lc Lf : List Res} {K : Act → World → Prop} {dst : Option Tmp} (hR : (execOp a.eval o).run P w = .ok (.enter f vs.toArray) w) (hdst : o.dst = dst) (S : Spec P f vs.toArray m Lc (RetP R E)) (H : St w0 w m (Lc ++ Lf))
    (k : ∀ v w' m' L', Le m m' → R m' v L' → St w0 w' m' (L' ++ Lf) → K (a.put dst v) w')
    (kp : ∀ v w' m' L', Le m m' → E m' v L' → St w0 w' m' (L' ++ Lf) → Q (.panic [{ v := v, recovered := false }]) a w') : o.wp P a w K Q := by
  unfold Oper.wp
  rw [hR, Oper.upon_enter]
  refine S.call H fun e w' m' L' hm hp H' => ?_
  cases e with
  | returned v => subst hdst; exact k v w' m' L' hm hp H'
  | panicked c =>
    match c, hp with
    | [⟨v, false, false⟩], hp => exact kp v w' m' L' hm hp H'
  | outgrown => exact hp.elim
theorem step_call {R : Mem → Value → List Res → Prop} {Lc Lf : List Res} [hf : FnC P f] (A : Fr n a F D) (hx : evs F xs = some vs) (hd : Nat.blt d n = true) (S : Spec P f vs.toArray m Lc (RetV R)) (H : St w0 w m (Lc ++ Lf))
    (k : ∀ v a' w' m' L', Le m m' → R m' v L' → Fr n a' ((d, v) :: F) D → St w0 w' m' (L' ++ Lf) → wpList P ops Q rest a' w') :
    wpList P ops Q (⟨some d, .call { callee := .value (.func f), args := xs.toArray, argTypes := tys }, t, pos, after, none⟩ :: rest) a w :=
  wpList_plain rfl fun _ hK => oper_call (enter_runs A hx _ _ _ _ _) rfl S H fun v w' m' L' hm hr H' => hK _ _ (k v _ w' m' L' hm hr (A.put hd v) H')
theorem step_callG {R : Mem → Value → List Res → Prop} {Lc Lf : List Res} {j dj : Nat} {want b : Bool} [hf : FnC P f] (hj : (ops[j]?).bind (·.dst) = some dj) (hv : lk F dj = some (.bool b)) (hb : b = want) (A : Fr n a F D) (hx : evs F xs = some vs) (hd : Nat.blt d n = true) (S : Spec P f vs.toArray m Lc (RetV R)) (H : St w0 w m (Lc ++ Lf))
    (k : ∀ v a' w' m' L', Le m m' → R m' v L' → Fr n a' ((d, v) :: F) D → St w0 w' m' (L' ++ Lf) → wpList P ops Q rest a' w') :
    wpList P ops Q (⟨some d, .call { callee := .value (.func f), args := xs.toArray, argTypes := tys }, t, pos, after, some (j, want)⟩ :: rest) a w := by
  refine wpList_step fun K hK => ?_
  rw [if_pos (by rw [wanted_of (ops := ops) rfl A hj hv, hb]; simp)]
  exact oper_call (enter_runs A hx _ _ _ _ _) rfl S H fun v w' m' L' hm hr H' => hK _ _ (k v _ w' m' L' hm hr (A.put hd v) H')
theorem step_callP {R E : Mem → Value → List Res → Prop} {Lc Lf : List Res} [hf : FnC P f] (A : Fr n a F D) (hx : evs F xs = some vs) (hd : Nat.blt d n = true) (S : Spec P f vs.toArray m Lc (RetP R E)) (H : St w0 w m (Lc ++ Lf))
    (k : ∀ v a' w' m' L', Le m m' → R m' v L' → Fr n a' ((d, v) :: F) D → St w0 w' m' (L' ++ Lf) → wpList P ops Q rest a' w')
    (kp : ∀ v w' m' L', Le m m' → E m' v L' → St w0 w' m' (L' ++ Lf) → Q (.panic [{ v := v, recovered := false }]) a w') :
    wpList P ops Q (⟨some d, .call { callee := .value (.func f), args := xs.toArray, argTypes := tys }, t, pos, after, none⟩ :: rest) a w :=
  wpList_plain rfl fun _ hK => oper_callP (enter_runs A hx _ _ _ _ _) rfl S H (fun v w' m' L' hm hr H' => hK _ _ (k v _ w' m' L' hm hr (A.put hd v) H')) kp
theorem step_callPG {R E : Mem → Value → List Res → Prop} {Lc Lf : List Res} {j dj : Nat} {want b : Bool} [hf : FnC P f] (hj : (ops[j]?).bind (·.dst) = some dj) (hv : lk F dj = some (.bool b)) (hb : b = want) (A : Fr n a F D) (hx : evs F xs = some vs) (hd : Nat.blt d n = true) (S : Spec P f vs.toArray m Lc (RetP R E)) (H : St w0 w m (Lc ++ Lf))
    (k : ∀ v a' w' m' L', Le m m' → R m' v L' → Fr n a' ((d, v) :: F) D → St w0 w' m' (L' ++ Lf) → wpList P ops Q rest a' w')
    (kp : ∀ v w' m' L', Le m m' → E m' v L' → St w0 w' m' (L' ++ Lf) → Q (.panic [{ v := v, recovered := false }]) a w') :
    wpList P ops Q (⟨some d, .call { callee := .value (.func f), args := xs.toArray, argTypes := tys }, t, pos, after, some (j, want)⟩ :: rest) a w := by
  refine wpList_step fun K hK => ?_
  rw [if_pos (by rw [wanted_of (ops := ops) rfl A hj hv, hb]; simp)]
  exact oper_callP (enter_runs A hx _ _ _ _ _) rfl S H (fun v w' m' L' hm hr H' => hK _ _ (k v _ w' m' L' hm hr (A.put hd v) H')) kp
/-- A call through a function value: what it captured stands behind the arguments. -/
theorem clo_runs {x : Operand} {cap : List Value} [hf : FnC P f] (A : Fr n a F D) (hc : ev F x = some (.func (.func f) #[] cap.toArray)) (hx : evs F xs = some vs) : ∀ dst t pos after guard, (execOp a.eval ⟨dst, .call { callee := .value x, args := xs.toArray, argTypes := tys }, t, pos, after, guard⟩).run P w = .ok (.enter f (vs ++ cap).toArray) w := by
  intro _ _ _ _ _
  have := A.evs hx
  simp only [execOp, resolve, A.ev hc, Deferred.ofValue, List.map_toArray, this, Sem.run_bind, Sem.run_pure, Result.andThen_ok, invoke]
  simpa using hf.h (vs ++ cap).toArray w
theorem step_clo {x : Operand} {cap : List Value} {R : Mem → Value → List Res → Prop} {Lc Lf : List Res} [hf : FnC P f] (A : Fr n a F D) (hc : ev F x = some (.func (.func f) #[] cap.toArray)) (hx : evs F xs = some vs) (hd : Nat.blt d n = true) (S : Spec P f (vs ++ cap).toArray m Lc (RetV R)) (H : St w0 w m (Lc ++ Lf))
    (k : ∀ v a' w' m' L', Le m m' → R m' v L' → Fr n a' ((d, v) :: F) D → St w0 w' m' (L' ++ Lf) → wpList P ops Q rest a' w') :
    wpList P ops Q (⟨some d, .call { callee := .value x, args := xs.toArray, argTypes := tys }, t, pos, after, none⟩ :: rest) a w :=
  wpList_plain rfl fun _ hK => oper_call (clo_runs A hc hx _ _ _ _ _) rfl S H fun v w' m' L' hm hr H' => hK _ _ (k v _ w' m' L' hm hr (A.put hd v) H')
theorem step_cloP {x : Operand} {cap : List Value} {R E : Mem → Value → List Res → Prop} {Lc Lf : List Res} [hf : FnC P f] (A : Fr n a F D) (hc : ev F x = some (.func (.func f) #[] cap.toArray)) (hx : evs F xs = some vs) (hd : Nat.blt d n = true) (S : Spec P f (vs ++ cap).toArray m Lc (RetP R E)) (H : St w0 w m (Lc ++ Lf))
    (k : ∀ v a' w' m' L', Le m m' → R m' v L' → Fr n a' ((d, v) :: F) D → St w0 w' m' (L' ++ Lf) → wpList P ops Q rest a' w')
    (kp : ∀ v w' m' L', Le m m' → E m' v L' → St w0 w' m' (L' ++ Lf) → Q (.panic [{ v := v, recovered := false }]) a w') :
    wpList P ops Q (⟨some d, .call { callee := .value x, args := xs.toArray, argTypes := tys }, t, pos, after, none⟩ :: rest) a w :=
  wpList_plain rfl fun _ hK => oper_callP (clo_runs A hc hx _ _ _ _ _) rfl S H (fun v w' m' L' hm hr H' => hK _ _ (k v _ w' m' L' hm hr (A.put hd v) H')) kp
/-- The text's own panic. -/
theorem step_panic {x : Operand} {s : Nat} {v : Value} (A : Fr n a F D) (hx : ev F x = some (.iface s v)) (k : Q (.panic [{ v := .iface s v, recovered := false }]) a w) :
    wpList P ops Q (⟨none, .panic x, t, pos, after, none⟩ :: rest) a w := by
  refine wpList_plain rfl fun K _ => ?_
  unfold Oper.wp
  simp only [execOp, A.ev hx, Instr.panic, goPanic, Sem.run_bind, Sem.run]
  exact k
end

/-! ### 5. Tests -/
theorem cond_true {x y : Code} {c : Operand} {b : Bool} (A : Fr n a F D) (hc : ev F c = some (.bool b)) (hb : b = true) (h : x.wp P Q a w) : (Code.cond c x y).wp P Q a w := by subst hb; exact wp_cond (A.ev hc) h
theorem cond_false {x y : Code} {c : Operand} {b : Bool} (A : Fr n a F D) (hc : ev F c = some (.bool b)) (hb : b = false) (h : y.wp P Q a w) : (Code.cond c x y).wp P Q a w := by subst hb; exact wp_cond (A.ev hc) h
theorem cond_split {x y : Code} {c : Operand} {b : Bool} (A : Fr n a F D) (hc : ev F c = some (.bool b)) (ht : b = true → x.wp P Q a w) (hf : b = false → y.wp P Q a w) : (Code.cond c x y).wp P Q a w := by
  cases b
  · exact wp_cond (A.ev hc) (hf rfl)
  · exact wp_cond (A.ev hc) (ht rfl)
end

/-! ### 6. Functions that hand back a value and own nothing more -/
section
variable {P : Program} {n : Nat} {a : Act} {F : List (Nat × Value)} {D : List Deferred} {w0 w : World} {m m0 : Mem} {L Lf : List Res} {ops : Array Oper} {Q : Exit → Act → World → Prop} {rest : List Oper}
variable {d t : Nat} {pos : String} {after : Array Edge} {xs : List Operand} {vs : List Value} {f : Nat} {tys : Array TypeId}
def RetF (R : Mem → Value → Prop) : Mem → Ending → List Res → Prop := RetV fun m v L => L = [] ∧ R m v
/-- 'it returns v' -/
def RetE (v : Value) : Mem → Ending → List Res → Prop := RetF fun _ u => u = v
theorem step_callF {R : Mem → Value → Prop} [hf : FnC P f] (A : Fr n a F D) (hx : evs F xs = some vs) (hd : Nat.blt d n = true) (S : Spec P f vs.toArray m [] (RetF R)) (H : St w0 w m L)
    (k : ∀ v a' w' m', Le m m' → R m' v → Fr n a' ((d, v) :: F) D → St w0 w' m' L → wpList P ops Q rest a' w') :
    wpList P ops Q (⟨some d, .call { callee := .value (.func f), args := xs.toArray, argTypes := tys }, t, pos, after, none⟩ :: rest) a w :=
  step_call A hx hd S H fun v a' w' m' _ hm ⟨h1, h2⟩ A' H' => k v a' w' m' hm h2 A' (by subst h1; exact H')
theorem step_callFG {R : Mem → Value → Prop} {j dj : Nat} {want b : Bool} [hf : FnC P f] (hj : (ops[j]?).bind (·.dst) = some dj) (hv : lk F dj = some (.bool b)) (hb : b = want) (A : Fr n a F D) (hx : evs F xs = some vs) (hd : Nat.blt d n = true) (S : Spec P f vs.toArray m [] (RetF R)) (H : St w0 w m L)
    (k : ∀ v a' w' m', Le m m' → R m' v → Fr n a' ((d, v) :: F) D → St w0 w' m' L → wpList P ops Q rest a' w') :
    wpList P ops Q (⟨some d, .call { callee := .value (.func f), args := xs.toArray, argTypes := tys }, t, pos, after, some (j, want)⟩ :: rest) a w :=
  step_callG hj hv hb A hx hd S H fun v a' w' m' _ hm ⟨h1, h2⟩ A' H' => k v a' w' m' hm h2 A' (by subst h1; exact H')
theorem retF {fn : Func} {s : Nat} {v : Value} {R : Mem → Value → Prop} (A : Fr n a F []) (hr : fn.results = #[.tmp s]) (hv : lk F s = some v) (hM : Le m0 m) (H : St w0 w m L) [SubH Lf L] (h : R m v) :
    bodyPost P fn (fun e w' => ∃ m' L', Le m0 m' ∧ RetF R m' e L' ∧ St w0 w' m' (L' ++ Lf)) .ret a w :=
  ret_tmp A hr hv ⟨m, [], hM, ⟨rfl, h⟩, St.sub (L' := Lf) H⟩
theorem results_tmp3 {fn : Func} {t u x : Tmp} (h : fn.results = #[.tmp t, .tmp u, .tmp x]) (tmps : Array Value) (P : Program) (w : World) : (results fn tmps).run P w = .ok (.tuple #[tmps.getD t undef, tmps.getD u undef, tmps.getD x undef]) w := by
  simp [results, h]
theorem retF2 {fn : Func} {s1 s2 : Nat} {v1 v2 : Value} {R : Mem → Value → Prop} (A : Fr n a F []) (hr : fn.results = #[.tmp s1, .tmp s2]) (hv1 : lk F s1 = some v1) (hv2 : lk F s2 = some v2) (hM : Le m0 m) (H : St w0 w m L) [SubH Lf L] (h : R m (.tuple #[v1, v2])) :
    bodyPost P fn (fun e w' => ∃ m' L', Le m0 m' ∧ RetF R m' e L' ∧ St w0 w' m' (L' ++ Lf)) .ret a w :=
  ret_tmp2 A hr hv1 hv2 ⟨m, [], hM, ⟨rfl, h⟩, St.sub (L' := Lf) H⟩
theorem retF3 {fn : Func} {s1 s2 s3 : Nat} {v1 v2 v3 : Value} {R : Mem → Value → Prop} (A : Fr n a F []) (hr : fn.results = #[.tmp s1, .tmp s2, .tmp s3]) (hv1 : lk F s1 = some v1) (hv2 : lk F s2 = some v2) (hv3 : lk F s3 = some v3) (hM : Le m0 m) (H : St w0 w m L) [SubH Lf L] (h : R m (.tuple #[v1, v2, v3])) :
    bodyPost P fn (fun e w' => ∃ m' L', Le m0 m' ∧ RetF R m' e L' ∧ St w0 w' m' (L' ++ Lf)) .ret a w :=
  ⟨A.defers, _, by rw [results_tmp3 hr]; simp [Array.getD_eq_getD_getElem?, A.at_ s1 v1 hv1, A.at_ s2 v2 hv2, A.at_ s3 v3 hv3], m, [], hM, ⟨rfl, h⟩, St.sub (L' := Lf) H⟩
theorem results_cellN {fn : Func} {s ty k bytes b off : Nat} {zs cs vs : List Value} (hr : fn.results = #[.cell s ty]) (A : Fr n a F []) (H : St w0 w m L) (hp : lk F s = some (.pointer (some ⟨b, off, none⟩))) (T : Ty P ty true k bytes zs) (hb : Blk m L b cs) (hv : getN cs off k = some vs) :
    (results fn a.tmps).run P w = .ok (.agg vs.toArray) w := by
  have h1 := Runs.loadN (x := .tmp s) A H hp T hb hv none 0 "" #[] none
  have hp' : a.tmps[s]?.getD undef = .pointer (some ⟨b, off, none⟩) := by rw [A.at_ s _ hp]; rfl
  simp only [execOp, A.ev (x := .tmp s) hp, Instr.loadAt, Instr.sureAddr, Sem.run_bind, Sem.run_pure, Result.andThen_ok] at h1
  have h2 : (loadVar ty ⟨b, off, none⟩).run P w = .ok (.agg vs.toArray) w := by
    cases hq : (loadVar ty ⟨b, off, none⟩).run P w with
    | ok u w' => rw [hq] at h1; simpa using h1
    | halt _ _ => rw [hq] at h1; simp [Result.andThen] at h1
  simp [results, hr, hp', asAddr, Array.getD_eq_getD_getElem?, h2]
theorem retFc {fn : Func} {s ty k bytes b off : Nat} {zs cs vs : List Value} {R : Mem → Value → Prop} (A : Fr n a F []) (hr : fn.results = #[.cell s ty]) (hp : lk F s = some (.pointer (some ⟨b, off, none⟩))) (hM : Le m0 m) (H : St w0 w m L) [T : TyC P ty true k bytes zs] [hb : BlkC m L b cs] (hv : getN cs off k = some vs) [SubH Lf L] (h : R m (.agg vs.toArray)) :
    bodyPost P fn (fun e w' => ∃ m' L', Le m0 m' ∧ RetF R m' e L' ∧ St w0 w' m' (L' ++ Lf)) .ret a w :=
  ⟨A.defers, _, results_cellN hr A H hp T.h hb.h hv, m, [], hM, ⟨rfl, h⟩, St.sub (L' := Lf) H⟩
theorem seq_nil {x : Code} {a : Act} {w : World} (h : x.wp P Q a w) : Exit.then (fun a w => x.wp P Q a w) Q .normal a w := h
end


theorem notT {b : Bool} (h : b = true) : (!b) = false := by rw [h]; rfl
theorem notF {b : Bool} (h : b = false) : (!b) = true := by rw [h]; rfl

/-! ### 7. Regions that draw their order -/
section
variable {P : Program} {ops : Array Oper} {Q : Exit → Act → World → Prop} {S : World → Prop}
def waits (ops : Array Oper) (j k : Nat) : Bool := match ops[j]? with
  | some o => o.after.any fun e => Region.binds .any e && e.on == k
  | none => false
/-- An operation that waits for all others, at one remove at most. -/
def lastOp (ops : Array Oper) (j : Nat) : Bool := (List.range ops.size).all fun k => k == j || waits ops j k || (List.range ops.size).any fun l => waits ops j l && waits ops l k
/-- What has come up has come up behind all that it waits for. -/
def closedB (ops : Array Oper) (listed : Array Bool) : Bool := (List.range ops.size).all fun k => !listed.getD k false || (List.range ops.size).all fun l => !waits ops k l || listed.getD l false
theorem closed_set {ops : Array Oper} {listed : Array Bool} {j : Nat} (h : closedB ops listed = true) (hj : j ∈ Region.ready .any ops listed) : closedB ops (listed.setIfInBounds j true) = true := by
  simp only [closedB, List.all_eq_true, List.mem_range, Bool.or_eq_true, Bool.not_eq_true'] at *
  intro k hk
  rcases Decidable.em (j = k) with rfl | hne
  · right
    intro l hl
    cases hw : waits ops j l with
    | false => exact .inl rfl
    | true =>
      right
      obtain ⟨_, o, ho, hall⟩ := mem_ready.1 hj
      simp only [waits, ho] at hw
      obtain ⟨e, he, hb⟩ := Array.any_eq_true'.1 hw
      simp only [Bool.and_eq_true, beq_iff_eq] at hb
      have := hall e he hb.1
      rw [hb.2] at this
      exact getD_set_true this
  · rw [getD_set_ne false hne]
    rcases h k hk with h1 | h1
    · exact .inl h1
    · exact .inr fun l hl => (h1 l hl).imp id getD_set_true
/-- Whatever order is drawn from here on; 'S' holds behind every operation but one that waits for all others. -/
def Ord (P : Program) (ops : Array Oper) (Q : Exit → Act → World → Prop) (S : World → Prop) : Nat → Array Bool → Act → World → Prop
  | 0, listed, a, w => Region.ready .any ops listed = [] ∧ Q .normal a w
  | fuel + 1, listed, a, w => (Region.ready .any ops listed = [] → Q .normal a w) ∧
    ∀ i ∈ Region.ready .any ops listed, wpOp P ops Q i (fun a' w' => (lastOp ops i = false → S w') ∧ Ord P ops Q S fuel (listed.setIfInBounds i true) a' w') a w
theorem Ord.any : ∀ (fuel : Nat) (listed : Array Bool) (a : Act) (w : World), Ord P ops Q S fuel listed a w → wpAny P .any ops Q fuel listed a w
  | 0, _, _, _, h => h
  | fuel + 1, _, _, _, h => ⟨h.1, fun i hi => wpOp_mono (fun a' w' k => Ord.any fuel _ a' w' k.2) (h.2 i hi)⟩
theorem not_listed {listed : Array Bool} {i : Nat} (h1 : listed.getD i true = false) (h2 : listed.getD i false = true) : False := by
  rcases Nat.lt_or_ge i listed.size with hs | hs
  · simp [hs] at h1 h2; rw [h1] at h2; cases h2
  · simp [Array.getElem?_eq_none hs] at h2
theorem lastOp_not {j i : Nat} {listed : Array Bool} (hc : closedB ops listed = true) (hj : j ∈ Region.ready .any ops listed) (hi : listed.getD i true = false) (hlt : i < ops.size) (hne : i ≠ j) : lastOp ops j = false := by
  obtain ⟨_, o, ho, hall⟩ := mem_ready.1 hj
  have hw : ∀ k, waits ops j k = true → listed.getD k false = true := by
    intro k hk
    simp only [waits, ho] at hk
    obtain ⟨e, he, hb⟩ := Array.any_eq_true'.1 hk
    simp only [Bool.and_eq_true, beq_iff_eq] at hb
    have := hall e he hb.1
    rwa [hb.2] at this
  cases hl : lastOp ops j with
  | false => rfl
  | true =>
    simp only [lastOp, List.all_eq_true, List.mem_range] at hl
    have h1 := hl i hlt
    simp only [Bool.or_eq_true, beq_iff_eq, hne, false_or] at h1
    rcases h1 with h1 | h1
    · exact (not_listed hi (hw i h1)).elim
    · obtain ⟨l, hl1, hl2⟩ := List.any_eq_true.1 h1
      simp only [Bool.and_eq_true] at hl2
      have hll := hw l hl2.1
      simp only [closedB, List.all_eq_true, List.mem_range, Bool.or_eq_true, Bool.not_eq_true'] at hc
      rcases hc l (List.mem_range.1 hl1) with h2 | h2
      · rw [hll] at h2; cases h2
      · rcases h2 i hlt with h3 | h3
        · rw [hl2.2] at h3; cases h3
        · exact (not_listed hi h3).elim
theorem Ord.first {i : Nat} {oi : Oper} {v : Value} (hi : ops[i]? = some oi) (hsel : ∀ (j : Nat) (o : Oper) cs b, ops[j]? = some o → o.op ≠ .select cs b) (hQ : ∀ c a w, Q (.panic c) (a.put oi.dst v) w → Q (.panic c) a w) :
    ∀ (fuel : Nat) (listed : Array Bool) (a : Act) (w : World), closedB ops listed = true →
      (∀ j oj, ops[j]? = some oj → j ≠ i → listed.getD j true = false → (∀ e ∈ oj.after, Region.binds .any e = true → e.on ≠ i) → oi.apart ops oj = true) →
      i ∈ Region.ready .any ops listed → YieldsIf P ops S oi v a → S w →
      Ord P ops Q S fuel (listed.setIfInBounds i true) (a.put oi.dst v) w → Ord P ops Q S (fuel + 1) listed a w := by
  have hlt : i < ops.size := (Array.getElem?_eq_some_iff.1 hi).1
  intro fuel
  induction fuel with
  | zero =>
    intro listed a w _ _ hr hy hS H
    refine ⟨fun h => (by rw [h] at hr; cases hr), fun j hj => ?_⟩
    rcases Decidable.em (j = i) with rfl | hne
    · exact hy.wpOp hi hS ⟨fun _ => hS, H⟩
    · have := ready_mono hj hne
      rw [H.1] at this
      cases this
  | succ fuel ih =>
    intro listed a w hc hfree hr hy hS H
    refine ⟨fun h => (by rw [h] at hr; cases hr), fun j hj => ?_⟩
    rcases Decidable.em (j = i) with rfl | hne
    · exact hy.wpOp hi hS ⟨fun _ => hS, H⟩
    · obtain ⟨hjun, oj, hoj, hall⟩ := mem_ready.1 hj
      have hiun := (mem_ready.1 hr).1
      have hlast : lastOp ops j = false := lastOp_not hc hj hiun hlt (Ne.symm hne)
      have hno : ∀ e ∈ oj.after, Region.binds .any e = true → e.on ≠ i := fun e he hb heq => by
        have h1 := hall e he hb
        rw [heq] at h1
        have h0 : listed.getD i false = true := h1
        rcases Nat.lt_or_ge i listed.size with hs | hs
        · simp [hs] at hiun h0; rw [hiun] at h0; cases h0
        · simp [Array.getElem?_eq_none hs] at h0
      have h2 := wpOp_putIf hoj (hfree j oj hoj hne hjun hno) (fun cs b => hsel i oi cs b hi) (fun cs b => hsel j oj cs b hoj) hQ hy (H.2 j (ready_mono hj hne))
      refine wpOp_mono (fun a' w' h3 => ⟨fun _ => h3.2.1 hlast, ih (listed.setIfInBounds j true) a' w' (closed_set hc hj) ?_ (ready_mono hr (Ne.symm hne)) h3.1 (h3.2.1 hlast) ?_⟩) h2
      · intro k ok hk hki hun hno'
        refine hfree k ok hk hki ?_ hno'
        rcases Decidable.em (j = k) with rfl | hjk
        · exact hjun
        · rwa [getD_set_ne true hjk] at hun
      · rw [Array.setIfInBounds_comm _ _ hne]
        exact h3.2.2
end

section
variable {P : Program} {n : Nat} {a : Act} {F : List (Nat × Value)} {D : List Deferred} {w0 w : World} {m ms : Mem} {L Ls : List Res} {ops : Array Oper} {Q : Exit → Act → World → Prop}
variable {d t i fuel : Nat} {pos : String} {after : Array Edge} {op : Op} {listed : Array Bool}
/-- What the operations that only read may lean on, all through the region. -/
def SW (m : Mem) (L : List Res) (w : World) : Prop := ∃ w0, St w0 w m L
theorem St.anti {w0 w : World} {m m' : Mem} {L : List Res} (H : St w0 w m' L) (h : Le m m') : St w0 w m L := by
  obtain ⟨a, b, hh, c, d⟩ := H
  refine ⟨a, fun k o x => b k o (h k o x), hh, c, fun k o x => ⟨(d k o x).1, ?_⟩⟩
  cases hk : m k with
  | none => rfl
  | some u => have h1 := h k u hk; rw [(d k o x).2] at h1; cases h1
theorem St.sw (H : St w0 w m L) (h : Le ms m) [SubH Ls L] : SW ms Ls w := ⟨w0, (St.sub (L' := Ls) H).anti h⟩
/-! What has come up, as a list. -/
def memN : List Nat → Nat → Bool
  | [], _ => false
  | i :: o, j => bif Nat.beq i j then true else memN o j
theorem memN_iff {o : List Nat} {j : Nat} : memN o j = true ↔ j ∈ o := by
  induction o with
  | nil => simp [memN]
  | cons i o ih =>
    simp only [memN, cond_eq_ite, List.mem_cons]
    split
    · rename_i h; simp [Nat.eq_of_beq_eq_true h]
    · rename_i h
      rw [ih]
      exact ⟨.inr, fun k => k.resolve_left fun e => h (by rw [e]; exact Nat.beq_refl i)⟩
def LsOf (N : Nat) : List Nat → Array Bool
  | [] => Array.replicate N false
  | i :: o => (LsOf N o).setIfInBounds i true
theorem LsOf_size (N : Nat) : ∀ o : List Nat, (LsOf N o).size = N
  | [] => by simp [LsOf]
  | i :: o => by simp [LsOf, LsOf_size N o]
theorem LsOf_get {N : Nat} : ∀ (o : List Nat) {j : Nat} {b : Bool}, j < N → (LsOf N o).getD j b = memN o j
  | [], j, b, h => by simp [LsOf, memN, h]
  | i :: o, j, b, h => by
    have ih := LsOf_get o (b := b) h
    simp only [LsOf, memN, cond_eq_ite]
    have hs := LsOf_size N o
    rcases Decidable.em (i = j) with rfl | hne
    · rw [if_pos (Nat.beq_refl i)]
      simp [hs, h]
    · rw [if_neg (fun e => hne (Nat.eq_of_beq_eq_true e)), getD_set_ne b hne]
      exact ih
/-- Whether the operation waits for nothing that has not come up. -/
def rdyB (ops : Array Oper) (o : List Nat) (i : Nat) : Bool := !memN o i && match ops[i]? with
  | some x => x.after.toList.all fun e => !Region.binds .any e || memN o e.on
  | none => false
def pairB (ops : Array Oper) (i j : Nat) : Bool := match ops[i]?, ops[j]? with
  | some x, some y => y.after.toList.any (fun e => Nat.beq e.on i && Region.binds .any e) || x.after.toList.any (fun e => Nat.beq e.on j && Region.binds .any e) || (x.apart ops y && y.apart ops x)
  | _, _ => true
def statB (ops : Array Oper) : Bool := Region.noSelect ops && (List.range ops.size).all fun i => (List.range i).all fun j => pairB ops i j
theorem pair_of {i j : Nat} (h : statB ops = true) (hi : i < ops.size) (hj : j < ops.size) (hne : i ≠ j) : pairB ops i j = true ∨ pairB ops j i = true := by
  simp only [statB, Bool.and_eq_true, List.all_eq_true, List.mem_range] at h
  rcases Nat.lt_or_ge j i with hlt | hge
  · exact .inl (h.2 i hi j hlt)
  · exact .inr (h.2 j hj i (by omega))
structure DrO (ops : Array Oper) (o : List Nat) : Prop where
  st : statB ops = true
  lt : ∀ j ∈ o, j < ops.size
  cl : closedB ops (LsOf ops.size o) = true
theorem DrO.begin (h : statB ops = true) : DrO ops [] := ⟨h, by simp, by
  simp only [closedB, List.all_eq_true, List.mem_range, Bool.or_eq_true, Bool.not_eq_true']
  intro k hk
  exact .inl (by rw [LsOf_get [] hk]; rfl)⟩
theorem DrO.ready {o : List Nat} (h : DrO ops o) (hr : rdyB ops o i = true) : i ∈ Region.ready .any ops (LsOf ops.size o) := by
  simp only [rdyB, Bool.and_eq_true, Bool.not_eq_true'] at hr
  obtain ⟨h1, h2⟩ := hr
  split at h2
  · rename_i x hx
    have hi : i < ops.size := (Array.getElem?_eq_some_iff.1 hx).1
    refine mem_ready.2 ⟨by rw [LsOf_get o hi]; exact h1, x, hx, fun e he hb => ?_⟩
    have := List.all_eq_true.1 h2 e (by simpa using he)
    rw [hb] at this
    simp only [Bool.not_true, Bool.false_or] at this
    rw [LsOf_get o (h.lt _ (memN_iff.1 this))]; exact this
  · cases h2
theorem DrO.next {o : List Nat} (h : DrO ops o) (hr : rdyB ops o i = true) : DrO ops (i :: o) := by
  have hm := h.ready hr
  refine ⟨h.st, fun j hj => ?_, closed_set h.cl hm⟩
  rcases List.mem_cons.1 hj with rfl | hj
  · obtain ⟨_, x, hx, _⟩ := mem_ready.1 hm
    exact (Array.getElem?_eq_some_iff.1 hx).1
  · exact h.lt j hj
theorem DrO.free {o : List Nat} (h : DrO ops o) (hr : rdyB ops o i = true) {oi : Oper} (hi : ops[i]? = some oi) : ∀ j oj, ops[j]? = some oj → j ≠ i → (LsOf ops.size o).getD j true = false → (∀ e ∈ oj.after, Region.binds .any e = true → e.on ≠ i) → oi.apart ops oj = true := by
  intro j oj hj hne hun hno
  have hil : i < ops.size := (Array.getElem?_eq_some_iff.1 hi).1
  have hjl : j < ops.size := (Array.getElem?_eq_some_iff.1 hj).1
  have hoi : ∀ e ∈ oi.after, Region.binds .any e = true → e.on ≠ j := fun e he hb heq => by
    obtain ⟨_, x, hx, hall⟩ := mem_ready.1 (h.ready hr)
    rw [hi] at hx; cases hx
    have := hall e he hb
    rw [heq, LsOf_get o hjl] at this
    rw [LsOf_get o hjl, this] at hun; cases hun
  have no1 : ∀ {x : Oper} {q : Nat}, (∀ e ∈ x.after, Region.binds .any e = true → e.on ≠ q) → x.after.toList.any (fun e => Nat.beq e.on q && Region.binds .any e) = false := fun {x q} hx => by
    rw [List.any_eq_false]
    intro e he hh
    simp only [Bool.and_eq_true] at hh
    exact hx e (by simpa using he) hh.2 (Nat.eq_of_beq_eq_true hh.1)
  rcases pair_of h.st hil hjl (Ne.symm hne) with hp | hp <;> simp only [pairB, hi, hj, no1 hno, no1 hoi, Bool.false_or, Bool.and_eq_true] at hp
  · exact hp.1
  · exact hp.2
theorem draw_begin {id N : Nat} (hm : P.follows .mixedOrders = true) (hN : ops.size = N) (hst : statB ops = true) (H : St w0 w m L) (h : ∀ w', St w0 w' m L → DrO ops [] → Ord P ops Q (SW ms Ls) N (LsOf ops.size []) a w') : (Code.region id ops true).wp P Q a w :=
  by subst hN; exact wp_region_any hm (Ord.any _ _ _ _ (h _ (H.drewN _) (DrO.begin hst)))
theorem draw_begin0 {id N : Nat} (hm : P.follows .mixedOrders = true) (hN : ops.size = N) (hst : statB ops = true) (H : St w0 w m L) (h : ∀ w', St w0 w' m L → DrO ops [] → Ord P ops Q (SW m L) N (LsOf ops.size []) a w') : (Code.region id ops true).wp P Q a w := draw_begin hm hN hst H h
theorem dtake {v : Value} {oi : Oper} {o : List Nat} (R : DrO ops o) (hi : ops[i]? = some oi) (hc : rdyB ops o i = true) (hQ : ∀ c a w, Q (.panic c) (a.put oi.dst v) w → Q (.panic c) a w) (hy : YieldsIf P ops (SW ms Ls) oi v a) (hS : SW ms Ls w)
    (k : DrO ops (i :: o) → Ord P ops Q (SW ms Ls) fuel (LsOf ops.size (i :: o)) (a.put oi.dst v) w) : Ord P ops Q (SW ms Ls) (fuel + 1) (LsOf ops.size o) a w :=
  Ord.first hi (Region.noSelect_spec (by have := R.st; simp only [statB, Bool.and_eq_true] at this; exact this.1)) hQ fuel _ a w R.cl (R.free hc hi) (R.ready hc) hy hS (k (R.next hc))
section
variable {o : List Nat}
theorem dstep {v : Value} (R : DrO ops o) (hi : ops[i]? = some ⟨some d, op, t, pos, after, none⟩) (hc : rdyB ops o i = true) (hQ : ∀ c a w, Q (.panic c) (a.put (some d) v) w → Q (.panic c) a w)
    (Rn : ∀ w0 w, St w0 w ms Ls → Runs P a w op v) (A : Fr n a F D) (hd : Nat.blt d n = true) (hS : SW ms Ls w)
    (k : ∀ a', Fr n a' ((d, v) :: F) D → DrO ops (i :: o) → Ord P ops Q (SW ms Ls) fuel (LsOf ops.size (i :: o)) a' w) : Ord P ops Q (SW ms Ls) (fuel + 1) (LsOf ops.size o) a w :=
  dtake R hi hc hQ (.inl ⟨rfl, fun w ⟨w0, H⟩ => Rn w0 w H _ _ _ _ _⟩) hS (k _ (A.put hd v))
theorem dstepG {v : Value} {j dj : Nat} {want b : Bool} (R : DrO ops o) (hi : ops[i]? = some ⟨some d, op, t, pos, after, some (j, want)⟩) (hc : rdyB ops o i = true) (hQ : ∀ c a w, Q (.panic c) (a.put (some d) v) w → Q (.panic c) a w)
    (hj : (ops[j]?).bind (·.dst) = some dj) (hv : lk F dj = some (.bool b)) (hb : b = want) (Rn : ∀ w0 w, St w0 w ms Ls → Runs P a w op v) (A : Fr n a F D) (hd : Nat.blt d n = true) (hS : SW ms Ls w)
    (k : ∀ a', Fr n a' ((d, v) :: F) D → DrO ops (i :: o) → Ord P ops Q (SW ms Ls) fuel (LsOf ops.size (i :: o)) a' w) : Ord P ops Q (SW ms Ls) (fuel + 1) (LsOf ops.size o) a w :=
  dtake R hi hc hQ (.inl ⟨by rw [wanted_of (ops := ops) rfl A hj hv, hb]; simp, fun w ⟨w0, H⟩ => Rn w0 w H _ _ _ _ _⟩) hS (k _ (A.put hd v))
theorem dskip {j dj : Nat} {want b : Bool} (R : DrO ops o) (hi : ops[i]? = some ⟨some d, op, t, pos, after, some (j, want)⟩) (hc : rdyB ops o i = true) (hQ : ∀ c a w, Q (.panic c) (a.put (some d) undef) w → Q (.panic c) a w)
    (hj : (ops[j]?).bind (·.dst) = some dj) (hv : lk F dj = some (.bool b)) (hb : b = !want) (A : Fr n a F D) (hd : Nat.blt d n = true) (hS : SW ms Ls w)
    (k : ∀ a', Fr n a' ((d, undef) :: F) D → DrO ops (i :: o) → Ord P ops Q (SW ms Ls) fuel (LsOf ops.size (i :: o)) a' w) : Ord P ops Q (SW ms Ls) (fuel + 1) (LsOf ops.size o) a w :=
  dtake R hi hc hQ (.inr ⟨by rw [wanted_of (ops := ops) rfl A hj hv, hb]; cases want <;> simp, rfl⟩) hS (k _ (A.put hd undef))
theorem wanted_undef {ox : Oper} {j dj : Nat} {want : Bool} (hg : ox.guard = some (j, want)) (A : Fr n a F D) (hj : (ops[j]?).bind (·.dst) = some dj) (hv : lk F dj = some undef) : Region.wanted ox (yielded ops a.tmps) = false := by
  have := A.at_ dj _ hv
  simp only [Region.wanted, hg, yielded, hj, Option.bind_some, this]
  cases want <;> rfl
theorem dskipU {j dj : Nat} {want : Bool} (R : DrO ops o) (hi : ops[i]? = some ⟨some d, op, t, pos, after, some (j, want)⟩) (hc : rdyB ops o i = true) (hQ : ∀ c a w, Q (.panic c) (a.put (some d) undef) w → Q (.panic c) a w)
    (hj : (ops[j]?).bind (·.dst) = some dj) (hv : lk F dj = some undef) (A : Fr n a F D) (hd : Nat.blt d n = true) (hS : SW ms Ls w)
    (k : ∀ a', Fr n a' ((d, undef) :: F) D → DrO ops (i :: o) → Ord P ops Q (SW ms Ls) fuel (LsOf ops.size (i :: o)) a' w) : Ord P ops Q (SW ms Ls) (fuel + 1) (LsOf ops.size o) a w :=
  dtake R hi hc hQ (.inr ⟨wanted_undef (ops := ops) rfl A hj hv, rfl⟩) hS (k _ (A.put hd undef))
theorem joinD {S : World → Prop} {fuel : Nat} (fuel' : Nat) (o' : List Nat) (N : List (Nat × Value) → List (Nat × Value)) (_A : Fr n a F D)
    (h1 : (∀ a, Fr n a (N F) D → DrO ops o' → Ord P ops Q S fuel' (LsOf ops.size o') a w) → Ord P ops Q S fuel (LsOf ops.size o) a w)
    (h2 : ∀ a, Fr n a (N F) D → DrO ops o' → Ord P ops Q S fuel' (LsOf ops.size o') a w) : Ord P ops Q S fuel (LsOf ops.size o) a w := h1 h2
theorem upon_then {o : Oper} {K : Act → World → Prop} {a : Act} {w : World} (h : o.wp P a w K (Exit.then K Q)) : o.wp P a w K Q := by
  unfold Oper.wp at *
  generalize (execOp a.eval o).run P w = r at *
  cases r with
  | ok x w' =>
    cases x <;> simp only [Oper.upon] at h ⊢ <;> exact h
  | halt x w' => cases x <;> simp only [Oper.upon] at h ⊢ <;> exact h
theorem dalt {o : Oper} {K : Act → World → Prop} (hi : ops[i]? = some o) (h : wpList P ops (Exit.then K Q) [o] a w) : wpOp P ops Q i K a w := by
  unfold wpOp
  rw [hi]
  unfold wpList at h
  show if Region.wanted o (yielded ops a.tmps) then _ else _
  split
  · rename_i hw
    rw [if_pos hw] at h
    rcases h with h | ⟨h1, h2⟩
    · exact .inl (upon_then h)
    · exact .inr ⟨h1, h2⟩
  · rename_i hw
    rw [if_neg hw] at h
    exact h
/-- those that may come up next -/
def rdyL (ops : Array Oper) (o : List Nat) : List Nat := (List.range ops.size).filter fun i => rdyB ops o i
theorem rdyL_eq (R : DrO ops o) : Region.ready .any ops (LsOf ops.size o) = rdyL ops o := by
  unfold rdyL
  have key : ∀ i, i < ops.size → (i ∈ Region.ready .any ops (LsOf ops.size o) ↔ rdyB ops o i = true) := fun i hi => by
    constructor
    · intro h
      obtain ⟨h1, x, hx, hall⟩ := mem_ready.1 h
      rw [LsOf_get o hi] at h1
      simp only [rdyB, h1, Bool.not_false, Bool.true_and, hx, List.all_eq_true, Bool.or_eq_true, Bool.not_eq_true']
      intro e he
      cases hb : Region.binds .any e with
      | false => exact .inl rfl
      | true =>
        right
        have := hall e (by simpa using he) hb
        rcases Nat.lt_or_ge e.on ops.size with hl | hl
        · rwa [LsOf_get o hl] at this
        · have hs := LsOf_size ops.size o
          simp [Array.getElem?_eq_none (by rw [hs]; exact hl : (LsOf ops.size o).size ≤ e.on)] at this
    · exact R.ready
  unfold Region.ready at *
  refine List.filter_congr fun i hi => ?_
  have hi' := List.mem_range.1 hi
  have := key i hi'
  rw [List.mem_filter] at this
  rw [Bool.eq_iff_iff]
  exact ⟨fun h => this.1 ⟨hi, h⟩, fun h => (this.2 h).2⟩
theorem draws_all {rs : List Nat} (R : DrO ops o) (hr : rdyL ops o = rs) (hne : rs ≠ []) (h : ∀ i ∈ rs, wpOp P ops Q i (fun a' w' => (lastOp ops i = false → SW ms Ls w') ∧ Ord P ops Q (SW ms Ls) fuel (LsOf ops.size (i :: o)) a' w') a w) : Ord P ops Q (SW ms Ls) (fuel + 1) (LsOf ops.size o) a w := by
  have e := (rdyL_eq R).trans hr
  exact ⟨fun h0 => absurd (e ▸ h0) hne, e ▸ h⟩
theorem dlist {ox : Oper} (R : DrO ops o) (hi : ops[i]? = some ox) (hr : rdyL ops o = [i])
    (h : wpList P ops (Exit.then (fun a' w' => (lastOp ops i = false → SW ms Ls w') ∧ Ord P ops Q (SW ms Ls) fuel (LsOf ops.size (i :: o)) a' w') Q) [ox] a w) : Ord P ops Q (SW ms Ls) (fuel + 1) (LsOf ops.size o) a w := by
  refine draws_all R hr (by simp) fun j hj => ?_
  obtain rfl : j = i := by simpa using hj
  exact dalt hi h
theorem and_keep {p q r : Prop} (h : p) (k : p → q) : (r → p) ∧ q := ⟨fun _ => h, k h⟩
theorem and_last {p q : Prop} {b : Bool} (hb : b = true) (k : q) : (b = false → p) ∧ q := ⟨fun h => (by rw [hb] at h; cases h), k⟩
theorem draw_done (R : DrO ops o) (hr : ((List.range ops.size).all fun j => memN o j) = true) (h : Q .normal a w) : Ord P ops Q (SW ms Ls) fuel (LsOf ops.size o) a w := by
  have e : Region.ready .any ops (LsOf ops.size o) = [] := by
    rw [rdyL_eq R, rdyL, List.filter_eq_nil_iff]
    intro j hj hh
    have := List.all_eq_true.1 hr j hj
    simp only [rdyB, this, Bool.not_true, Bool.false_and] at hh
    cases hh
  cases fuel with
  | zero => exact ⟨e, h⟩
  | succ _ => exact ⟨fun _ => h, by rw [e]; simp⟩
end
end

section
variable {P : Program} {n : Nat} {a : Act} {F : List (Nat × Value)} {D : List Deferred} {w : World} {ops : Array Oper} {Q : Exit → Act → World → Prop} {rest : List Oper}
/-- An operation whose guard holds is as one without a guard. -/
theorem unguard {dst : Option Tmp} {op : Op} {t : TypeId} {pos : String} {after : Array Edge} {j dj : Nat} {want b : Bool} (hj : (ops[j]?).bind (·.dst) = some dj) (hv : lk F dj = some (.bool b)) (hb : b = want) (A : Fr n a F D)
    (h : wpList P ops Q (⟨dst, op, t, pos, after, none⟩ :: rest) a w) : wpList P ops Q (⟨dst, op, t, pos, after, some (j, want)⟩ :: rest) a w := by
  have hw := wanted_of (ops := ops) (o := ⟨dst, op, t, pos, after, some (j, want)⟩) rfl A hj hv
  unfold wpList at h ⊢
  rw [if_pos (by rw [hw, hb]; simp)]
  rw [if_pos (by simp [Region.wanted])] at h
  exact h
end
end Sl
end Go.Proofs.YtanhehbfbakdcaaGreatDoor
