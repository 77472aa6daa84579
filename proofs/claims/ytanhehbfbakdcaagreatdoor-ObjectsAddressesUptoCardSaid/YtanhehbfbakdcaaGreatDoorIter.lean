/- Ranges over strings. Own work; nothing about a program stands here. -/
import Derived.Test.YtanhehbfbakdcaaGreatDoorRow
set_option linter.unusedVariables false
set_option linter.unusedSimpArgs false
namespace Go.Proofs.YtanhehbfbakdcaaGreatDoor
namespace Sl
open Go Go.RowKit
variable {P : Program} {ops : Array Oper} {Q : Exit → Act → World → Prop} {n : Nat} {a : Act} {w w0 : World} {F : List (Nat × Value)} {D : List Deferred} {m : Mem} {L L' : List Res} {rest : List Oper}
variable {d t : Nat} {pos : String} {after : Array Edge} {x : Operand}
theorem rangeS_runs {ty : Nat} {s : ByteArray} [hS : StrC P ty] (A : Fr n a F D) (hx : ev F x = some (.string s)) : ∀ dst t pos after guard, (execOp a.eval ⟨dst, .range ty x, t, pos, after, guard⟩).run P w = .ok (.value (.pointer (some ⟨w.heap.size, 0, none⟩))) (w.alloc (.stringIter s 0)) := by
  intro _ _ _ _ _
  simp only [execOp, Instr.range, A.ev hx, Sem.run_bind, run_underlying hS.h, Result.andThen_ok, Sem.run_pure, newObj]
  rfl
theorem step_rangeS {ty : Nat} {s : ByteArray} [hS : StrC P ty] (A : Fr n a F D) (H : St w0 w m L) (hx : ev F x = some (.string s)) (hd : Nat.blt d n = true)
    (k : ∀ b a' w', Fr n a' ((d, .pointer (some ⟨b, 0, none⟩)) :: F) D → St w0 w' m (ob b (.stringIter s 0) :: L) → wpList P ops Q rest a' w') :
    wpList P ops Q (⟨some d, .range ty x, t, pos, after, none⟩ :: rest) a w :=
  stepW (rangeS_runs A hx) A hd fun a' A' => k _ a' _ A' (H.alloc _)
theorem getObj_iter {b p : Nat} {s : ByteArray} (h : w.heap[b]? = some (.stringIter s p)) : (getObj b).run P w = .ok (.stringIter s p) w := by simp [getObj, Sem.run, h]
theorem setObj_iter {b p : Nat} {s : ByteArray} (o : Obj) (h : w.heap[b]? = some (.stringIter s p)) : (setObj b o).run P w = .ok () { w with heap := w.heap.setIfInBounds b o } := by simp [setObj, Sem.run, h]
theorem nextS_more {b p : Nat} {s : ByteArray} (A : Fr n a F D) (hx : ev F x = some (.pointer (some ⟨b, 0, none⟩))) (hb : w.heap[b]? = some (.stringIter s p)) (hp : p < s.size) : ∀ dst t pos after guard, (execOp a.eval ⟨dst, .next x true, t, pos, after, guard⟩).run P w = .ok (.value (.tuple #[.bool true, .int .i64 p, .int .i32 (Utf8.decode s p).1])) { w with heap := w.heap.setIfInBounds b (.stringIter s (p + (Utf8.decode s p).2)) } := by
  intro _ _ _ _ _
  simp only [execOp, Instr.next, A.ev hx, Sem.run_bind, getObj_iter hb, Result.andThen_ok, hp, if_true, setObj_iter _ hb, Sem.run_pure]
  rfl
theorem nextS_over {b p : Nat} {s : ByteArray} (A : Fr n a F D) (hx : ev F x = some (.pointer (some ⟨b, 0, none⟩))) (hb : w.heap[b]? = some (.stringIter s p)) (hp : ¬ p < s.size) : ∀ dst t pos after guard, (execOp a.eval ⟨dst, .next x true, t, pos, after, guard⟩).run P w = .ok (.value (.tuple #[.bool false])) w := by
  intro _ _ _ _ _
  simp only [execOp, Instr.next, A.ev hx, Sem.run_bind, getObj_iter hb, Result.andThen_ok, hp, if_false, Sem.run_pure]
theorem step_nextS {b p : Nat} {s : ByteArray} (A : Fr n a F D) (H : St w0 w m L) (hx : ev F x = some (.pointer (some ⟨b, 0, none⟩))) [hp : HasOb L b (.stringIter s p) L'] (hd : Nat.blt d n = true)
    (k1 : p < s.size → ∀ a' w', Fr n a' ((d, .tuple #[.bool true, .int .i64 p, .int .i32 (Utf8.decode s p).1]) :: F) D → St w0 w' m (ob b (.stringIter s (p + (Utf8.decode s p).2)) :: L') → wpList P ops Q rest a' w')
    (k0 : ¬ p < s.size → ∀ a', Fr n a' ((d, .tuple #[.bool false]) :: F) D → wpList P ops Q rest a' w) :
    wpList P ops Q (⟨some d, .next x true, t, pos, after, none⟩ :: rest) a w := by
  have H' : St w0 w m (ob b (.stringIter s p) :: L') := H.perm hp.p
  have hb := H'.block
  rcases Decidable.em (p < s.size) with h | h
  · refine stepW (nextS_more A hx hb h) A hd fun a' A' => k1 h a' _ A' (H'.update ⟨rfl, rfl, rfl, by simp⟩ ?_ ?_)
    · have hl := (Array.getElem?_eq_some_iff.1 hb).1
      simp [Array.getElem?_setIfInBounds, hl]
    · intro j hj _
      simp [Array.getElem?_setIfInBounds, Ne.symm hj]
  · exact stepW (nextS_over A hx hb h) A hd fun a' A' => k0 h a' A'
/-- an array that is built of its parts -/
theorem Runs.buildArr {ty len e k size bytes : Nat} {zs us vs : List Value} {parts : List (Nat × Operand)} {ixs : List Nat} [hA : ArrC P ty len e k] [T : TyC P ty true size bytes zs] (A : Fr n a F D) (hi : parts.map (·.1) = ixs) (hx : evs F (parts.map (·.2)) = some vs)
    (hf : fillP (fun i => some (i * k, k)) zs (ixs.zip vs) = some us) : Runs P a w (.build ty parts.toArray) (.agg us.toArray) := by
  intro _ _ _ _ _
  obtain ⟨z, h1, h2⟩ := T.h.runZero w
  have hs := hA.s
  cases hq : P.info? e with
  | none => simp [hq] at hs
  | some q =>
    have h4 : q.size = k := by simpa [hq] using hs
    have hvs : (parts.map fun p => (p.1, a.eval p.2)) = ixs.zip vs := by
      have := A.evs hx
      rw [← hi, ← this]
      clear hf hx this hi
      induction parts with
      | nil => rfl
      | cons p r ih => simp [ih]
    have hfill := fill_fillP _ (ixs.zip vs) zs us hf
    have hzc : z.cells = zs.toArray := by rw [← h2]
    simp only [execOp, Instr.build, List.map_toArray, hvs, Sem.run_bind, h1, run_underlying hA.u, Result.andThen_ok, Sem.run_pure, sizeOf, typeInfo, run_program, hq, h4, hzc]
    rw [hfill]
    rfl
end Sl
end Go.Proofs.YtanhehbfbakdcaaGreatDoor
