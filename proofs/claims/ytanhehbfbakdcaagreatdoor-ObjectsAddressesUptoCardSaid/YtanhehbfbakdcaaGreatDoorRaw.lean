/- What describes a store: lists of data, lists of triples of bytes. Own work. -/
import Derived.Test.YtanhehbfbakdcaaGreatDoorCopy
set_option linter.unusedVariables false
set_option linter.unusedSimpArgs false
namespace Go.Proofs.YtanhehbfbakdcaaGreatDoor
namespace Sl
open Go
/-- The cells xs are slices of bytes: the data ls. -/
def DR (m : Mem) : List Value → List (List UInt8) → Prop
  | [], [] => True
  | v :: xs, d :: ls => Dat m v d ∧ DR m xs ls
  | _, _ => False
theorem DR.mono {m m' : Mem} (k : Le m m') : ∀ {xs : List Value} {ls : List (List UInt8)}, DR m xs ls → DR m' xs ls
  | [], [], _ => trivial
  | [], _ :: _, h => h.elim
  | _ :: _, [], h => h.elim
  | v :: xs, d :: ls, ⟨h1, h2⟩ => ⟨h1.mono k, DR.mono k h2⟩
theorem DR.len {m : Mem} : ∀ {xs : List Value} {ls : List (List UInt8)}, DR m xs ls → xs.length = ls.length
  | [], [], _ => rfl
  | [], _ :: _, h => h.elim
  | _ :: _, [], h => h.elim
  | v :: xs, d :: ls, ⟨_, h2⟩ => by simp [DR.len h2]
theorem DR.at_ {m : Mem} : ∀ {xs : List Value} {ls : List (List UInt8)} {i : Nat} {d : List UInt8}, DR m xs ls → ls[i]? = some d → ∃ v, xs[i]? = some v ∧ Dat m v d
  | [], [], _, _, _, h => by simp at h
  | [], _ :: _, _, _, h, _ => h.elim
  | _ :: _, [], _, _, h, _ => h.elim
  | v :: xs, d :: ls, 0, e, ⟨h1, _⟩, h => ⟨v, rfl, by have : d = e := by simpa using h
                                                      subst this; exact h1⟩
  | v :: xs, d :: ls, i + 1, e, ⟨_, h2⟩, h => by simpa using DR.at_ (i := i) h2 (by simpa using h)
/-- A slice of slices of bytes that is read. -/
def Dats (m : Mem) (ad : Option Addr) (n c : Nat) (ls : List (List UInt8)) : Prop := n = ls.length ∧ ∃ xs, Slc m 1 ad n c xs ∧ DR m xs ls
theorem Dats.mono {m m' : Mem} {ad : Option Addr} {n c : Nat} {ls : List (List UInt8)} (h : Dats m ad n c ls) (k : Le m m') : Dats m' ad n c ls := by
  obtain ⟨h0, xs, h1, h2⟩ := h; exact ⟨h0, xs, h1.mono k, h2.mono k⟩
theorem Dats.all_ {m : Mem} {ad : Option Addr} {n c : Nat} {ls : List (List UInt8)} (h : Dats m ad n c ls) (hn : 0 < n) :
    ∃ b off cs, ad = some ⟨b, off, none⟩ ∧ Fz m b cs ∧ ∀ i d, ls[i]? = some d → ∃ v, cs[off + i]? = some v ∧ Dat m v d := by
  obtain ⟨h0, xs, h1, h2⟩ := h
  obtain ⟨b, off, cs, e, hf, hcs⟩ := h1.at_ hn
  refine ⟨b, off, cs, e, hf, fun i d hd => ?_⟩
  have hi : i < ls.length := (List.getElem?_eq_some_iff.1 hd).1
  obtain ⟨v, g1, g2⟩ := h2.at_ hd
  exact ⟨v, by rw [hcs i (by omega)]; exact g1, g2⟩
def triC (t : UInt8 × UInt8 × UInt8) : List Value := [u8 t.1, u8 t.2.1, u8 t.2.2]
/-- A slice of triples of bytes that is read. -/
def Tris (m : Mem) (ad : Option Addr) (n c : Nat) (ts : List (UInt8 × UInt8 × UInt8)) : Prop := n = ts.length ∧ Slc m 3 ad n c (ts.flatMap triC)
theorem Tris.mono {m m' : Mem} {ad : Option Addr} {n c : Nat} {ts : List (UInt8 × UInt8 × UInt8)} (h : Tris m ad n c ts) (k : Le m m') : Tris m' ad n c ts := ⟨h.1, Slc.mono h.2 k⟩
theorem tri_at {ts : List (UInt8 × UInt8 × UInt8)} {i j : Nat} {t : UInt8 × UInt8 × UInt8} (h : ts[i]? = some t) (hj : j < 3) : (ts.flatMap triC)[i * 3 + j]? = (triC t)[j]? := by
  induction ts generalizing i with
  | nil => simp at h
  | cons u ts ih =>
    simp only [List.flatMap_cons]
    cases i with
    | zero =>
      have : u = t := by simpa using h
      subst this
      rw [Nat.zero_mul, Nat.zero_add, List.getElem?_append_left (by simp [triC]; omega)]
    | succ i =>
      rw [List.getElem?_append_right (by simp [triC]; omega), show (i + 1) * 3 + j - (triC u).length = i * 3 + j by simp [triC]; omega]
      exact ih (by simpa using h)
theorem Tris.all_ {m : Mem} {ad : Option Addr} {n c : Nat} {ts : List (UInt8 × UInt8 × UInt8)} (h : Tris m ad n c ts) (hn : 0 < n) :
    ∃ b off cs, ad = some ⟨b, off, none⟩ ∧ Fz m b cs ∧ ∀ i t, ts[i]? = some t → cs[off + i * 3]? = some (u8 t.1) ∧ cs[off + i * 3 + 1]? = some (u8 t.2.1) ∧ cs[off + i * 3 + 2]? = some (u8 t.2.2) := by
  obtain ⟨h0, h1⟩ := h
  obtain ⟨b, off, cs, e, hf, hcs⟩ := h1.at_ hn
  refine ⟨b, off, cs, e, hf, fun i t ht => ?_⟩
  have hi : i < ts.length := (List.getElem?_eq_some_iff.1 ht).1
  refine ⟨?_, ?_, ?_⟩
  · have := tri_at (j := 0) ht (by omega); rw [hcs _ (by omega)]; simpa [triC] using this
  · have := tri_at (j := 1) ht (by omega); rw [Nat.add_assoc, hcs _ (by omega)]; simpa [triC] using this
  · have := tri_at (j := 2) ht (by omega); rw [Nat.add_assoc, hcs _ (by omega)]; simpa [triC] using this
theorem Runs.shrK {P : Program} {n : Nat} {a : Act} {w : World} {F : List (Nat × Value)} {D : List Deferred} {x y : Operand} {t t' : Nat} {k k' : IntKind} {p q : Int} (A : Fr n a F D) (hx : ev F x = some (.int k p)) (hy : ev F y = some (.int k' q)) (h : 0 ≤ q) :
    Runs P a w (.binOp .shr t x y t') (.int k (p.fdiv (2 ^ (min q.toNat k.bits)))) := by
  intro _ _ _ _ _
  have h1 : ¬ (q < 0) := by omega
  simp only [execOp, A.ev hx, A.ev hy, Sem.run_bind, eqGuard, binOp, Op.shift, if_neg h1, Sem.run_pure, Result.andThen_ok]
  rfl
theorem Runs.andK {P : Program} {n : Nat} {a : Act} {w : World} {F : List (Nat × Value)} {D : List Deferred} {x y : Operand} {t t' : Nat} {k : IntKind} {p q : Int} (A : Fr n a F D) (hx : ev F x = some (.int k p)) (hy : ev F y = some (.int k q)) :
    Runs P a w (.binOp .and t x y t') (.int k (k.wrap ((BitVec.ofInt k.bits p &&& BitVec.ofInt k.bits q).toNat))) := by
  intro _ _ _ _ _
  have h : binOp .and t (.int k p) (.int k q) = Op.intBits .and k p q := by simp [binOp]
  have h2 : Op.intBits .and k p q = (Pure.pure (.int k (k.wrap ((BitVec.ofInt k.bits p &&& BitVec.ofInt k.bits q).toNat))) : Sem Value) := rfl
  simp [execOp, A.ev hx, A.ev hy, eqGuard, h, h2]
end Sl
end Go.Proofs.YtanhehbfbakdcaaGreatDoor
