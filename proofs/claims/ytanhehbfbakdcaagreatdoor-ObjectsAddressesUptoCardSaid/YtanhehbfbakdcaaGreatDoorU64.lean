/- Unsigned words, conversions. Own work; nothing about a program stands here. -/
import Derived.Test.YtanhehbfbakdcaaGreatDoorRange
set_option linter.unusedVariables false
set_option linter.unusedSimpArgs false
namespace Go.Proofs.YtanhehbfbakdcaaGreatDoor
namespace Sl
open Go Go.RowKit
section
variable {P : Program} {n : Nat} {a : Act} {w : World} {F : List (Nat × Value)} {D : List Deferred} {x y : Operand} {t t' : Nat}
/-- a word -/
def u64 (x : UInt64) : Value := .int .u64 (x.toNat : Int)
def u8 (x : UInt8) : Value := .int .u8 (x.toNat : Int)
theorem wrap_u64 {q : Int} (h0 : 0 ≤ q) (h1 : q < 18446744073709551616) : IntKind.u64.wrap q = q := by
  simp only [IntKind.wrap, IntKind.bits, IntKind.signed, Bool.false_and, Bool.false_eq_true, if_false]
  omega
theorem wrap_u64_nat (q : Nat) : IntKind.u64.wrap (q : Int) = ((q % 18446744073709551616 : Nat) : Int) := by
  simp only [IntKind.wrap, IntKind.bits, IntKind.signed, Bool.false_and, Bool.false_eq_true, if_false]
  omega
theorem wrap_u8 {q : Int} (h0 : 0 ≤ q) (h1 : q < 256) : IntKind.u8.wrap q = q := by
  simp only [IntKind.wrap, IntKind.bits, IntKind.signed, Bool.false_and, Bool.false_eq_true, if_false]
  omega
theorem ofInt_u64 (p : UInt64) : BitVec.ofInt 64 (p.toNat : Int) = p.toBitVec := by
  rw [BitVec.ofInt_natCast]
  apply BitVec.eq_of_toNat_eq
  simp
theorem u64_lt (p : UInt64) : (p.toNat : Int) < 18446744073709551616 := by have := p.toNat_lt; omega
theorem bits_xor (p q : UInt64) : Op.intBits .xor .u64 (p.toNat : Int) (q.toNat : Int) = (Pure.pure (u64 (p ^^^ q)) : Sem Value) := by
  show (Pure.pure (.int .u64 (IntKind.u64.wrap ((BitVec.ofInt 64 (p.toNat : Int) ^^^ BitVec.ofInt 64 (q.toNat : Int) : BitVec 64).toNat : Int))) : Sem Value) = _
  rw [ofInt_u64, ofInt_u64, ← UInt64.toBitVec_xor, wrap_u64 (by omega) (by exact u64_lt (p ^^^ q))]
  rfl
theorem Runs.xor64 {p q : UInt64} (A : Fr n a F D) (hx : ev F x = some (u64 p)) (hy : ev F y = some (u64 q)) : Runs P a w (.binOp .xor t x y t') (u64 (p ^^^ q)) := by
  intro _ _ _ _ _
  have h : binOp .xor t (.int .u64 (p.toNat : Int)) (.int .u64 (q.toNat : Int)) = Op.intBits .xor .u64 (p.toNat : Int) (q.toNat : Int) := rfl
  simp [execOp, A.ev hx, A.ev hy, u64, eqGuard, h, bits_xor]
theorem bits_or (p q : UInt64) : Op.intBits .or .u64 (p.toNat : Int) (q.toNat : Int) = (Pure.pure (u64 (p ||| q)) : Sem Value) := by
  show (Pure.pure (.int .u64 (IntKind.u64.wrap ((BitVec.ofInt 64 (p.toNat : Int) ||| BitVec.ofInt 64 (q.toNat : Int) : BitVec 64).toNat : Int))) : Sem Value) = _
  rw [ofInt_u64, ofInt_u64, ← UInt64.toBitVec_or, wrap_u64 (by omega) (by exact u64_lt (p ||| q))]
  rfl
theorem Runs.or64 {p q : UInt64} (A : Fr n a F D) (hx : ev F x = some (u64 p)) (hy : ev F y = some (u64 q)) : Runs P a w (.binOp .or t x y t') (u64 (p ||| q)) := by
  intro _ _ _ _ _
  have h : binOp .or t (.int .u64 (p.toNat : Int)) (.int .u64 (q.toNat : Int)) = Op.intBits .or .u64 (p.toNat : Int) (q.toNat : Int) := rfl
  simp [execOp, A.ev hx, A.ev hy, u64, eqGuard, h, bits_or]
theorem Runs.mul64 {p q : UInt64} (A : Fr n a F D) (hx : ev F x = some (u64 p)) (hy : ev F y = some (u64 q)) : Runs P a w (.binOp .mul t x y t') (u64 (p * q)) := by
  intro d b c e f
  have := Runs.mulW (P := P) (w := w) (t := t) (t' := t') A hx hy d b c e f
  rw [this]
  unfold u64
  rw [show (p.toNat : Int) * (q.toNat : Int) = ((p.toNat * q.toNat : Nat) : Int) by simp, wrap_u64_nat, UInt64.toNat_mul]
theorem Runs.shr64 {p : UInt64} {k : Nat} {ik : IntKind} {qi : Int} (A : Fr n a F D) (hx : ev F x = some (u64 p)) (hy : ev F y = some (.int ik qi)) (hq : qi = (k : Int)) (hk : k < 64) : Runs P a w (.binOp .shr t x y t') (u64 (p >>> UInt64.ofNat k)) := by
  subst hq
  intro _ _ _ _ _
  have h1 : ¬ ((k : Int) < 0) := by omega
  have h2 : min ((k : Int).toNat) IntKind.u64.bits = k := by simp [IntKind.bits]; omega
  simp only [execOp, A.ev hx, A.ev hy, u64, Sem.run_bind, eqGuard, binOp, Op.shift, if_neg h1, h2, Sem.run_pure, Result.andThen_ok]
  congr 2
  rw [UInt64.toNat_shiftRight, UInt64.toNat_ofNat']
  rw [show k % 2 ^ 64 % 64 = k by omega, Nat.shiftRight_eq_div_pow]
  rw [Int.fdiv_eq_ediv_of_nonneg _ (by exact Int.le_of_lt (Int.pow_pos (by decide)))]
  simp
theorem Runs.shl64 {p : UInt64} {k : Nat} {ik : IntKind} {qi : Int} (A : Fr n a F D) (hx : ev F x = some (u64 p)) (hy : ev F y = some (.int ik qi)) (hq : qi = (k : Int)) (hk : k < 64) : Runs P a w (.binOp .shl t x y t') (u64 (p <<< UInt64.ofNat k)) := by
  subst hq
  intro _ _ _ _ _
  have h1 : ¬ ((k : Int) < 0) := by omega
  have h2 : min ((k : Int).toNat) IntKind.u64.bits = k := by simp [IntKind.bits]; omega
  simp only [execOp, A.ev hx, A.ev hy, u64, Sem.run_bind, eqGuard, binOp, Op.shift, if_neg h1, h2, Sem.run_pure, Result.andThen_ok]
  congr 2
  rw [UInt64.toNat_shiftLeft, UInt64.toNat_ofNat']
  rw [show k % 2 ^ 64 % 64 = k by omega, Nat.shiftLeft_eq]
  rw [show (p.toNat : Int) * 2 ^ k = ((p.toNat * 2 ^ k : Nat) : Int) by simp, wrap_u64_nat]
  rfl
theorem Runs.conv {k k' : IntKind} {src dst : Nat} {p : Int} [hs : IntC P src k'] [hd : IntC P dst k] (A : Fr n a F D) (hx : ev F x = some (.int k' p)) : Runs P a w (.convert src dst x) (.int k (k.wrap p)) := by
  intro _ _ _ _ _
  simp only [execOp, convert, A.ev hx, Sem.run_bind, run_underlying hs.h, run_underlying hd.h, Result.andThen_ok, Conv.intToInt, Sem.run_pure]
theorem Runs.convTo64 {k' : IntKind} {src dst : Nat} {pi : Int} {p : Nat} [hs : IntC P src k'] [hd : IntC P dst .u64] (A : Fr n a F D) (hx : ev F x = some (.int k' pi)) (hp : pi = (p : Int)) : Runs P a w (.convert src dst x) (u64 (UInt64.ofNat p)) := by
  subst hp
  intro d b c e f
  have := Runs.conv (P := P) (w := w) (src := src) (dst := dst) A hx d b c e f
  rw [this]
  unfold u64
  rw [wrap_u64_nat, UInt64.toNat_ofNat']
theorem Runs.convN {k k' : IntKind} {src dst : Nat} {p : Int} [hs : IntC P src k'] [hd : IntC P dst k] (A : Fr n a F D) (hx : ev F x = some (.int k' p)) (hw : k.wrap p = p) : Runs P a w (.convert src dst x) (.int k p) := by
  have := Runs.conv (P := P) (w := w) (src := src) (dst := dst) A hx
  rwa [hw] at this
theorem Runs.half {pi : Int} {p : Nat} {ik : IntKind} (A : Fr n a F D) (hx : ev F x = some (.int .u64 pi)) (hy : ev F y = some (.int ik 1)) (hp : pi = (p : Int)) : Runs P a w (.binOp .shr t x y t') (.int .u64 ((p / 2 : Nat) : Int)) := by
  subst hp
  intro _ _ _ _ _
  have h2 : min ((1 : Int).toNat) IntKind.u64.bits = 1 := by decide
  simp only [execOp, A.ev hx, A.ev hy, Sem.run_bind, eqGuard, binOp, Op.shift, show ¬ ((1 : Int) < 0) by omega, if_false, h2, Sem.run_pure, Result.andThen_ok]
  rw [Int.fdiv_eq_ediv_of_nonneg _ (by decide)]
  simp
theorem Runs.min2 {k : IntKind} {p q : Int} {tys : Array TypeId} (A : Fr n a F D) (hx : ev F x = some (.int k p)) (hy : ev F y = some (.int k q)) : Runs P a w (.call { callee := .builtin .min, args := #[x, y], argTypes := tys }) (.int k (if q < p then q else p)) := by
  intro _ _ _ _ _
  simp [execOp, resolve, invoke, builtin, A.ev hx, A.ev hy, Builtin.min_, Builtin.min2]
theorem cutAd_some {b o cap lo k : Nat} (h : lo < cap) : cutAd (some ⟨b, o, none⟩) cap lo k = some ⟨b, o + lo * k, none⟩ := by
  unfold cutAd
  simp [show ¬ (cap = lo) by omega, show ¬ (cap - lo = 0) by omega, addr_add]
end
/-! ### Cuts of slices that are read -/
theorem Slc.cut {m : Mem} {size n c : Nat} {ad : Option Addr} {xs : List Value} (h : Slc m size ad n c xs) {lo hi : Nat} (hlo : lo ≤ hi) (hhi : hi ≤ n) : Slc m size (cutAd ad c lo size) (hi - lo) (c - lo) ((xs.drop (lo * size)).take ((hi - lo) * size)) := by
  obtain ⟨h1, h2, h3, h4⟩ := h
  refine ⟨?_, by omega, by omega, fun hn => ?_⟩
  · rw [List.length_take, List.length_drop, h1, ← Nat.sub_mul]
    exact Nat.min_eq_left (Nat.mul_le_mul_right _ (by omega))
  · obtain ⟨b, off, cs, rfl, h5, h6⟩ := h4 (by omega)
    refine ⟨b, off + lo * size, cs, cutAd_some (by omega), h5, ?_⟩
    rw [← h6, List.drop_take, List.drop_drop, List.take_take]
    congr 1
    rw [← Nat.sub_mul]
    exact (Nat.min_eq_left (Nat.mul_le_mul_right _ (by omega))).symm
theorem Slc.lo {m : Mem} {size n c : Nat} {ad : Option Addr} {xs : List Value} (h : Slc m size ad n c xs) {lo : Nat} (hlo : lo ≤ n) : Slc m size (cutAd ad c lo size) (n - lo) (c - lo) (xs.drop (lo * size)) := by
  have := h.cut hlo (Nat.le_refl n)
  rwa [List.take_of_length_le (by rw [List.length_drop, h.1, Nat.sub_mul]; exact Nat.le_refl _)] at this
theorem Slc.hi {m : Mem} {size n c : Nat} {ad : Option Addr} {xs : List Value} (h : Slc m size ad n c xs) {hi : Nat} (hhi : hi ≤ n) : Slc m size (cutAd ad c 0 size) hi c (xs.take (hi * size)) := by
  have := h.cut (Nat.zero_le hi) hhi
  simpa using this
end Sl
end Go.Proofs.YtanhehbfbakdcaaGreatDoor
