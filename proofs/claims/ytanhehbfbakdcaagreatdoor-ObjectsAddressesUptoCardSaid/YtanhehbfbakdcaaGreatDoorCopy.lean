/- copy, append of zeros, overlaps. Own work; nothing about a program stands here. -/
import Derived.Test.YtanhehbfbakdcaaGreatDoorApp
import Derived.Laws.CopyRow
import Derived.Laws.AppendOwn
import Derived.Lib.Overlaps
import Derived.Room.Entries
import Derived.Lib.SliceRun
set_option linter.unusedVariables false
set_option linter.unusedSimpArgs false
namespace Go.Proofs.YtanhehbfbakdcaaGreatDoor
namespace Sl
open Go Go.RowKit
theorem getN_of {cs : List Value} {o k : Nat} (h : o + k ≤ cs.length) : getN cs o k = some ((cs.drop o).take k) := by
  induction cs generalizing o k with
  | nil =>
    obtain ⟨rfl, rfl⟩ : o = 0 ∧ k = 0 := by simpa using h
    rfl
  | cons c cs ih =>
    cases o with
    | zero =>
      cases k with
      | zero => rfl
      | succ k => simp only [getN, ih (o := 0) (k := k) (by simp at h ⊢; omega)]; simp [consO]
    | succ o => simpa [getN] using ih (o := o) (k := k) (by simp at h ⊢; omega)
theorem setN_put {cs vs : List Value} {o : Nat} (h : o + vs.length ≤ cs.length) : setN cs o vs = some (cs.take o ++ vs ++ cs.drop (o + vs.length)) := by
  induction cs generalizing o vs with
  | nil =>
    obtain ⟨rfl, rfl⟩ : o = 0 ∧ vs = [] := by simpa using h
    simp [setN]
  | cons c cs ih =>
    cases o with
    | zero =>
      cases vs with
      | nil => simp [setN]
      | cons v vs =>
        have := ih (o := 0) (vs := vs) (by simp at *; omega)
        simp only [setN, this]
        simp [consO]
    | succ o =>
      have := ih (o := o) (vs := vs) (by simp at *; omega)
      have e : setN (c :: cs) (o + 1) vs = consO c (setN cs o vs) := by cases vs <;> rfl
      rw [e, this]
      simp [consO, Nat.add_right_comm]
section
variable {P : Program} {ops : Array Oper} {Q : Exit → Act → World → Prop} {n : Nat} {a : Act} {w w0 : World} {F : List (Nat × Value)} {D : List Deferred} {m : Mem} {L L' : List Res} {rest : List Oper}
variable {d t : Nat} {pos : String} {after : Array Edge} {x y : Operand}
theorem ofInt_u8 (p : UInt8) : BitVec.ofInt 8 (p.toNat : Int) = p.toBitVec := by
  rw [BitVec.ofInt_natCast]
  apply BitVec.eq_of_toNat_eq
  simp
theorem u8_lt (p : UInt8) : (p.toNat : Int) < 256 := by have := p.toNat_lt; omega
theorem bits8_xor (p q : UInt8) : Op.intBits .xor .u8 (p.toNat : Int) (q.toNat : Int) = (Pure.pure (u8 (p ^^^ q)) : Sem Value) := by
  show (Pure.pure (.int .u8 (IntKind.u8.wrap ((BitVec.ofInt 8 (p.toNat : Int) ^^^ BitVec.ofInt 8 (q.toNat : Int) : BitVec 8).toNat : Int))) : Sem Value) = _
  rw [ofInt_u8, ofInt_u8, ← UInt8.toBitVec_xor, wrap_u8 (by omega) (by exact u8_lt (p ^^^ q))]
  rfl
theorem Runs.xor8 {t t' : Nat} {p q : UInt8} (A : Fr n a F D) (hx : ev F x = some (u8 p)) (hy : ev F y = some (u8 q)) : Runs P a w (.binOp .xor t x y t') (u8 (p ^^^ q)) := by
  intro _ _ _ _ _
  have h : binOp .xor t (.int .u8 (p.toNat : Int)) (.int .u8 (q.toNat : Int)) = Op.intBits .xor .u8 (p.toNat : Int) (q.toNat : Int) := rfl
  simp [execOp, A.ev hx, A.ev hy, u8, eqGuard, h, bits8_xor]
theorem wrap_u8_nat (q : Nat) : IntKind.u8.wrap (q : Int) = ((q % 256 : Nat) : Int) := by
  simp only [IntKind.wrap, IntKind.bits, IntKind.signed, Bool.false_and, Bool.false_eq_true, if_false]
  omega
theorem Runs.shl8 {t t' : Nat} {p : UInt8} {k : Nat} {ik : IntKind} {qi : Int} (A : Fr n a F D) (hx : ev F x = some (u8 p)) (hy : ev F y = some (.int ik qi)) (hq : qi = (k : Int)) (hk : k < 8) : Runs P a w (.binOp .shl t x y t') (u8 (p <<< UInt8.ofNat k)) := by
  subst hq
  intro _ _ _ _ _
  have h1 : ¬ ((k : Int) < 0) := by omega
  have h2 : min ((k : Int).toNat) IntKind.u8.bits = k := by simp [IntKind.bits]; omega
  simp only [execOp, A.ev hx, A.ev hy, u8, Sem.run_bind, eqGuard, binOp, Op.shift, if_neg h1, h2, Sem.run_pure, Result.andThen_ok]
  congr 2
  rw [UInt8.toNat_shiftLeft, UInt8.toNat_ofNat']
  rw [show k % 2 ^ 8 % 8 = k by omega, Nat.shiftLeft_eq]
  rw [show (p.toNat : Int) * 2 ^ k = ((p.toNat * 2 ^ k : Nat) : Int) by simp, wrap_u8_nat]
  rfl
theorem St.ne {b c : Nat} {o o' : Go.Obj} (H : St w0 w m (ob b o :: ob c o' :: L)) : b ≠ c := by
  obtain ⟨_, _, h, ⟨h1, h2, rfl, ⟨h3, h4, rfl, _, _, u'⟩, z, _⟩, _⟩ := H
  rintro rfl
  rcases z b with q | q
  · simp [single] at q
  · rw [u'] at q; simp [single] at q
theorem Runs.isNilL {t' e k l c n' c' : Nat} {ad : Option Addr} (A : Fr n a F D) (hx : ev F x = some (.slice ad l c)) (hy : ev F y = some (.slice none n' c')) [hs : SlC P t e k] : Runs P a w (.binOp .eql t x y t') (.bool ad.isNone) := by
  intro _ _ _ _ _
  obtain ⟨q, h2, h3, h4⟩ := slEl_spec hs.h
  have := Lib.run_eql_slice_nil (P := P) w t e ad l c n' c' h2
  simp only [execOp, A.ev hx, A.ev hy, Sem.run_bind, eqGuard]
  cases ad <;> simp [this]
theorem step_copy {e size ts tb g o dl dc b o2 sl sc q : Nat} {cs cs2 cs' vs : List Value} {tt : Nat} (A : Fr n a F D) (H : St w0 w m L) (hx : ev F x = some (.slice (some ⟨g, o, none⟩) dl dc)) (hy : ev F y = some (.slice (some ⟨b, o2, none⟩) sl sc))
    [hs : SlC P t e size] [hp : HasPt L g cs tb L'] [hb : BlkC m L b cs2] (hq : Nat.min sl dl = q) (hv : getN cs2 o2 (q * size) = some vs) (h1 : vs.all (·.oneCell') = true) (hw : setN cs o vs = some cs') (hd : Nat.blt d n = true)
    (K : ∀ a' w', Fr n a' ((d, .int .i64 q) :: F) D → St w0 w' m (pt g cs' tb :: L') → wpList P ops Q rest a' w') :
    wpList P ops Q (⟨some d, .call { callee := .builtin .copy, args := #[x, y], argTypes := #[t, tt] }, ts, pos, after, none⟩ :: rest) a w := by
  have H' : St w0 w m (pt g cs tb :: L') := H.perm hp.p
  have hg := H'.block
  obtain ⟨q0, j1, j2, j3⟩ := slEl_spec hs.h
  obtain ⟨v1, v2⟩ := getN_some hv
  obtain ⟨s1, s2⟩ := setN_some hw
  have hlen : vs.length = q * size := by rw [v2, List.length_take, List.length_drop]; omega
  have hl : (loadCells ⟨b, o2, none⟩ (q * size)).run P w = .ok vs.toArray w := by
    rw [← hlen]
    refine run_loadCells_list (P := P) w ⟨b, o2, none⟩ vs fun j v hj => ?_
    rw [addr_add, H.cell hb.h]
    rw [v2, List.getElem?_take] at hj
    split at hj
    · rwa [List.getElem?_drop] at hj
    · cases hj
  have hst : (storeCells ⟨g, o, none⟩ vs 0).run P w = .ok () (w.setRow g cs'.toArray) := by
    have := run_storeCells_at (P := P) g o tb vs 0 cs.toArray w hg (by simpa using s1) (by simpa using h1)
    rw [this, s2]; simp
  have hrun : (execOp a.eval ⟨some d, .call { callee := .builtin .copy, args := #[x, y], argTypes := #[t, tt] }, ts, pos, after, none⟩).run P w = .ok (.value (.int .i64 q)) (w.setRow g cs'.toArray) := by
    simp [execOp, resolve, invoke, builtin, A.ev hx, A.ev hy, Builtin.copy_, run_underlying j1, Builtin.lenOf, Builtin.firstCells, sizeOf, typeInfo, j2, j3, hq, hl, hst, goInt]
  refine wpList_plain rfl fun K' hK => ?_
  unfold Oper.wp
  rw [hrun]
  exact hK _ _ (K _ _ (A.put hd _) (H'.update ⟨rfl, rfl, rfl, by simp⟩ (setRow_heap w g _ _ _ _ hg) fun j hj _ => setRow_other w g j _ hj))
theorem step_appendZ {e size by_ ts t2 b off k c z : Nat} {ag : Bool} {ik : IntKind} {zs cs old : List Value} (A : Fr n a F D) (H : St w0 w m L) (hx : ev F x = some (.slice (some ⟨b, off, none⟩) k c)) (hy : ev F y = some (.int .i64 z))
    [hs : SlC P t e size] [T : TyC P e ag size by_ zs] [hi2 : IntC P t2 ik] [hb : BlkC m L b cs] (hv : getN cs off (k * size) = some old) (hc : c < k + z) (hz : 0 < z) (hsz : 0 < size) (hzl : Nat.beq zs.length size = true) (hln : k + z ≤ maxLen) (hby : (k + z) * by_ ≤ 140737488355328) (hd : Nat.blt d n = true)
    (K : ∀ g c' rst a' w', k + z ≤ c' → c' ≤ maxLen → rst.length = (c' - k) * size → Fr n a' ((d, .slice (some ⟨g, 0, none⟩) (k + z) c') :: F) D → St w0 w' m (pt g (old ++ rst) e :: L) → wpList P ops Q rest a' w') :
    wpList P ops Q (⟨some d, .call { callee := .builtin .append, args := #[x, y], argTypes := #[t, t2] }, ts, pos, after, none⟩ :: rest) a w := by
  obtain ⟨i, z0, g1, g2, g3, g4, g5⟩ := T.h.info
  obtain ⟨q0, j1, j2, j3⟩ := slEl_spec hs.h
  obtain ⟨v1, v2⟩ := getN_some hv
  have hzs : z0.cells.size = size := by have := Nat.eq_of_beq_eq_true hzl; rw [← this, ← g5]; simp
  have hlen : old.length = k * size := by rw [v2, List.length_take, List.length_drop]; omega
  have hl : (loadCells ⟨b, off, none⟩ (k * size)).run P w.drew = .ok old.toArray w.drew := by
    rw [← hlen]
    refine run_loadCells_list (P := P) w.drew ⟨b, off, none⟩ old fun j v hj => ?_
    have hcell : w.drew.cell? ⟨b, off + j, none⟩ = w.cell? ⟨b, off + j, none⟩ := rfl
    rw [addr_add, hcell, H.cell hb.h]
    rw [v2, List.getElem?_take] at hj
    split at hj
    · rwa [List.getElem?_drop] at hj
    · cases hj
  have hneed : ¬ (k + z ≤ c) := by omega
  have hln' : k + z ≤ 9223372036854775807 := hln
  have hw : IntKind.i64.wrap (z : Int) = z := by rw [IntKind.wrap_i64]; omega
  have hneg : ¬ ((z : Int) < 0) := by omega
  have hns : ¬ (z * size = 0) := Nat.mul_ne_zero (by omega) (by omega)
  have hfit : Builtin.nextslicecap (k + z) c * by_ ≤ 281474976710656 := by
    have h1 := Nat.mul_le_mul_right by_ (Go.Room.nextslicecap_le' hc)
    have h2 : 2 * (k + z) * by_ = 2 * ((k + z) * by_) := Nat.mul_assoc _ _ _
    omega
  have h48' : ¬ (281474976710656 < Builtin.nextslicecap (k + z) c * by_) := by omega
  have hzb : z * by_ ≤ (k + z) * by_ := Nat.mul_le_mul_right _ (by omega)
  have h48i : ¬ (281474976710656 < (z : Int) * (by_ : Int)) := by rw [← Int.natCast_mul]; omega
  have h63' : ¬ (9223372036854775807 < ((k : Int) + (z : Int))) := by omega
  have hge := grownCap_ge w (k + z) c e
  have hcm := grownCap_le_maxLen w (k + z) c e hln
  have hrun : (execOp a.eval ⟨some d, .call { callee := .builtin .append, args := #[x, y], argTypes := #[t, t2] }, ts, pos, after, none⟩).run P w =
      .ok (.value (.slice (some ⟨w.heap.size, 0, none⟩) (k + z) (grownCap w (k + z) c e))) (w.drew.alloc (.cells (old.toArray ++ (Builtin.zeroCells z0.cells z ++ Builtin.zeroCells z0.cells (grownCap w (k + z) c e - (k + z)))) e)) := by
    simp [execOp, resolve, invoke, builtin, A.ev hx, A.ev hy, Builtin.append_, run_underlying j1, run_underlying hi2.h, sizeOf, typeInfo, zeroValue, g1, g2, g3, g4, asInt, asIntOf, hw, hneg, hneed, hns, h48', h48i, h63', Builtin.firstCells, hl, Question.forced, newRow, grownCap]
  refine wpList_plain rfl fun K' hK => ?_
  unfold Oper.wp
  rw [hrun]
  refine hK _ _ (K w.heap.size (grownCap w (k + z) c e) (Builtin.zeroCells z0.cells z ++ Builtin.zeroCells z0.cells (grownCap w (k + z) c e - (k + z))).toList _ _ hge hcm ?_ (A.put hd _) ?_)
  · simp only [Array.toList_append, List.length_append, Array.length_toList, size_zeroCells, hzs, ← Nat.add_mul]
    congr 1; omega
  · have H2 : St w0 w.drew m L := H.drewN _
    have H3 := H2.alloc (.cells (old.toArray ++ (Builtin.zeroCells z0.cells z ++ Builtin.zeroCells z0.cells (grownCap w (k + z) c e - (k + z)))) e)
    have e1 : (old ++ (Builtin.zeroCells z0.cells z ++ Builtin.zeroCells z0.cells (grownCap w (k + z) c e - (k + z))).toList).toArray = old.toArray ++ (Builtin.zeroCells z0.cells z ++ Builtin.zeroCells z0.cells (grownCap w (k + z) c e - (k + z))) := by
      apply Array.ext'; simp
    unfold pt
    rw [e1]
    exact H3
/-- overlaps of two slices in two blocks of one's own -/
theorem step_overlaps {e size f ts tR b off n1 c1 g o n2 c2 tb tg : Nat} {fn : Func} {cs cg : List Value} {tys : Array TypeId} {L1 L2 : List Res} (A : Fr n a F D) (H : St w0 w m L) (hx : ev F x = some (.slice (some ⟨b, off, none⟩) n1 c1)) (hy : ev F y = some (.slice (some ⟨g, o, none⟩) n2 c2))
    [hs : SlC P t e size] [h1 : HasPt L b cs tb L1] [h2 : HasPt L1 g cg tg L2] (hf : P.funcs[f]? = some fn) (hname : (fn.name == "runtime.NumGoroutine") = false) (hb : fn.body.isNone = true) (hn : Extern.findNext fn = none) (he : Extern.find fn = some (Extern.SlicesOverlaps.overlaps #[t, t] #[tR])) (hcg : 0 < cg.length) (hd : Nat.blt d n = true)
    (K : ∀ a', Fr n a' ((d, .bool false) :: F) D → wpList P ops Q rest a' w) :
    wpList P ops Q (⟨some d, .call { callee := .value (.func f), args := #[x, y], argTypes := tys }, ts, pos, after, none⟩ :: rest) a w := by
  have Hb := H.perm h1.p
  have HH := H.perm (h1.p.trans (h2.p.cons _))
  have hne := HH.ne
  have hbb := Hb.block
  have hgg : w.heap[g]? = some (.cells cg.toArray tg (0, 0)) := (H.perm (h1.p.trans ((h2.p.cons _).trans (List.Perm.swap _ _ _)))).block
  obtain ⟨q0, j1, j2, j3⟩ := slEl_spec hs.h
  have hsz : ∀ w, (Go.sizeOf e).run P w = .ok size w := fun w => by simp [sizeOf, typeInfo, j2, j3]
  have hr := Lib.run_overlaps_apart w t tR e j1 size hsz ⟨b, off, none⟩ ⟨g, o, none⟩ n1 c1 n2 c2 hne tb tg cs.length cg.length (by simp [World.shape?, hbb]) (by simp [World.shape?, hgg]) (by omega) (by simp [World.frozen?, hbb]) (by simp [World.frozen?, hbb])
  have hrun : (execOp a.eval ⟨some d, .call { callee := .value (.func f), args := #[x, y], argTypes := tys }, ts, pos, after, none⟩).run P w = .ok (.value (.bool false)) w := by
    simp only [execOp, resolve, Act.eval, Deferred.ofValue]
    simp [invoke, Sem.run_bind, run_callFunc_extern hf hname hb hn he, A.ev hx, A.ev hy, hr]
  refine wpList_plain rfl fun K' hK => ?_
  unfold Oper.wp
  rw [hrun]
  exact hK _ _ (K _ (A.put hd _))
/-! ### rows, seen as blocks -/
theorem St.row_block {e size k c : Nat} {ad : Option Addr} {xs : List Value} (H : St w0 w m (row e size ad k c xs :: L)) (hk : 0 < c) : ∃ g cur, ad = some ⟨g, 0, none⟩ ∧ xs.length = k * size ∧ k ≤ c ∧ c ≤ maxLen ∧ cur.length = c * size ∧ cur.take (k * size) = xs ∧ St w0 w m (pt g cur e :: L) := by
  obtain ⟨a, b, h, ⟨k1, k2, ⟨h1, hx⟩, y, z, u⟩, d⟩ := H
  rcases hx with ⟨rfl, rfl, rfl, _⟩ | ⟨g, cur, rfl, e3, e4, e5, e6, rfl⟩
  · omega
  · exact ⟨g, cur.toList, rfl, h1, e3, e4, by simpa using e5, e6, a, b, h, ⟨_, k2, rfl, y, z, u⟩, d⟩
theorem St.block_row {e size k c g : Nat} {cur xs : List Value} (H : St w0 w m (pt g cur e :: L)) (h1 : xs.length = k * size) (h2 : k ≤ c) (h3 : c ≤ maxLen) (h4 : cur.length = c * size) (h5 : cur.take (k * size) = xs) : St w0 w m (row e size (some ⟨g, 0, none⟩) k c xs :: L) :=
  H.mapHead fun h hh => ⟨h1, .inr ⟨g, cur.toArray, rfl, h2, h3, by simpa using h4, by simpa using h5, hh⟩⟩
end
end Sl
end Go.Proofs.YtanhehbfbakdcaaGreatDoor
