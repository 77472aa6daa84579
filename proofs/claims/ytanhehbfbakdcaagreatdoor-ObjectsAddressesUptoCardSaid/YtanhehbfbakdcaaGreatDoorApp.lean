/- Appends of slices that are read. Own work; nothing about a program stands here. -/
import Derived.Test.YtanhehbfbakdcaaGreatDoorObj
namespace Go.Proofs.YtanhehbfbakdcaaGreatDoor
namespace Sl
open Go Go.RowKit
section
variable {P : Program} {ops : Array Oper} {Q : Exit → Act → World → Prop} {n : Nat} {a : Act} {w w0 : World} {F : List (Nat × Value)} {D : List Deferred} {m : Mem} {L L' : List Res} {rest : List Oper}
variable {d t : Nat} {pos : String} {after : Array Edge} {x y : Operand}
theorem Runs.appendNil {e size k c cq : Nat} {ad : Option Addr} (A : Fr n a F D) (hx : ev F x = some (.slice ad k c)) (hy : ev F y = some (.slice none 0 cq)) [hs : SlC P t e size] (hkc : k ≤ c) :
    Runs P a w (.call { callee := .builtin .append, args := #[x, y], argTypes := #[t, t] }) (.slice ad k c) := by
  intro _ _ _ _ _
  obtain ⟨q, h2, h3, h4⟩ := slEl_spec hs.h
  cases ad <;> simp [execOp, resolve, invoke, builtin, A.ev hx, A.ev hy, Builtin.append_, run_underlying h2, sizeOf, typeInfo, h3, Builtin.lenOf, Builtin.firstCells, hkc, storeCells]
theorem step_appendR {e size k c by_ q cq ts : Nat} {ag : Bool} {zs xs news : List Value} {ad ad2 : Option Addr} (A : Fr n a F D) (H : St w0 w m L) (hx : ev F x = some (.slice ad k c)) (hy : ev F y = some (.slice ad2 q cq)) (hS : Slc m size ad2 q cq news) (h1 : news.all (·.oneCell') = true)
    [hr : HasRow L e size ad k c xs L'] [hs : SlC P t e size] [T : TyC P e ag size by_ zs] (hsz : 0 < size) (hby : (k + q) * by_ ≤ 140737488355328) (hln : k + q ≤ maxLen) (hzl : Nat.beq zs.length size = true) (hd : Nat.blt d n = true)
    (K : ∀ ad' c' a' w', Fr n a' ((d, .slice ad' (k + q) c') :: F) D → St w0 w' m (row e size ad' (k + q) c' (xs ++ news) :: L') → wpList P ops Q rest a' w') :
    wpList P ops Q (⟨some d, .call { callee := .builtin .append, args := #[x, y], argTypes := #[t, t] }, ts, pos, after, none⟩ :: rest) a w := by
  have HR : St w0 w m (row e size ad k c xs :: L') := H.perm hr.p
  cases ad2 with
  | none =>
    have hq : q = 0 := by
      rcases Nat.eq_zero_or_pos q with h | h
      · exact h
      · obtain ⟨b, off, cs, e1, _⟩ := hS.2.2.2 h; cases e1
    subst hq
    have hn : news = [] := List.eq_nil_of_length_eq_zero (by simpa using hS.1)
    subst hn
    refine stepW (Runs.appendNil A hx hy HR.row_len.2.1) A hd fun a' A' => ?_
    rw [List.append_nil] at K
    exact K ad c a' w A' HR
  | some ad2 =>
    obtain ⟨i, z, g1, g2, g3, g4, g5⟩ := T.h.info
    obtain ⟨q0, j1, j2, j3⟩ := slEl_spec hs.h
    have hcell : ∀ j u, news[j]? = some u → w.cell? (ad2.add j) = some u := by
      intro j u hj
      have hjl : j < news.length := (List.getElem?_eq_some_iff.1 hj).1
      have hq : 0 < q := by
        rcases Nat.eq_zero_or_pos q with h | h
        · subst h; have := hS.1; rw [Nat.zero_mul] at this; omega
        · exact h
      obtain ⟨b, off, cs, e1, hf, hcs⟩ := hS.at_ hq
      cases e1
      rw [addr_add, H.cell (Blk.fz hf.h)]
      rw [hcs j (by rw [← hS.1]; exact hjl)]
      exact hj
    refine wpList_append_own_at w rfl x y t rfl 0 e i z size by_ j1 g1 g4 g2 g3 (by have := Nat.eq_of_beq_eq_true hzl; rw [← this, ← g5]; simp) hsz _ k xs (A.ev hx) HR.row_owns ad2 q cq news (A.ev hy) hS.1 hcell (fun u hu => (List.all_eq_true.1 h1) u hu) hln hby (Nat.zero_le _) ?_
    intro v' w' ho hg _ hat
    obtain ⟨ad', c', rfl, H'⟩ := HR.row_grown ho hg hat
    exact K ad' c' _ w' (A.put hd _) H'
section
variable {f : Nat} {xs : List Operand} {vs : List Value} {tys : Array TypeId} {cap : List Value} {Lc Lf : List Res}
theorem step_cloF {R : Mem → Value → Prop} [hf : FnC P f] (A : Fr n a F D) (hc : ev F x = some (.func (.func f) #[] cap.toArray)) (hx : evs F xs = some vs) (hd : Nat.blt d n = true) (S : Spec P f (vs ++ cap).toArray m [] (RetF R)) (H : St w0 w m L)
    (k : ∀ v a' w' m', Le m m' → R m' v → Fr n a' ((d, v) :: F) D → St w0 w' m' L → wpList P ops Q rest a' w') :
    wpList P ops Q (⟨some d, .call { callee := .value x, args := xs.toArray, argTypes := tys }, t, pos, after, none⟩ :: rest) a w :=
  step_clo A hc hx hd S H fun v a' w' m' _ hm ⟨h1, h2⟩ A' H' => k v a' w' m' hm h2 A' (by subst h1; exact H')
theorem step_cloFG {R : Mem → Value → Prop} {j dj : Nat} {want b : Bool} [hf : FnC P f] (hj : (ops[j]?).bind (·.dst) = some dj) (hv : lk F dj = some (.bool b)) (hb : b = want) (A : Fr n a F D) (hc : ev F x = some (.func (.func f) #[] cap.toArray)) (hx : evs F xs = some vs) (hd : Nat.blt d n = true) (S : Spec P f (vs ++ cap).toArray m [] (RetF R)) (H : St w0 w m L)
    (k : ∀ v a' w' m', Le m m' → R m' v → Fr n a' ((d, v) :: F) D → St w0 w' m' L → wpList P ops Q rest a' w') :
    wpList P ops Q (⟨some d, .call { callee := .value x, args := xs.toArray, argTypes := tys }, t, pos, after, some (j, want)⟩ :: rest) a w := by
  refine wpList_step fun K hK => ?_
  rw [if_pos (by rw [wanted_of (ops := ops) rfl A hj hv, hb]; simp)]
  exact oper_call (clo_runs A hc hx _ _ _ _ _) rfl S H fun v w' m' L' hm ⟨h1, h2⟩ H' => hK _ _ (k v _ w' m' hm h2 (A.put hd v) (by subst h1; exact H'))
end
theorem OR.one {m : Mem} : ∀ {xs : List Value} {l : List Obj}, OR m xs l → xs.all (·.oneCell') = true
  | [], _, _ => rfl
  | [_], _, h => (by cases h)
  | _ :: _ :: _, [], h => h.elim
  | a :: v :: xs, o :: l, ⟨h1, h2, h3⟩ => by
    obtain ⟨ad, n, c, h4, _⟩ := h2
    subst h1; subst h4
    simp only [List.all_cons, OR.one h3, Bool.and_true]
    rfl
theorem u8_one (l : List UInt8) : (l.map u8).all (·.oneCell') = true := by simp [u8, Value.oneCell']
theorem u64_one (l : List UInt64) : (l.map u64).all (·.oneCell') = true := by simp [u64, Value.oneCell']
theorem St.row_objs {e n c : Nat} {ad : Option Addr} {xs : List Value} {l : List Obj} (H : St w0 w m (row e 2 ad n c xs :: L)) (h : OR m xs l) : ∃ m', Le m m' ∧ Objs m' ad l.length c l ∧ St w0 w m' L := by
  have hl := H.row_len
  have h2 := h.len
  have hn : n = l.length := by omega
  subst hn
  obtain ⟨m', h3, h4, h5⟩ := H.row_freeze
  exact ⟨m', h3, ⟨rfl, xs, h4, h.mono h3⟩, h5⟩
end
end Sl
end Go.Proofs.YtanhehbfbakdcaaGreatDoor
