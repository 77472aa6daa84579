/- Slices: rows that are owned and grow by append; slices that are frozen and read. Own work; nothing about a program stands here. -/
import Derived.Test.YtanhehbfbakdcaaGreatDoorSteps
namespace Go.Proofs.YtanhehbfbakdcaaGreatDoor
namespace Sl
open Go Go.RowKit

/-- An owned row: the slice (ad, n, c) begins at the head of a block of its own, whose first cells are xs. -/
def row (e size : Nat) (ad : Option Addr) (n c : Nat) (xs : List Value) : Res := fun h => xs.length = n * size ∧
  ((ad = none ∧ n = 0 ∧ c = 0 ∧ ∀ b, h b = none) ∨ ∃ g cur, ad = some ⟨g, 0, none⟩ ∧ n ≤ c ∧ c ≤ maxLen ∧ cur.size = c * size ∧ cur.toList.take (n * size) = xs ∧ h = single g (.cells cur e (0, 0)))
/-- A slice that is read: frozen cells. -/
def Slc (m : Mem) (size : Nat) (ad : Option Addr) (n c : Nat) (xs : List Value) : Prop := xs.length = n * size ∧ n ≤ c ∧ c ≤ maxLen ∧
  (0 < n → ∃ b off cs, ad = some ⟨b, off, none⟩ ∧ fz m b cs ∧ (cs.drop off).take (n * size) = xs)
theorem Slc.mono {m m' : Mem} {size n c : Nat} {ad : Option Addr} {xs : List Value} (h : Slc m size ad n c xs) (k : Le m m') : Slc m' size ad n c xs :=
  ⟨h.1, h.2.1, h.2.2.1, fun hn => by obtain ⟨b, off, cs, h1, h2, h3⟩ := h.2.2.2 hn; exact ⟨b, off, cs, h1, h2.mono k, h3⟩⟩
theorem Slc.nil (m : Mem) (size : Nat) (ad : Option Addr) (c : Nat) (hc : c ≤ maxLen) : Slc m size ad 0 c [] := ⟨by simp, Nat.zero_le _, hc, fun h => absurd h (by omega)⟩
theorem Slc.at_ {m : Mem} {size n c : Nat} {ad : Option Addr} {xs : List Value} (h : Slc m size ad n c xs) (hn : 0 < n) : ∃ b off cs, ad = some ⟨b, off, none⟩ ∧ Fz m b cs ∧ ∀ j, j < n * size → cs[off + j]? = xs[j]? := by
  obtain ⟨b, off, cs, h1, h2, h3⟩ := h.2.2.2 hn
  refine ⟨b, off, cs, h1, ⟨h2⟩, fun j hj => ?_⟩
  rw [← h3, List.getElem?_take_of_lt hj, List.getElem?_drop]

section
variable {w0 w : World} {m : Mem} {L : List Res}
theorem St.row_nil (H : St w0 w m L) (e size : Nat) : St w0 w m (row e size none 0 0 [] :: L) := by
  obtain ⟨a, b, h, y, d⟩ := H
  exact ⟨a, b, h, ⟨fun _ => none, h, ⟨by simp, .inl ⟨rfl, rfl, rfl, fun _ => rfl⟩⟩, y, fun _ => .inl rfl, fun _ => by simp⟩, d⟩
theorem St.row_pt {b e size n : Nat} {cs : List Value} (H : St w0 w m (pt b cs e :: L)) (hl : cs.length = n * size) (hn : n ≤ maxLen) : St w0 w m (row e size (some ⟨b, 0, none⟩) n n cs :: L) :=
  H.mapHead fun h hh => ⟨hl, .inr ⟨b, cs.toArray, rfl, Nat.le_refl _, hn, by simpa using hl, by rw [← hl]; simp, hh⟩⟩
theorem St.row_len {e size n c : Nat} {ad : Option Addr} {xs : List Value} (H : St w0 w m (row e size ad n c xs :: L)) : xs.length = n * size ∧ n ≤ c ∧ c ≤ maxLen := by
  obtain ⟨_, _, _, ⟨_, _, ⟨h1, h2⟩, _⟩, _⟩ := H
  refine ⟨h1, ?_⟩
  rcases h2 with ⟨_, rfl, rfl, _⟩ | ⟨g, cur, _, a, b, _⟩
  · exact ⟨Nat.le_refl _, by unfold maxLen; omega⟩
  · exact ⟨a, b⟩
theorem St.row_freeze {e size n c : Nat} {ad : Option Addr} {xs : List Value} (H : St w0 w m (row e size ad n c xs :: L)) : ∃ m', Le m m' ∧ Slc m' size ad n c xs ∧ St w0 w m' L := by
  obtain ⟨h1, h2, h3⟩ := H.row_len
  have H0 := H
  obtain ⟨a, b, h, ⟨k1, k2, ⟨_, hx⟩, y, z, u⟩, d⟩ := H
  rcases hx with ⟨rfl, rfl, rfl, _⟩ | ⟨g, cur, rfl, _, _, e5, e6, rfl⟩
  · exact ⟨m, Le.refl m, ⟨h1, h2, h3, fun hn => absurd hn (by omega)⟩, H0.drop⟩
  · have H1 : St w0 w m (ob g (.cells cur e (0, 0)) :: L) := ⟨a, b, h, ⟨_, k2, rfl, y, z, u⟩, d⟩
    obtain ⟨m', g1, g2, g3⟩ := H1.freezeO
    exact ⟨m', g1, ⟨h1, h2, h3, fun _ => ⟨g, 0, cur.toList, rfl, ⟨e, (0, 0), by simpa using g2⟩, by simpa using e6⟩⟩, g3⟩
theorem St.row_owns {e size n c : Nat} {ad : Option Addr} {xs : List Value} (H : St w0 w m (row e size ad n c xs :: L)) : w.ownsRow 0 e size (.slice ad n c) n xs := by
  obtain ⟨_, _, h, ⟨k1, k2, ⟨h1, hx⟩, y, z, u⟩, d⟩ := H
  refine ⟨h1, ?_⟩
  rcases hx with ⟨rfl, rfl, rfl, _⟩ | ⟨g, cur, rfl, e3, e4, e5, e6, rfl⟩
  · exact .inl ⟨rfl, rfl⟩
  · refine .inr ⟨g, c, cur, rfl, Nat.zero_le _, ?_, e3, e4, e5, e6⟩
    exact (d g _ (by rw [u]; simp [single])).1
theorem St.row_grown {w' : World} {e size n c n' : Nat} {ad : Option Addr} {xs xs' : List Value} {v' : Value} (H : St w0 w m (row e size ad n c xs :: L)) (ho : w'.ownsRow 0 e size v' n' xs') (hg : w.grownBy w' (Value.slice ad n c).ownBlock)
    (hb : v'.ownBlock = (Value.slice ad n c).ownBlock ∨ v'.ownBlock = some w.heap.size) : ∃ ad' c', v' = .slice ad' n' c' ∧ St w0 w' m (row e size ad' n' c' xs' :: L) := by
  have hio : Kep w w' := ⟨hg.os, hg.tape, hg.output, hg.size⟩
  obtain ⟨o1, o2⟩ := ho
  -- first: the old row's block is forgotten, or turned
  have H0 := H
  obtain ⟨a, b, h, ⟨k1, k2, ⟨h1, hx⟩, y, z, u⟩, d⟩ := H
  rcases o2 with ⟨rfl, rfl⟩ | ⟨g', cap', cur', rfl, _, p2, p3, p4, p5, p6⟩
  · refine ⟨none, 0, rfl, ?_⟩
    have hx' : xs' = [] := List.eq_nil_of_length_eq_zero (by simpa using o1)
    subst hx'
    rcases hx with ⟨rfl, rfl, rfl, _⟩ | ⟨g, cur, rfl, e3, e4, e5, e6, rfl⟩
    · exact (H0.drop.same hio fun k hk => hg.block k hk (by simp [Value.ownBlock])).row_nil e size
    · rcases hb with hb | hb <;> simp [Value.ownBlock] at hb
  · refine ⟨some ⟨g', 0, none⟩, cap', rfl, ?_⟩
    have fin : ∀ {LL}, St w0 w' m (ob g' (.cells cur' e (0, 0)) :: LL) → St w0 w' m (row e size (some ⟨g', 0, none⟩) n' cap' xs' :: LL) := fun K => K.mapHead fun hh hp => ⟨o1, .inr ⟨g', cur', rfl, p3, p4, p5, p6, hp⟩⟩
    rcases hx with ⟨rfl, rfl, rfl, _⟩ | ⟨g, cur, rfl, e3, e4, e5, e6, rfl⟩
    · have hg' : g' = w.heap.size := by
        rcases hb with hb | hb
        · simp [Value.ownBlock] at hb
        · simpa [Value.ownBlock] using hb
      subst hg'
      exact fin (H0.drop.new hio p2 (Nat.le_refl _) fun k hk => hg.block k hk (by simp [Value.ownBlock]))
    · have H1 : St w0 w m (ob g (.cells cur e (0, 0)) :: L) := ⟨a, b, h, ⟨_, k2, rfl, y, z, u⟩, d⟩
      rcases hb with hb | hb
      · have : g' = g := by simpa [Value.ownBlock] using hb
        subst this
        exact fin (H1.update hio p2 fun k hk hk2 => hg.block k hk2 (by simpa [Value.ownBlock] using hk))
      · have : g' = w.heap.size := by simpa [Value.ownBlock] using hb
        subst this
        have hlt : g < w.heap.size := (Array.getElem?_eq_some_iff.1 H1.block).1
        -- the old block is dropped after being turned into whatever it is now
        have hgb : ∃ o, w'.heap[g]? = some o := by
          have : g < w'.heap.size := Nat.lt_of_lt_of_le hlt hg.size
          exact ⟨_, Array.getElem?_eq_getElem this⟩
        obtain ⟨o, ho⟩ := hgb
        have H2 : St w0 w' m (ob g o :: L) := H1.update hio ho fun k hk hk2 => hg.block k hk2 (by simpa [Value.ownBlock] using hk)
        obtain ⟨a2, b2, h2, c2, d2⟩ := H2.drop
        -- the new block, in w'
        have hm : m w.heap.size = none := by
          cases hh : m w.heap.size with
          | none => rfl
          | some o => exact absurd (Array.getElem?_eq_some_iff.1 (b _ _ hh)).1 (by omega)
        obtain ⟨_, _, h3, y3, d3⟩ := H0.drop
        have hn3 : h3 w.heap.size = none := by
          cases hh : h3 w.heap.size with
          | none => rfl
          | some o => exact absurd (Array.getElem?_eq_some_iff.1 (d3 _ _ hh).1).1 (by omega)
        -- what L owns is not g: from H1's disjointness
        have hk2g : k2 g = none := by
          rcases z g with q | q
          · simp [single] at q
          · exact q
        have hk2n : k2 w.heap.size = none := by
          cases hh : k2 w.heap.size with
          | none => rfl
          | some o =>
            have : h w.heap.size = some o := by rw [u]; simp [single, hh, show w.heap.size ≠ g by omega]
            exact absurd (Array.getElem?_eq_some_iff.1 (d _ _ this).1).1 (by omega)
        refine fin ⟨a.trans hio, b2, fun k => (single w.heap.size (.cells cur' e (0, 0)) k).or (k2 k), ⟨single w.heap.size _, k2, rfl, y, fun k => ?_, fun _ => rfl⟩, fun k o hk => ?_⟩
        · by_cases e : k = w.heap.size
          · subst e; exact .inr hk2n
          · exact .inl (by simp [single, e])
        · by_cases ek : k = w.heap.size
          · subst ek
            simp [single] at hk
            subst hk
            exact ⟨p2, hm⟩
          · have hk' : k2 k = some o := by simpa [single, ek] using hk
            have hkg : k ≠ g := fun e => by subst e; rw [hk2g] at hk'; cases hk'
            have hh : h k = some o := by rw [u]; simp [single, hkg, hk']
            have hd := d k o hh
            exact ⟨by rw [hg.block k (Array.getElem?_eq_some_iff.1 hd.1).1 (by simpa [Value.ownBlock] using hkg)]; exact hd.1, hd.2⟩
end

section
variable {P : Program} {n : Nat} {a : Act} {F : List (Nat × Value)} {D : List Deferred} {w0 w : World} {m : Mem} {L L' : List Res} {ops : Array Oper} {Q : Exit → Act → World → Prop} {rest : List Oper}
variable {d t : Nat} {pos : String} {after : Array Edge} {x y : Operand}
class HasRow (L : List Res) (e size : outParam Nat) (ad : Option Addr) (k : Nat) (c : Nat) (xs : outParam (List Value)) (L' : outParam (List Res)) : Prop where
  p : L.Perm (row e size ad k c xs :: L')
instance (priority := high) HasRow.head {e size k c : Nat} {ad : Option Addr} {xs : List Value} {L : List Res} : HasRow (row e size ad k c xs :: L) e size ad k c xs L := ⟨.refl _⟩
instance (priority := low) HasRow.tail {e size k c : Nat} {ad : Option Addr} {xs : List Value} {r : Res} {L L' : List Res} [h : HasRow L e size ad k c xs L'] : HasRow (r :: L) e size ad k c xs (r :: L') := ⟨(List.Perm.cons r h.p).trans (.swap _ _ _)⟩
/-- append of cells that lie in a block of their own, or are frozen -/
theorem step_append {e size k c by_ q cq ts : Nat} {ag : Bool} {zs xs news : List Value} {ad : Option Addr} {bb : Nat} (A : Fr n a F D) (H : St w0 w m L) (hx : ev F x = some (.slice ad k c)) (hy : ev F y = some (.slice (some ⟨bb, 0, none⟩) q cq))
    [hr : HasRow L e size ad k c xs L'] [hs : SlC P t e size] [T : TyC P e ag size by_ zs] [hb : BlkC m L bb news] (hq : news.length = q * size) (h1 : news.all (·.oneCell') = true) (hsz : 0 < size) (hby : (k + q) * by_ ≤ 140737488355328) (hln : k + q ≤ maxLen) (hzl : Nat.beq zs.length size = true) (hd : Nat.blt d n = true)
    (K : ∀ ad' c' a' w', Fr n a' ((d, .slice ad' (k + q) c') :: F) D → St w0 w' m (row e size ad' (k + q) c' (xs ++ news) :: L') → wpList P ops Q rest a' w') :
    wpList P ops Q (⟨some d, .call { callee := .builtin .append, args := #[x, y], argTypes := #[t, t] }, ts, pos, after, none⟩ :: rest) a w := by
  have HR : St w0 w m (row e size ad k c xs :: L') := H.perm hr.p
  obtain ⟨i, z, g1, g2, g3, g4, g5⟩ := T.h.info
  obtain ⟨q0, j1, j2, j3⟩ := slEl_spec hs.h
  refine wpList_append_own_at w rfl x y t rfl 0 e i z size by_ j1 g1 g4 g2 g3 (by have := Nat.eq_of_beq_eq_true hzl; rw [← this, ← g5]; simp) hsz _ k xs (A.ev hx) HR.row_owns ⟨bb, 0, none⟩ q cq news (A.ev hy) hq (fun j u hj => ?_) (fun u hu => (List.all_eq_true.1 h1) u hu) hln hby (Nat.zero_le _) ?_
  · rw [addr_add, H.cell hb.h]; simpa using hj
  · intro v' w' ho hg _ hat
    obtain ⟨ad', c', rfl, H'⟩ := HR.row_grown ho hg hat
    exact K ad' c' _ w' (A.put hd _) H'
end

/-! ### Which resources a call takes along -/
class HasRes (L : List Res) (r : Res) (L' : outParam (List Res)) : Prop where
  p : L.Perm (r :: L')
instance (priority := high) HasRes.head {r : Res} {L : List Res} : HasRes (r :: L) r L := ⟨.refl _⟩
instance (priority := low) HasRes.tail {r s : Res} {L L' : List Res} [h : HasRes L r L'] : HasRes (s :: L) r (s :: L') := ⟨(List.Perm.cons s h.p).trans (.swap _ _ _)⟩
class Sel (L : List Res) (Lc : List Res) (Lf : outParam (List Res)) : Prop where
  p : L.Perm (Lc ++ Lf)
instance Sel.nil {L : List Res} : Sel L [] L := ⟨.refl _⟩
instance Sel.cons {L L1 Lc Lf : List Res} {r : Res} [h : HasRes L r L1] [k : Sel L1 Lc Lf] : Sel L (r :: Lc) Lf := ⟨h.p.trans (k.p.cons r)⟩
theorem St.sel {w0 w : World} {m : Mem} {L Lc Lf : List Res} [h : Sel L Lc Lf] (H : St w0 w m L) : St w0 w m (Lc ++ Lf) := H.perm h.p
section
variable {P : Program} {n : Nat} {a : Act} {F : List (Nat × Value)} {D : List Deferred} {w0 w : World} {m m0 : Mem} {L Lc Lf : List Res} {ops : Array Oper} {Q : Exit → Act → World → Prop} {rest : List Oper}
variable {d t : Nat} {pos : String} {after : Array Edge} {xs : List Operand} {vs : List Value} {f : Nat} {tys : Array TypeId}
theorem step_callS {R : Mem → Value → List Res → Prop} [hf : FnC P f] [hs : Sel L Lc Lf] (A : Fr n a F D) (hx : evs F xs = some vs) (hd : Nat.blt d n = true) (S : Spec P f vs.toArray m Lc (RetV R)) (H : St w0 w m L)
    (k : ∀ v a' w' m' L', Le m m' → R m' v L' → Fr n a' ((d, v) :: F) D → St w0 w' m' (L' ++ Lf) → wpList P ops Q rest a' w') :
    wpList P ops Q (⟨some d, .call { callee := .value (.func f), args := xs.toArray, argTypes := tys }, t, pos, after, none⟩ :: rest) a w := step_call A hx hd S (H.perm hs.p) k
theorem step_callSG {R : Mem → Value → List Res → Prop} {j dj : Nat} {want b : Bool} [hf : FnC P f] [hs : Sel L Lc Lf] (hj : (ops[j]?).bind (·.dst) = some dj) (hv : lk F dj = some (.bool b)) (hb : b = want) (A : Fr n a F D) (hx : evs F xs = some vs) (hd : Nat.blt d n = true) (S : Spec P f vs.toArray m Lc (RetV R)) (H : St w0 w m L)
    (k : ∀ v a' w' m' L', Le m m' → R m' v L' → Fr n a' ((d, v) :: F) D → St w0 w' m' (L' ++ Lf) → wpList P ops Q rest a' w') :
    wpList P ops Q (⟨some d, .call { callee := .value (.func f), args := xs.toArray, argTypes := tys }, t, pos, after, some (j, want)⟩ :: rest) a w := step_callG hj hv hb A hx hd S (H.perm hs.p) k
theorem step_cloS {x : Operand} {cap : List Value} {R : Mem → Value → List Res → Prop} [hf : FnC P f] [hs : Sel L Lc Lf] (A : Fr n a F D) (hc : ev F x = some (.func (.func f) #[] cap.toArray)) (hx : evs F xs = some vs) (hd : Nat.blt d n = true) (S : Spec P f (vs ++ cap).toArray m Lc (RetV R)) (H : St w0 w m L)
    (k : ∀ v a' w' m' L', Le m m' → R m' v L' → Fr n a' ((d, v) :: F) D → St w0 w' m' (L' ++ Lf) → wpList P ops Q rest a' w') :
    wpList P ops Q (⟨some d, .call { callee := .value x, args := xs.toArray, argTypes := tys }, t, pos, after, none⟩ :: rest) a w := step_clo A hc hx hd S (H.perm hs.p) k
class SubA (L' Lf L : List Res) : Prop where
  h : SubH (L' ++ Lf) L
instance (priority := high) SubA.nil {Lf L : List Res} [k : SubH Lf L] : SubA [] Lf L := ⟨k⟩
instance (priority := default) SubA.keep {r : Res} {L' Lf L : List Res} [k : SubA L' Lf L] : SubA (r :: L') Lf (r :: L) := ⟨@SubH.keep r L (L' ++ Lf) k.h⟩
instance (priority := low) SubA.skip {r : Res} {L' Lf L : List Res} [k : SubA L' Lf L] : SubA L' Lf (r :: L) := ⟨@SubH.skip r L (L' ++ Lf) k.h⟩
/-- a return that hands resources back -/
theorem retV {fn : Func} {s : Nat} {v : Value} {L' : List Res} {R : Mem → Value → List Res → Prop} (A : Fr n a F []) (hr : fn.results = #[.tmp s]) (hv : lk F s = some v) (hM : Le m0 m) (H : St w0 w m L) (h : R m v L') [p : SubA L' Lf L] :
    bodyPost P fn (fun e w' => ∃ m' L', Le m0 m' ∧ RetV R m' e L' ∧ St w0 w' m' (L' ++ Lf)) .ret a w :=
  ret_tmp A hr hv ⟨m, L', hM, h, @St.subH _ _ _ _ _ p.h H⟩
theorem retV0 {fn : Func} {L' : List Res} {R : Mem → Value → List Res → Prop} (A : Fr n a F []) (hr : fn.results = #[]) (hM : Le m0 m) (H : St w0 w m L) (h : R m (.tuple #[]) L') [p : SubA L' Lf L] :
    bodyPost P fn (fun e w' => ∃ m' L', Le m0 m' ∧ RetV R m' e L' ∧ St w0 w' m' (L' ++ Lf)) .ret a w :=
  ret_none A hr ⟨m, L', hM, h, @St.subH _ _ _ _ _ p.h H⟩
theorem endV0 {fn : Func} {L' : List Res} {R : Mem → Value → List Res → Prop} (A : Fr n a F []) (hr : fn.results = #[]) (hM : Le m0 m) (H : St w0 w m L) (h : R m (.tuple #[]) L') [p : SubA L' Lf L] :
    bodyPost P fn (fun e w' => ∃ m' L', Le m0 m' ∧ RetV R m' e L' ∧ St w0 w' m' (L' ++ Lf)) .normal a w :=
  end_none A hr ⟨m, L', hM, h, @St.subH _ _ _ _ _ p.h H⟩

/-! ### Arrays in memory -/
class IntC (P : Program) (t : Nat) (k : outParam IntKind) : Prop where
  h : P.underlying t = some (.int k)
class ArrC (P : Program) (t : Nat) (len e k : outParam Nat) : Prop where
  u : P.underlying t = some (.array len e)
  s : (P.info? e).map (·.size) = some k
theorem Runs.indexArr {b off ty len e k : Nat} {x y : Operand} {i : Int} {ik : IntKind} (A : Fr n a F D) (hx : ev F x = some (.pointer (some ⟨b, off, none⟩))) (hy : ev F y = some (.int ik i)) [h : ArrC P ty len e k] (h0 : 0 ≤ i) (h1 : i < len) :
    Runs P a w (.indexAddr ty x y) (.pointer (some ⟨b, off + i.toNat * k, none⟩)) := by
  intro _ _ _ _ _
  have hs := h.s
  cases hq : P.info? e with
  | none => simp [hq] at hs
  | some q =>
    have h4 : q.size = k := by simpa [hq] using hs
    have hand : 0 ≤ i ∧ i < len := ⟨h0, h1⟩
    simp [execOp, A.ev hx, A.ev hy, Instr.indexAt, Instr.sureAddr, asIntOf, Sem.run_bind, run_underlying h.u, sizeOf, typeInfo, hq, h4, hand, addr_add]
theorem Runs.indexArrV {ty len e : Nat} {x y : Operand} {i : Int} {ik : IntKind} {cs : List Value} {v : Value} (A : Fr n a F D) (hx : ev F x = some (.agg cs.toArray)) (hy : ev F y = some (.int ik i)) [h : ArrC P ty len e 1] {bytes : Nat} {zs : List Value} [T : TyC P e false 1 bytes zs] (h0 : 0 ≤ i) (h1 : i < len) (hv : cs[i.toNat]? = some v) :
    Runs P a w (.index ty x y) v := by
  intro _ _ _ _ _
  have hand : 0 ≤ i ∧ i < len := ⟨h0, h1⟩
  simp [execOp, A.ev hx, A.ev hy, Instr.index, asIntOf, Sem.run_bind, run_underlying h.u, T.h.runSize, part, T.h.runAgg, hand, hv]
theorem Runs.addK {k : IntKind} {p q r : Int} {x y : Operand} {ty ty' : Nat} (A : Fr n a F D) (hx : ev F x = some (.int k p)) (hy : ev F y = some (.int k q)) (h : k.wrap (p + q) = r) : Runs P a w (.binOp .add ty x y ty') (.int k r) := by subst h; exact Runs.addW A hx hy
theorem Runs.sliceN {ty lo hi : Nat} {s : ByteArray} {x y z : Operand} {p q : Int} {k k' : IntKind} (A : Fr n a F D) (hx : ev F x = some (.string s)) (hy : ev F y = some (.int k p)) (hz : ev F z = some (.int k' q)) [ht : StrC P ty] (hp : p = (lo : Int)) (hq : q = (hi : Int)) (h1 : lo ≤ hi) (h2 : hi ≤ s.size) :
    Runs P a w (.slice ty x (some y) (some z) none) (.string (s.extract lo hi)) := by
  subst hp; subst hq
  have := Runs.sliceS (w := w) A hx hy hz ht.h (by omega) (by omega) (by omega)
  simpa using this
theorem Runs.sliceNlo {ty lo : Nat} {s : ByteArray} {x y : Operand} {p : Int} {k : IntKind} (A : Fr n a F D) (hx : ev F x = some (.string s)) (hy : ev F y = some (.int k p)) [ht : StrC P ty] (hp : p = (lo : Int)) (h2 : lo ≤ s.size) :
    Runs P a w (.slice ty x (some y) none none) (.string (s.extract lo s.size)) := by
  subst hp
  have := Runs.sliceSlo (w := w) A hx hy ht.h (by omega) (by omega)
  simpa using this
theorem Runs.sliceNhi {ty hi : Nat} {s : ByteArray} {x y : Operand} {p : Int} {k : IntKind} (A : Fr n a F D) (hx : ev F x = some (.string s)) (hy : ev F y = some (.int k p)) [ht : StrC P ty] (hp : p = (hi : Int)) (h2 : hi ≤ s.size) :
    Runs P a w (.slice ty x none (some y) none) (.string (s.extract 0 hi)) := by
  subst hp
  have := Runs.sliceShi (w := w) A hx hy ht.h (by omega) (by omega)
  simpa using this
theorem Runs.indexN {ty i : Nat} {s : ByteArray} {x y : Operand} {p : Int} {k : IntKind} (A : Fr n a F D) (hx : ev F x = some (.string s)) (hy : ev F y = some (.int k p)) [ht : StrC P ty] (hp : p = (i : Int)) (h2 : i < s.size) :
    Runs P a w (.index ty x y) (.int .u8 (bt s i)) := by
  subst hp
  have := Runs.indexS (w := w) A hx hy ht.h (by omega) (by omega)
  simpa using this
end
end Sl
end Go.Proofs.YtanhehbfbakdcaaGreatDoor
