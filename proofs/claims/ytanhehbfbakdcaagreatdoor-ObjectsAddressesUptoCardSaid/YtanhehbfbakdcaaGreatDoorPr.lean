/- A printer in memory: its bytes and whether all is well. Own work. -/
import Derived.Test.YtanhehbfbakdcaaGreatDoorAst
import Derived.Test.YtanhehbfbakdcaaGreatDoorLexX
import Derived.Lib.Builder
import Derived.Lib.UnsafeStr
import Derived.Lib.ItoaLen
set_option linter.unusedVariables false
set_option linter.unusedSimpArgs false
namespace Go.Proofs.YtanhehbfbakdcaaGreatDoor
namespace Sl
open Go Go.RowKit
abbrev bl (s : ByteArray) : List UInt8 := s.data.toList
structure PS where
  t : List UInt8
  ok : Bool
def prR (b : Nat) (x : PS) (B : Nat) : Res := ex fun q : Option Addr × Option Addr × Nat => star (pt b [.pointer q.1, .slice q.2.1 x.t.length q.2.2, .bool x.ok] 117) (star (row 5 1 q.2.1 x.t.length q.2.2 (x.t.map u8)) (pure ((q.1 = none ∨ q.1 = some ⟨b, 0, none⟩) ∧ (x.t = [] → q.2.1 = none) ∧ x.t.length ≤ B)))
class HasPr (L : List Res) (b : Nat) (x : outParam PS) (B : outParam Nat) (L' : outParam (List Res)) : Prop where
  p : L.Perm (prR b x B :: L')
instance (priority := high) HasPr.head {b B : Nat} {x : PS} {L : List Res} : HasPr (prR b x B :: L) b x B L := ⟨.refl _⟩
instance (priority := low) HasPr.tail {b B : Nat} {x : PS} {r : Res} {L L' : List Res} [h : HasPr L b x B L'] : HasPr (r :: L) b x B (r :: L') := ⟨(List.Perm.cons r h.p).trans (.swap _ _ _)⟩
section
variable {w0 w : World} {m : Mem} {L L' : List Res} {b B : Nat} {x : PS}
theorem St.pr_open [h : HasPr L b x B L'] (H : St w0 w m L) : ∃ pa ad c, (pa = none ∨ pa = some ⟨b, 0, none⟩) ∧ (x.t = [] → ad = none) ∧ x.t.length ≤ B ∧
    St w0 w m (pt b [.pointer pa, .slice ad x.t.length c, .bool x.ok] 117 :: row 5 1 ad x.t.length c (x.t.map u8) :: L') := by
  obtain ⟨q, H1⟩ := St.unex (H.perm h.p)
  have H2 := H1.unstar
  have H3 := H2.perm (List.Perm.swap _ _ _)
  have H4 := H3.unstar
  have H5 := H4.perm (List.Perm.swap _ _ _)
  obtain ⟨⟨h1, h2, h3⟩, H6⟩ := H5.unpure
  exact ⟨_, _, _, h1, h2, h3, H6.perm (List.Perm.swap _ _ _)⟩
theorem St.pr_close {pa ad : Option Addr} {c n : Nat} {ok : Bool} {t : List UInt8} (H : St w0 w m (pt b [.pointer pa, .slice ad n c, .bool ok] 117 :: row 5 1 ad n c (t.map u8) :: L)) (h1 : pa = none ∨ pa = some ⟨b, 0, none⟩) (h2 : t = [] → ad = none) (h3 : t.length ≤ B) : St w0 w m (prR b ⟨t, ok⟩ B :: L) := by
  have H1 := H.perm (List.Perm.swap _ _ _)
  have hl := H1.row_len
  have hn : n = t.length := by have := hl.1; simpa using this.symm
  subst hn
  have H2 := (H1.mkpure (p := (pa = none ∨ pa = some ⟨b, 0, none⟩) ∧ (t = [] → ad = none) ∧ t.length ≤ B) ⟨h1, h2, h3⟩).perm (List.Perm.swap _ _ _)
  have H3 := H2.mkstar
  have H4 := (H3.perm (List.Perm.swap _ _ _)).mkstar
  exact St.mkex (x := (pa, ad, c)) (r := fun q : Option Addr × Option Addr × Nat => star (pt b [.pointer q.1, .slice q.2.1 t.length q.2.2, .bool ok] 117) (star (row 5 1 q.2.1 t.length q.2.2 (t.map u8)) (pure ((q.1 = none ∨ q.1 = some ⟨b, 0, none⟩) ∧ (t = [] → q.2.1 = none) ∧ t.length ≤ B)))) H4
theorem St.pr_le {B' : Nat} [h : HasPr L b x B L'] (H : St w0 w m L) (hB : B ≤ B') : St w0 w m (prR b x B' :: L') := by
  obtain ⟨pa, ad, c, h1, h2, h3, H1⟩ := H.pr_open (b := b)
  exact H1.pr_close h1 h2 (by omega)
theorem St.pr_at {y : PS} [h : HasPr L b x B L'] (H : St w0 w m L) (e : x = y) : St w0 w m (prR b y B :: L') := by subst e; exact H.perm h.p
end
/-- A function that writes: what it makes of the printer, at most how many bytes it adds. -/
def PrSpec (P : Program) (f : FuncId) (args : List Value) (m : Mem) (b : Nat) (Lc : List Res) (g : PS → PS) (k : Nat) (Rv : Mem → Value → Prop) : Prop :=
  ∀ x B, B + k ≤ 1000000000000 → Spec P f args.toArray m (prR b x B :: Lc) (RetV fun m' v L' => Rv m' v ∧ L' = prR b (g x) (B + k) :: Lc)
section
variable {P : Program} {n : Nat} {a : Act} {F : List (Nat × Value)} {D : List Deferred} {w0 w : World} {m m0 : Mem} {L L1 Lc Lf : List Res} {ops : Array Oper} {Q : Exit → Act → World → Prop} {rest : List Oper}
variable {d t : Nat} {pos : String} {after : Array Edge} {xs : List Operand} {vs cap : List Value} {f b B k : Nat} {tys : Array TypeId} {x : PS} {g : PS → PS} {Rv : Mem → Value → Prop}
theorem step_callPr [hf : FnC P f] (A : Fr n a F D) (hx : evs F xs = some vs) (hd : Nat.blt d n = true) (S : PrSpec P f vs m b Lc g k Rv) (H : St w0 w m L) [hp : HasPr L b x B L1] [hs : Sel L1 Lc Lf] (hB : B + k ≤ 1000000000000)
    (K : ∀ v a' w' m', Le m m' → Rv m' v → Fr n a' ((d, v) :: F) D → St w0 w' m' (prR b (g x) (B + k) :: (Lc ++ Lf)) → wpList P ops Q rest a' w') :
    wpList P ops Q (⟨some d, .call { callee := .value (.func f), args := xs.toArray, argTypes := tys }, t, pos, after, none⟩ :: rest) a w :=
  step_call (Lc := prR b x B :: Lc) (Lf := Lf) A hx hd (S x B hB) (H.perm (hp.p.trans (List.Perm.cons _ hs.p))) fun v a' w' m' _ hm ⟨h1, h2⟩ A' H' => K v a' w' m' hm h1 A' (by subst h2; exact H')
theorem step_cloPr {y : Operand} [hf : FnC P f] (A : Fr n a F D) (hc : ev F y = some (.func (.func f) #[] cap.toArray)) (hx : evs F xs = some vs) (hd : Nat.blt d n = true) (S : PrSpec P f (vs ++ cap) m b Lc g k Rv) (H : St w0 w m L) [hp : HasPr L b x B L1] [hs : Sel L1 Lc Lf] (hB : B + k ≤ 1000000000000)
    (K : ∀ v a' w' m', Le m m' → Rv m' v → Fr n a' ((d, v) :: F) D → St w0 w' m' (prR b (g x) (B + k) :: (Lc ++ Lf)) → wpList P ops Q rest a' w') :
    wpList P ops Q (⟨some d, .call { callee := .value y, args := xs.toArray, argTypes := tys }, t, pos, after, none⟩ :: rest) a w :=
  step_clo (Lc := prR b x B :: Lc) (Lf := Lf) A hc hx hd (S x B hB) (H.perm (hp.p.trans (List.Perm.cons _ hs.p))) fun v a' w' m' _ hm ⟨h1, h2⟩ A' H' => K v a' w' m' hm h1 A' (by subst h2; exact H')
theorem clo_runsB {y : Operand} {fs : List Value} [hf : FnC P f] (A : Fr n a F D) (hc : ev F y = some (.func (.func f) fs.toArray cap.toArray)) (hx : evs F xs = some vs) : ∀ dst t pos after guard, (execOp a.eval ⟨dst, .call { callee := .value y, args := xs.toArray, argTypes := tys }, t, pos, after, guard⟩).run P w = .ok (.enter f (fs ++ vs ++ cap).toArray) w := by
  intro _ _ _ _ _
  have := A.evs hx
  simp only [execOp, resolve, A.ev hc, Deferred.ofValue, List.map_toArray, this, Sem.run_bind, Sem.run_pure, Result.andThen_ok, invoke]
  simpa using hf.h (fs ++ vs ++ cap).toArray w
theorem step_cloPrB {y : Operand} {fs : List Value} [hf : FnC P f] (A : Fr n a F D) (hc : ev F y = some (.func (.func f) fs.toArray cap.toArray)) (hx : evs F xs = some vs) (hd : Nat.blt d n = true) (S : PrSpec P f (fs ++ vs ++ cap) m b Lc g k Rv) (H : St w0 w m L) [hp : HasPr L b x B L1] [hs : Sel L1 Lc Lf] (hB : B + k ≤ 1000000000000)
    (K : ∀ v a' w' m', Le m m' → Rv m' v → Fr n a' ((d, v) :: F) D → St w0 w' m' (prR b (g x) (B + k) :: (Lc ++ Lf)) → wpList P ops Q rest a' w') :
    wpList P ops Q (⟨some d, .call { callee := .value y, args := xs.toArray, argTypes := tys }, t, pos, after, none⟩ :: rest) a w :=
  wpList_plain rfl fun _ hK => oper_call (clo_runsB A hc hx _ _ _ _ _) rfl (S x B hB) (H.perm (hp.p.trans (List.Perm.cons _ hs.p))) fun v w' m' _ hm ⟨h1, h2⟩ H' => hK _ _ (K v _ w' m' hm h1 (A.put hd v) (by subst h2; exact H'))
/-- the end of such a function -/
theorem endPr {fn : Func} {y : PS} {B' : Nat} (A : Fr n a F []) (hr : fn.results = #[]) (hM : Le m0 m) (H : St w0 w m L) [hp : HasPr L b y B L1] [hs : SubA Lc Lf L1] (h : Rv m (.tuple #[])) (e : y = g x) (hB : B ≤ B' + k) :
    bodyPost P fn (fun e w' => ∃ m' L', Le m0 m' ∧ RetV (fun m' v L' => Rv m' v ∧ L' = prR b (g x) (B' + k) :: Lc) m' e L' ∧ St w0 w' m' (L' ++ Lf)) .normal a w :=
  end_none A hr ⟨m, _, hM, ⟨h, rfl⟩, by
    have H1 := (H.pr_le (b := b) hB).pr_at (b := b) e
    exact @St.subH _ _ _ _ _ (@SubH.keep (prR b (g x) (B' + k)) L1 (Lc ++ Lf) hs.h) H1⟩
theorem retPr {fn : Func} {y : PS} {B' : Nat} (A : Fr n a F []) (hr : fn.results = #[]) (hM : Le m0 m) (H : St w0 w m L) [hp : HasPr L b y B L1] [hs : SubA Lc Lf L1] (h : Rv m (.tuple #[])) (e : y = g x) (hB : B ≤ B' + k) :
    bodyPost P fn (fun e w' => ∃ m' L', Le m0 m' ∧ RetV (fun m' v L' => Rv m' v ∧ L' = prR b (g x) (B' + k) :: Lc) m' e L' ∧ St w0 w' m' (L' ++ Lf)) .ret a w :=
  ret_none A hr ⟨m, _, hM, ⟨h, rfl⟩, by
    have H1 := (H.pr_le (b := b) hB).pr_at (b := b) e
    exact @St.subH _ _ _ _ _ (@SubH.keep (prR b (g x) (B' + k)) L1 (Lc ++ Lf) hs.h) H1⟩

theorem retPr2 {fn : Func} {y : PS} {B' s1 s2 : Nat} {v1 v2 : Value} (A : Fr n a F []) (hr : fn.results = #[.tmp s1, .tmp s2]) (hv1 : lk F s1 = some v1) (hv2 : lk F s2 = some v2) (hM : Le m0 m) (H : St w0 w m L) [hp : HasPr L b y B L1] [hs : SubA Lc Lf L1] (h : Rv m (.tuple #[v1, v2])) (e : y = g x) (hB : B ≤ B' + k) :
    bodyPost P fn (fun e w' => ∃ m' L', Le m0 m' ∧ RetV (fun m' v L' => Rv m' v ∧ L' = prR b (g x) (B' + k) :: Lc) m' e L' ∧ St w0 w' m' (L' ++ Lf)) .ret a w :=
  ret_tmp2 A hr hv1 hv2 ⟨m, _, hM, ⟨h, rfl⟩, by
    have H1 := (H.pr_le (b := b) hB).pr_at (b := b) e
    exact @St.subH _ _ _ _ _ (@SubH.keep (prR b (g x) (B' + k)) L1 (Lc ++ Lf) hs.h) H1⟩
/-! ### Pointers turned to unsafe ones and back; bytes turned to a string -/
theorem St.shape {e : Nat} {cs : List Value} (H : St w0 w m (pt b cs e :: L)) : w.shape? b = some (e, cs.length) := by simp [World.shape?, H.block]
theorem Runs.toUnsafe {src dst t2 tb off : Nat} {x : Operand} {cs : List Value} {L' : List Res} (A : Fr n a F D) (H : St w0 w m L) (hx : ev F x = some (.pointer (some ⟨b, off, none⟩))) [hp : HasPt L b cs tb L'] (hs : P.underlying src = some (.pointer t2)) (hd : P.underlying dst = some .unsafePointer) (ht : (P.info? t2).map (fun i => Nat.beq i.size 0) = some false) (hoff : off < cs.length) :
    Runs P a w (.convert src dst x) (.pointer (some ⟨b, off, none⟩)) := by
  intro _ _ _ _ _
  obtain ⟨j, hj, hjs⟩ := Option.map_eq_some_iff.1 ht
  have := Lib.run_to_unsafe (P := P) w ⟨b, off, none⟩ hs hd hj (fun h => by rw [h] at hjs; cases hjs) (St.shape (H.perm hp.p)) hoff
  simp only [execOp, A.ev hx, Sem.run_bind, this, Result.andThen_ok, Sem.run_pure]
theorem Runs.fromUnsafe {src dst u tb off : Nat} {x : Operand} {cs : List Value} {L' : List Res} (A : Fr n a F D) (H : St w0 w m L) (hx : ev F x = some (.pointer (some ⟨b, off, none⟩))) [hp : HasPt L b cs tb L'] (hs : P.underlying src = some .unsafePointer) (hd : P.underlying dst = some (.pointer u)) (hu : (P.info? u).isSome = true) (hl : liesAt P P.depth tb (cs.length / P.cellsOf tb) off u 1 = true) :
    Runs P a w (.convert src dst x) (.pointer (some ⟨b, off, none⟩)) := by
  intro _ _ _ _ _
  obtain ⟨j, hj⟩ := Option.isSome_iff_exists.1 hu
  have := Lib.run_from_unsafe (P := P) w ⟨b, off, none⟩ hs hd hj (St.shape (H.perm hp.p)) hl
  simp only [execOp, A.ev hx, Sem.run_bind, this, Result.andThen_ok, Sem.run_pure]
theorem step_noEscape {ts : Nat} {fn : Func} {x : Operand} {v : Value} (A : Fr n a F D) (hx : ev F x = some v) (hf : P.funcs[f]? = some fn) (hname : (fn.name == "runtime.NumGoroutine") = false) (hb : fn.body.isNone = true) (hn : Extern.findNext fn = none) (he : Extern.find fn = some Extern.AbiNoEscape.same) (hd : Nat.blt d n = true)
    (K : ∀ a', Fr n a' ((d, v) :: F) D → wpList P ops Q rest a' w) :
    wpList P ops Q (⟨some d, .call { callee := .value (.func f), args := #[x], argTypes := tys }, ts, pos, after, none⟩ :: rest) a w := by
  have hrun : (execOp a.eval ⟨some d, .call { callee := .value (.func f), args := #[x], argTypes := tys }, ts, pos, after, none⟩).run P w = .ok (.value v) w := by
    simp only [execOp, resolve, Act.eval, Deferred.ofValue]
    simp [invoke, Sem.run_bind, run_callFunc_extern hf hname hb hn he, A.ev hx, Lib.run_noEscape]
  refine wpList_plain rfl fun K' hK => ?_
  unfold Oper.wp
  rw [hrun]
  exact hK _ _ (K _ (A.put hd _))
theorem Runs.makeFuncB {fn : Fn} {fs xs : List Operand} {us vs : List Value} (A : Fr n a F D) (hy : evs F fs = some us) (hx : evs F xs = some vs) : Runs P a w (.makeFunc fn fs.toArray xs.toArray) (.func fn us.toArray vs.toArray) := by
  intro _ _ _ _ _
  simp [execOp, Instr.makeFunc, A.evs hx, A.evs hy]
theorem Runs.sliceData {x : Operand} {ad : Option Addr} {k c : Nat} (A : Fr n a F D) (hx : ev F x = some (.slice ad k c)) (hc : ad = none ∨ c ≠ 0) : Runs P a w (.call { callee := .builtin .unsafeSliceData, args := #[x], argTypes := tys }) (.pointer ad) := by
  intro _ _ _ _ _
  have h : ∀ ty, (Builtin.unsafeSliceData_ tys ty #[.slice ad k c]).run P w = .ok (.pointer ad) w := fun ty => by
    cases ad with
    | none => exact Lib.run_unsafeSliceData_nil w tys ty k c
    | some ad => exact Lib.run_unsafeSliceData_row w tys ty ad k c (by rcases hc with h | h; cases h; exact h)
  simp only [execOp, resolve, invoke, builtin, Sem.run_bind, Sem.run_pure, Result.andThen_ok, List.map_toArray, List.map_cons, List.map_nil, A.ev hx, h]
theorem Runs.unsafeStr0 {x y : Operand} {p : Option Addr} {pt_ it : Nat} (A : Fr n a F D) (hx : ev F x = some (.pointer p)) (hy : ev F y = some (.int .i64 0)) : Runs P a w (.call { callee := .builtin .unsafeString, args := #[x, y], argTypes := #[pt_, it] }) (.string ⟨#[]⟩) := by
  intro _ ty _ _ _
  have h := Lib.run_unsafeString_none (P := P) w pt_ it ty p
  simp only [execOp, resolve, invoke, builtin, Sem.run_bind, Sem.run_pure, Result.andThen_ok, List.map_toArray, List.map_cons, List.map_nil, A.ev hx, A.ev hy, h]
  rfl
theorem step_unsafeStr {ts pt_ it e c g : Nat} {x y : Operand} {l : List UInt8} (A : Fr n a F D) (H : St w0 w m (row e 1 (some ⟨g, 0, none⟩) l.length c (l.map u8) :: L)) (hx : ev F x = some (.pointer (some ⟨g, 0, none⟩))) (hy : ev F y = some (.int .i64 l.length)) (hp : P.underlying pt_ = some (.pointer e)) (hc : P.cellsOf e = 1) (h0 : l ≠ []) (hd : Nat.blt d n = true)
    (K : ∀ a' w', Fr n a' ((d, .string ⟨l.toArray⟩) :: F) D → St w0 w' m L → wpList P ops Q rest a' w') :
    wpList P ops Q (⟨some d, .call { callee := .builtin .unsafeString, args := #[x, y], argTypes := #[pt_, it] }, ts, pos, after, none⟩ :: rest) a w := by
  obtain ⟨hl1, hl2, hl3⟩ := H.row_len
  have hpos : 0 < l.length := List.length_pos_iff.2 h0
  obtain ⟨g', cur, e1, hxl, hnc, hcm, hcl, hct, H1⟩ := H.row_block (by omega)
  simp only [Option.some.injEq, Addr.mk.injEq, and_true] at e1
  subst e1
  have hb := H1.block
  have hcell : ∀ j u, l[j]? = some u → w.cell? ((⟨g, 0, none⟩ : Addr).add j) = some (.int .u8 u.toNat) := fun j u hj => by
    have hlt := (List.getElem?_eq_some_iff.1 hj).1
    rw [addr_add, Nat.zero_add, cell_of_row w g j cur.toArray e _ hb]
    have : cur[j]? = (l.map u8)[j]? := by rw [← hct, List.getElem?_take_of_lt (by omega)]
    simp only [List.getElem?_toArray, this, List.getElem?_map, hj]
    rfl
  have hr := Lib.run_unsafeString_row (P := P) w pt_ it ts e hp hc g cur.length (H1.shape) l h0 (by omega) (by simp only [maxLen] at hl3; omega) hcell
  refine wpList_plain rfl fun K' hK => ?_
  unfold Oper.wp
  simp only [execOp, resolve, invoke, builtin, Sem.run_bind, Sem.run_pure, Result.andThen_ok, List.map_toArray, List.map_cons, List.map_nil, A.ev hx, A.ev hy, hr]
  refine hK _ _ (K _ _ (A.put hd _) ?_)
  have hlt := (Array.getElem?_eq_some_iff.1 hb).1
  have hne : l.length ≠ 0 := by omega
  have hio : Kep w (w.freeze ⟨g, 0, none⟩ l.length) := by
    simp only [World.freeze, hne, if_false]
    exact ⟨rfl, rfl, rfl, by simp⟩
  have hother : ∀ k, k ≠ g → k < w.heap.size → (w.freeze ⟨g, 0, none⟩ l.length).heap[k]? = w.heap[k]? := fun k hk _ => by
    simp only [World.freeze, hne, if_false, Array.getElem?_modify, Ne.symm hk]
  obtain ⟨o, ho⟩ : ∃ o, (w.freeze ⟨g, 0, none⟩ l.length).heap[g]? = some o := by
    refine ⟨_, Array.getElem?_eq_getElem ?_⟩
    simp only [World.freeze, hne, if_false, Array.size_modify]
    exact hlt
  exact (H1.update hio ho hother).drop

/-! ### What is written -/
def wr (l : List UInt8) (x : PS) : PS := ⟨x.t ++ l, x.ok⟩
def andOk (q : Bool) (x : PS) : PS := ⟨x.t, x.ok && q⟩
def kindP (s : ByteArray) : Int := if wkind (s.extract 0 (0 + wl s 0)) ≠ 0 ∧ wl s 0 = s.size then wkind (s.extract 0 (0 + wl s 0)) else if sgn s 0 ≠ 0 ∧ sgn s 0 = s.size then 3 else 0
def resB (s : ByteArray) : Bool := reservedL.any fun k => decide (k = s)
def isNameB (s : ByteArray) : Bool := decide (kindP s = 1) && !resB s
def nameP (s : ByteArray) (x : PS) : PS := ⟨x.t ++ bl s, x.ok && isNameB s⟩
def numberP (n : Int) (x : PS) : PS := ⟨x.t ++ Lib.itoa n, x.ok && (decide (0 ≤ n) && decide (n ≤ 1000000))⟩
def numP (z : PNum) (x : PS) : PS := if z.p = ⟨#[]⟩ then numberP z.n x else
  if 0 < z.n then numberP z.n (wr [32, 43, 32] (nameP z.p x))
  else if z.n < 0 then numberP (if 0 > IntKind.i64.wrap (-z.n) then 0 else IntKind.i64.wrap (-z.n)) (wr [32, 45, 32] (andOk (decide (-1000000 ≤ z.n)) (nameP z.p x)))
  else nameP z.p x
theorem I64_max (z : Int) : I64 (if 0 > IntKind.i64.wrap (-z) then 0 else IntKind.i64.wrap (-z)) := by
  rw [IntKind.wrap_i64]; unfold I64; split <;> omega
theorem all_take {l : List Bool} {i : Nat} {v : Bool} (h : l[i]? = some v) : (l.take (i + 1)).all id = ((l.take i).all id && v) := by
  rw [List.take_add_one, h, List.all_append]; simp
def noneB (z : PNum) : Bool := decide (z.n = 0) && decide (z.p = ⟨#[]⟩)
def absentB (e : Ex) : Bool := decide (e.op = 0) && (decide (e.name = ⟨#[]⟩) && (noneB e.k && (noneB e.w && decide (e.args.length = 0))))
def signP (op : Int) : ByteArray := match opsL.find? fun p => decide (p.2 = op) with
  | some p => p.1
  | none => ⟨#[]⟩
theorem signP_size (op : Int) : (signP op).size ≤ 2 := by
  unfold signP
  split
  · rename_i p h
    have : ∀ p ∈ opsL, p.1.size ≤ 2 := by decide
    exact this p (List.mem_of_find?_eq_some h)
  · decide
def arityP (op : Int) : Int := if op = 1 ∨ op = 14 then 0 else if op = 2 ∨ op = 12 ∨ op = 13 ∨ op = 15 then 1 else if op = 10 then 3 else if signP op ≠ ⟨#[]⟩ then 2 else -1
def ruleP (r : PRule) (x : PS) : PS :=
  let y := andOk ((decide (r.src = ⟨#[]⟩) || decide (2 ≤ r.kind)) && (decide (r.n = 0) || decide (r.kind = 3))) x
  if r.kind = 0 then wr [105, 110, 105, 116] y
  else if r.kind = 1 then wr [107, 101, 101, 112] y
  else if r.kind = 2 then nameP r.src (wr [99, 111, 112, 121, 32] y)
  else if r.kind = 3 then numberP r.n (wr [32] (nameP r.src (wr [97, 100, 100, 32] y)))
  else ⟨y.t, false⟩
/-- the elements of a list, from one on -/
def listGo {α : Type} (f : α → PS → PS) : List α → Bool → PS → PS
  | [], _, x => x
  | a :: l, first, x => listGo f l false (f a (if first then x else wr [44, 32] x))
def listP {α : Type} (f : α → PS → PS) (l : List α) (x : PS) : PS := wr [41] (listGo f l true (wr [40] x))
theorem listGo_step {α : Type} {f : α → PS → PS} {l : List α} {i : Nat} {a : α} {y : PS} (h : l[i]? = some a) : listGo f (l.drop i) (decide (i = 0)) y = listGo f (l.drop (i + 1)) (decide (i + 1 = 0)) (f a (if i = 0 then y else wr [44, 32] y)) := by
  obtain ⟨h1, h2⟩ := List.getElem?_eq_some_iff.1 h
  rw [List.drop_eq_getElem_cons h1, h2, listGo]
  have e : decide (i + 1 = 0) = false := by simp
  rw [e]
  by_cases h0 : i = 0 <;> simp [h0]
def bindP (z : PBind) (x : PS) : PS := nameP z.chan (wr [32, 61, 32] (nameP z.port x))
def isOp (e : Ex) (l : List Int) : Bool := l.any fun k => decide (e.op = k)
def exprP : Nat → Ex → PS → PS
  | 0, _, x => ⟨x.t, false⟩
  | d + 1, e, x => if (e.args.length : Int) ≠ arityP e.op then ⟨x.t, false⟩ else if x.ok = false then x else
    let y := andOk ((decide (e.name = ⟨#[]⟩) || isOp e [14, 15]) && ((noneB e.k || isOp e [1, 12]) && (noneB e.w || isOp e [1, 12, 13]))) x
    let arg (s : List UInt8) (i : Nat) (z : PS) : PS := match e.args[i]? with
      | some a => exprP d a (wr s z)
      | none => wr s z
    if e.op = 1 then wr [93] (numP e.w (wr [32, 58, 32] (numP e.k (wr [91] y))))
    else if e.op = 14 then nameP e.name y
    else if e.op = 15 then wr [93] (arg [91] 0 (nameP e.name y))
    else if e.op = 2 then arg [126] 0 y
    else if e.op = 10 then wr [41] (arg [32, 58, 32] 2 (arg [32, 63, 32] 1 (arg [40] 0 y)))
    else if e.op = 12 ∨ e.op = 13 then wr [125] (numP e.w (wr [32, 58, 32] (if e.op = 12 then numP e.k (wr [32, 64, 32] (arg [123] 0 y)) else arg [123] 0 y)))
    else wr [41] (arg ([32] ++ bl (signP e.op) ++ [32]) 1 (arg [40] 0 y))
def kwP (k : Int) : List UInt8 := match k with
  | 1 => [105, 110]
  | 2 => [111, 117, 116]
  | 3 => [99, 104, 97, 110]
  | 4 => [114, 101, 103]
  | 5 => [119, 105, 114, 101]
  | 6 => [109, 101, 109]
  | 7 => [116, 97, 107, 101]
  | 8 => [112, 117, 116]
  | 9 => [105, 110, 115, 116]
  | _ => []
def partP (s : List UInt8) (e : Ex) (x : PS) : PS := exprP 8 e (wr s x)
def ruleB (r : PRule) : Bool := decide (r.kind = 0) && (decide (r.src = ⟨#[]⟩) && decide (r.n = 0))
def itemOk (i : PItem) : Bool :=
  let k := i.kind
  (noneB i.width || decide (k ≤ 6)) && ((noneB i.depth || (decide (k = 3) || decide (k = 6))) && ((noneB i.init || decide (k = 4)) && ((absentB i.a || (decide (4 ≤ k) && !decide (k = 9))) && ((absentB i.b || (decide (k = 6) || decide (k = 8))) && ((absentB i.c || decide (k = 6)) && ((ruleB i.rule || (decide (k = 4) || decide (k = 6))) && ((decide (i.of_ = ⟨#[]⟩) && (decide (i.args.length = 0) && decide (i.ports.length = 0))) || decide (k = 9))))))))
def itemP (i : PItem) (x : PS) : PS :=
  let k := i.kind
  if k < 1 ∨ 9 < k then ⟨x.t, false⟩ else
  let y1 := nameP i.name (wr (kwP k ++ [32]) (andOk (itemOk i) x))
  let y2 := if k ≤ 6 then numP i.width (wr [58, 32] y1) else y1
  let y3 := if k = 3 ∨ k = 6 then wr [93] (numP i.depth (wr [32, 91] y2)) else y2
  let y4 := if k = 4 then partP [32, 45, 62, 32] i.a (numP i.init (wr [32, 61, 32] y3))
    else if k = 5 then partP [32, 61, 32] i.a y3
    else if k = 6 then partP [32, 61, 32] i.c (partP [32, 97, 116, 32] i.b (partP [32, 105, 102, 32] i.a y3))
    else if k = 7 then partP [32, 105, 102, 32] i.a y3
    else if k = 8 then partP [32, 61, 32] i.b (partP [32, 105, 102, 32] i.a y3)
    else if k = 9 then listP bindP i.ports (wr [32] (listP numP i.args (nameP i.of_ (wr [58, 32] y3))))
    else y3
  if k = 4 ∨ k = 6 then ruleP i.rule (wr [32] y4) else y4
def modP (m : PMod) (x : PS) : PS :=
  let y := wr [32, 123, 10] (nameP m.clock (wr [32, 64, 32] (listP nameP m.params (nameP m.name (wr [109, 111, 100, 117, 108, 101, 32] x)))))
  wr [125, 10] (m.items.foldl (fun y i => wr [59, 10] (itemP i (wr [32, 32] y))) y)
def fileP (f : List PMod) : PS := f.foldl (fun x m => modP m x) ⟨[], true⟩
/-- the text of a file, if it has one -/
def printP (f : List PMod) : Option (List UInt8) := if (fileP f).ok && decide ((fileP f).t.length ≤ 8000) then some (fileP f).t else none
end
end Sl
end Go.Proofs.YtanhehbfbakdcaaGreatDoor
