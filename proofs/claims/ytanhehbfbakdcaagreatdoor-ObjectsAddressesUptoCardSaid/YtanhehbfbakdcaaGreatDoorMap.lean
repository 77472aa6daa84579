/- Maps keyed by strings: looks, loops over them, maps that are made. Strings laid behind bytes. Own work; nothing about a program stands here. -/
import Derived.Test.YtanhehbfbakdcaaGreatDoorJoin
import Derived.Test.YtanhehbfbakdcaaGreatDoorLib
import Derived.Test.YtanhehbfbakdcaaGreatDoorU64
import Derived.Lib.AppendStr
set_option linter.unusedVariables false
set_option linter.unusedSimpArgs false
namespace Go.Proofs.YtanhehbfbakdcaaGreatDoor
namespace Sl
open Go Go.RowKit
class MapC (P : Program) (t : Nat) (k e : outParam Nat) : Prop where
  h : P.underlying t = some (.map k e)
class ZrC (P : Program) (t : Nat) (z : outParam Value) : Prop where
  h : (P.info? t).bind (·.zero) = some z
/-- what a list of entries has at a key -/
def mget (l : List (ByteArray × Value)) (s : ByteArray) : Option Value := (l.find? fun p => decide (p.1 = s)).map (·.2)
theorem mget_some {l : List (ByteArray × Value)} {s : ByteArray} {v : Value} (hn : (l.map (·.1)).Nodup) (h : (s, v) ∈ l) : mget l s = some v := by
  induction l with
  | nil => cases h
  | cons p l ih =>
    rw [List.map_cons, List.nodup_cons] at hn
    rcases List.mem_cons.1 h with rfl | h'
    · simp [mget]
    · have hne : p.1 ≠ s := fun e => hn.1 (e ▸ List.mem_map.2 ⟨_, h', rfl⟩)
      have := ih hn.2 h'
      simpa [mget, hne] using this
theorem mget_none {l : List (ByteArray × Value)} {s : ByteArray} (h : ∀ p ∈ l, p.1 ≠ s) : mget l s = none := by
  simp only [mget, Option.map_eq_none_iff, List.find?_eq_none, decide_eq_true_eq]
  exact h
theorem mget_mem {l : List (ByteArray × Value)} {s : ByteArray} {v : Value} (h : mget l s = some v) : (s, v) ∈ l := by
  simp only [mget, Option.map_eq_some_iff] at h
  obtain ⟨p, hp, rfl⟩ := h
  have h1 := List.find?_some hp
  have h2 := List.mem_of_find?_eq_some hp
  have : p.1 = s := of_decide_eq_true h1
  subst this; exact h2
theorem mem_ment {l : List (ByteArray × Value)} {k v : Value} : (k, v) ∈ ment l ↔ ∃ s, k = .string s ∧ (s, v) ∈ l := by
  simp only [ment, List.mem_map, Prod.mk.injEq]
  constructor
  · rintro ⟨p, hp, rfl, rfl⟩; exact ⟨p.1, rfl, hp⟩
  · rintro ⟨s, rfl, h⟩; exact ⟨_, h, rfl, rfl⟩
theorem beqB (a b : ByteArray) : (a == b) = decide (a = b) := by rw [beq_toListBytes, toList_inj]
theorem findNow_str {s : ByteArray} : ∀ (es : List MapEntry) (i : Nat), (∀ e ∈ es, ∃ k, e.key = .string k) →
    (Instr.findNow .string (.string s) es i = some none ∧ ∀ e ∈ es, e.key ≠ .string s) ∨ ∃ j e, Instr.findNow .string (.string s) es i = some (some (j, e.val)) ∧ e ∈ es ∧ e.key = .string s
  | [], _, _ => .inl ⟨rfl, by simp⟩
  | e :: es, i, h => by
    obtain ⟨k, hk⟩ := h e (by simp)
    by_cases hs : s = k
    · subst hs
      exact .inr ⟨i, e, by simp [Instr.findNow, hk, Instr.sameNow, beqB], by simp, hk⟩
    · have hb : (s == k) = false := by rw [beqB]; exact decide_eq_false hs
      rcases findNow_str (s := s) es (i + 1) (fun e he => h e (by simp [he])) with ⟨h1, h2⟩ | ⟨j, e', h1, h2, h3⟩
      · refine .inl ⟨by simp [Instr.findNow, hk, Instr.sameNow, hb, h1], fun x hx => ?_⟩
        rcases List.mem_cons.1 hx with rfl | hx
        · rw [hk]; intro e2; cases e2; exact hs rfl
        · exact h2 x hx
      · exact .inr ⟨j, e', by simp [Instr.findNow, hk, Instr.sameNow, hb, h1], by simp [h2], h3⟩
section
variable {P : Program} {n : Nat} {a : Act} {F : List (Nat × Value)} {D : List Deferred} {w0 w : World} {m : Mem} {L L' : List Res} {ops : Array Oper} {Q : Exit → Act → World → Prop} {rest : List Oper}
variable {d t : Nat} {pos : String} {after : Array Edge} {x y : Operand}
theorem checkKey_str {em : Bool} {k : Nat} {s : ByteArray} (hk : P.underlying k = some .string) : (Instr.checkKey em 10000 k (.string s)).run P w = .ok () w := by
  rw [show (10000 : Nat) = 9999 + 1 from rfl]
  generalize 9999 = dd
  simp only [Instr.checkKey, Sem.run_bind, run_underlying hk, Result.andThen_ok, Sem.run_pure]
def lookV (l : List (ByteArray × Value)) (s : ByteArray) (z : Value) (ok : Bool) : Value := if ok then .tuple #[(mget l s).getD z, .bool (mget l s).isSome] else (mget l s).getD z
theorem look_run {k e r : Nat} {l : List (ByteArray × Value)} {s : ByteArray} {ok : Bool} {z : Value} [M : MapC P t k e] [S : StrC P k] [Z : ZrC P e z] (H : St w0 w m L) (hm : MapIs m r (ment l)) (hn : (l.map (·.1)).Nodup) :
    (Instr.lookup t (.map (some r)) (.string s) ok).run P w = .ok (lookV l s z ok) w := by
  obtain ⟨es, c, h1, h2, h3, h4⟩ := hm
  have hg : (getObj r).run P w = .ok (.map es c) w := by simp [getObj, Sem.run, H.frz _ _ h1]
  have hz : (zeroValue e).run P w = .ok z w := by
    have := Z.h
    simp only [Option.bind_eq_some_iff] at this
    obtain ⟨i, hi, hz⟩ := this
    simp [zeroValue, typeInfo, hi, hz]
  have hstr : ∀ q ∈ es.toList, ∃ k, q.key = .string k := fun q hq => by
    have : (q.key, q.val) ∈ ment l := h2.mem_iff.1 (List.mem_map.2 ⟨q, hq, rfl⟩)
    obtain ⟨s', h, _⟩ := mem_ment.1 this
    exact ⟨s', h⟩
  unfold lookV
  rcases findNow_str (s := s) es.toList 0 hstr with ⟨f1, f2⟩ | ⟨j, q, f1, f2, f3⟩
  · have hno : mget l s = none := mget_none fun p hp e => by
      have : ((.string p.1 : Value), p.2) ∈ ment l := mem_ment.2 ⟨_, rfl, hp⟩
      obtain ⟨q, hq, he⟩ := List.mem_map.1 (h2.mem_iff.2 this)
      simp only [Prod.mk.injEq] at he
      exact f2 q hq (by rw [he.1, e])
    simp only [Instr.lookup, Sem.run_bind, run_underlying M.h, Result.andThen_ok, hg, Sem.run_pure, checkKey_str S.h, Instr.findKey, run_underlying S.h, f1, hz, hno, Option.getD_none, Option.isSome_none]
  · have hs : mget l s = some q.val := mget_some hn (by
      have : (q.key, q.val) ∈ ment l := h2.mem_iff.1 (List.mem_map.2 ⟨q, f2, rfl⟩)
      obtain ⟨s', h, h'⟩ := mem_ment.1 this
      rw [f3] at h; cases h; exact h')
    simp only [Instr.lookup, Sem.run_bind, run_underlying M.h, Result.andThen_ok, hg, Sem.run_pure, checkKey_str S.h, Instr.findKey, run_underlying S.h, f1, hs, Option.getD_some, Option.isSome_some]
theorem Runs.look {k e r : Nat} {l : List (ByteArray × Value)} {s : ByteArray} {ok : Bool} {z : Value} [M : MapC P t k e] [S : StrC P k] [Z : ZrC P e z] (A : Fr n a F D) (H : St w0 w m L) (hx : ev F x = some (.map (some r))) (hy : ev F y = some (.string s)) (hm : MapIs m r (ment l)) (hn : (l.map (·.1)).Nodup) :
    Runs P a w (.lookup t x y ok) (lookV l s z ok) := by
  intro _ _ _ _ _
  simp only [execOp, A.ev hx, A.ev hy, Sem.run_bind, look_run H hm hn, Result.andThen_ok, Sem.run_pure]

/-! ### A loop over a map that is read -/
theorem step_rangeM {k e r c : Nat} {es : Array MapEntry} [M : MapC P t k e] (A : Fr n a F D) (H : St w0 w m L) (hx : ev F x = some (.map (some r))) (hm : m r = some (.map es c)) (hd : Nat.blt d n = true) {ts : Nat}
    (K : ∀ b a' w', Fr n a' ((d, .pointer (some ⟨b, 0, none⟩)) :: F) D → St w0 w' m (ob b (.mapIter (some r) c #[] c) :: L) → wpList P ops Q rest a' w') :
    wpList P ops Q (⟨some d, .range t x, ts, pos, after, none⟩ :: rest) a w := by
  have hg : (getObj r).run P w = .ok (.map es c) w := by simp [getObj, Sem.run, H.frz _ _ hm]
  refine stepW (w1 := w.alloc (.mapIter (some r) c #[] c)) (v := .pointer (some ⟨w.heap.size, 0, none⟩)) (fun _ _ _ _ _ => ?_) A hd fun a' A' => K _ a' _ A' (H.alloc _)
  simp only [execOp, Instr.range, A.ev hx, Sem.run_bind, run_underlying M.h, Result.andThen_ok, hg, Sem.run_pure, newObj]
  rfl
theorem setBlock_upd {b : Nat} {o o' : Go.Obj} (H : St w0 w m (ob b o :: L)) (w1 : World) (hw : w1 = w ∨ w1 = w.drew) : St w0 (ChangeMaps.setBlock w1 b o') m (ob b o' :: L) := by
  have hb := H.block
  have hl := (Array.getElem?_eq_some_iff.1 hb).1
  refine H.update ?_ ?_ ?_
  · rcases hw with rfl | rfl <;> exact ⟨rfl, rfl, rfl, by simp [ChangeMaps.setBlock]⟩
  · rcases hw with rfl | rfl <;> simp [ChangeMaps.setBlock, hl]
  · intro k hk hk2
    rcases hw with rfl | rfl <;> simp [ChangeMaps.setBlock, Ne.symm hk]
    rfl
theorem step_nextMap {b r c : Nat} {es : Array MapEntry} {seen : Array Nat} (A : Fr n a F D) (H : St w0 w m L) (hx : ev F x = some (.pointer (some ⟨b, 0, none⟩))) [hp : HasOb L b (.mapIter (some r) c seen c) L'] (hm : m r = some (.map es c)) (hlt : ∀ e ∈ es.toList, e.born < c) (hd : Nat.blt d n = true) {ts : Nat}
    (k1 : ∀ e, e ∈ es.toList → seen.contains e.born = false → (leftOf es (seen.push e.born)).size < (leftOf es seen).size → ∀ a' w', Fr n a' ((d, .tuple #[.bool true, e.key, e.val]) :: F) D → St w0 w' m (ob b (.mapIter (some r) c (seen.push e.born) c) :: L') → wpList P ops Q rest a' w')
    (k0 : (∀ e ∈ es.toList, seen.contains e.born = true) → ∀ a', Fr n a' ((d, .tuple #[.bool false]) :: F) D → wpList P ops Q rest a' w) :
    wpList P ops Q (⟨some d, .next x false, ts, pos, after, none⟩ :: rest) a w := by
  have H' : St w0 w m (ob b (.mapIter (some r) c seen c) :: L') := H.perm hp.p
  rcases run_next_at (P := P) w ts b r c c seen es c H'.block (H.frz _ _ hm) hlt (Nat.le_refl _) with ⟨h0, hr⟩ | ⟨e, he, w1, hw, hr⟩
  · refine wpList_plain rfl fun K hK => ?_
    unfold Oper.wp
    simp only [execOp, A.ev hx, Sem.run_bind, hr, Result.andThen_ok, Sem.run_pure]
    exact hK _ _ (k0 (all_seen es seen h0) _ (A.put hd _))
  · refine wpList_plain rfl fun K hK => ?_
    unfold Oper.wp
    simp only [execOp, A.ev hx, Sem.run_bind, hr, Result.andThen_ok, Sem.run_pure]
    exact hK _ _ (k1 e (mem_left he).1 (mem_left he).2 (left_shrinks es seen e he) _ _ (A.put hd _) (setBlock_upd H' w1 hw))
theorem Runs.entry {b r c : Nat} {es : Array MapEntry} {seen : Array Nat} {e : MapEntry} (A : Fr n a F D) (H : St w0 w m L) (hx : ev F x = some (.pointer (some ⟨b, 0, none⟩))) [hp : HasOb L b (.mapIter (some r) c (seen.push e.born) c) L'] (hm : m r = some (.map es c)) (he : e ∈ es.toList) (hn : (es.toList.map (·.born)).Nodup) :
    Runs P a w (.entry x) (.tuple #[e.key, e.val]) := by
  intro _ _ _ _ _
  have hb := St.block (H.perm hp.p)
  have := run_entry_at (P := P) w b r c seen es c e hb (H.frz _ _ hm) he hn
  simp only [execOp, A.ev hx, Sem.run_bind, this, Result.andThen_ok, Sem.run_pure]

/-! ### A map that is made -/
theorem step_makeMap {ts : Nat} (A : Fr n a F D) (H : St w0 w m L) (hd : Nat.blt d n = true)
    (K : ∀ b a' w', Fr n a' ((d, .map (some b)) :: F) D → St w0 w' m (ob b (.map #[] 0) :: L) → wpList P ops Q rest a' w') :
    wpList P ops Q (⟨some d, .makeMap t none, ts, pos, after, none⟩ :: rest) a w := by
  refine stepW (w1 := w.alloc (.map #[] 0)) (v := .map (some w.heap.size)) (fun _ _ _ _ _ => ?_) A hd fun a' A' => K _ a' _ A' (H.alloc _)
  simp only [execOp, Instr.makeMap, Sem.run_bind, newObj, Sem.run_pure]
  rfl
def freeKey (es : List MapEntry) (s : ByteArray) : Bool := es.all fun e => match e.key with
  | .string k => !decide (k = s)
  | _ => false
theorem step_insert {k e r c ts : Nat} {es : Array MapEntry} {s : ByteArray} {v : Value} {z : Operand} [M : MapC P t k e] [S : StrC P k] (A : Fr n a F D) (H : St w0 w m L) (hx : ev F x = some (.map (some r))) (hy : ev F y = some (.string s)) (hz : ev F z = some v)
    [hp : HasOb L r (.map es c) L'] (hf : freeKey es.toList s = true) (K : ∀ w', St w0 w' m (ob r (.map (es.push ⟨.string s, v, c⟩) (c + 1)) :: L') → wpList P ops Q rest a w') :
    wpList P ops Q (⟨none, .insert t x y z, ts, pos, after, none⟩ :: rest) a w := by
  have H' : St w0 w m (ob r (.map es c) :: L') := H.perm hp.p
  have hb := H'.block
  have hg : (getObj r).run P w = .ok (.map es c) w := by simp [getObj, Sem.run, hb]
  have hs : (setObj r (.map (es.push ⟨.string s, v, c⟩) (c + 1))).run P w = .ok () (ChangeMaps.setBlock w r (.map (es.push ⟨.string s, v, c⟩) (c + 1))) := by simp [setObj, Sem.run, hb, ChangeMaps.setBlock]
  have hall : ∀ q ∈ es.toList, ∃ k, q.key = .string k ∧ k ≠ s := fun q hq => by
    have := List.all_eq_true.1 hf q hq
    split at this
    · rename_i k hk; exact ⟨k, hk, by simpa using this⟩
    · cases this
  have hfn : Instr.findNow .string (.string s) es.toList 0 = some none := by
    rcases findNow_str (s := s) es.toList 0 (fun q hq => let ⟨k, h, _⟩ := hall q hq; ⟨k, h⟩) with ⟨h, _⟩ | ⟨j, q, _, h2, h3⟩
    · exact h
    · obtain ⟨k, hk, hne⟩ := hall q h2
      rw [hk] at h3; cases h3; exact absurd rfl hne
  refine wpList_plain rfl fun K' hK => ?_
  unfold Oper.wp
  simp only [execOp, A.ev hx, A.ev hy, A.ev hz, Instr.mapUpdate, Sem.run_bind, run_underlying M.h, Result.andThen_ok, hg, checkKey_str S.h, Instr.findKey, run_underlying S.h, hfn, Sem.run_pure, hs]
  exact hK _ _ (K _ (setBlock_upd H' w (.inl rfl)))
theorem St.map_freeze {r c : Nat} {es : Array MapEntry} {l : List (ByteArray × Value)} (H : St w0 w m (ob r (.map es c) :: L)) (he : (es.toList.map fun e => (e.key, e.val)) = ment l) (hn : (es.toList.map (·.born)).Nodup) (hc : (es.toList.all fun e => Nat.blt e.born c) = true) :
    ∃ m', Le m m' ∧ MapIs m' r (ment l) ∧ St w0 w m' L := by
  obtain ⟨m', h1, h2, h3⟩ := St.freezeO H
  exact ⟨m', h1, ⟨es, c, h2, by rw [he], hn, fun e h => by simpa [Nat.blt_eq] using List.all_eq_true.1 hc e h⟩, h3⟩

/-! ### Strings laid behind bytes -/
theorem strCells_u8 (s : ByteArray) : Lib.strCells s = s.data.toList.map u8 := by simp [Lib.strCells, u8]
theorem append_str_at {ty e u : Nat} {i : TypeInfo} {s : ByteArray} {ad : Option Addr} {k c : Nat} {xs : List Value} (ht : P.underlying t = some (.slice e)) (hu : P.underlying u = some .string) (hi : P.info? e = some i) (hz : i.zero = some (.int .u8 0)) (hs1 : i.size = 1) (hb1 : i.bytes = 1)
    (hown : w.ownsRow 0 e 1 (.slice ad k c) k xs) (hln : k + s.size ≤ 140737488355328) :
    ∃ v' w', (Builtin.append_ #[t, u] ty #[.slice ad k c, .string s]).run P w = .ok v' w' ∧ w'.ownsRow 0 e 1 v' (k + s.size) (xs ++ Lib.strCells s) ∧ w.grownBy w' (Value.slice ad k c).ownBlock ∧ (v'.ownBlock = (Value.slice ad k c).ownBlock ∨ v'.ownBlock = some w.heap.size) ∧ (v' = .slice none 0 0 ↔ Value.slice ad k c = .slice none 0 0 ∧ s.size = 0) := by
  obtain ⟨v', w', h1, h2, h3, h4⟩ := Lib.run_append_own_string (P := P) w 0 t u ty e i ht hu hi hz hs1 hb1 _ k xs hown s (by simp only [maxLen]; omega) hln (Nat.zero_le _)
  refine ⟨v', w', h1, h2, h3, ?_, h4⟩
  have hsz : (Lib.strCells s).length = s.size := Lib.strCells_length s
  rcases hown.2 with ⟨ho, _⟩ | ⟨g, cap, cur, ho, _, hg, hnc, _, hcs, _⟩
  · cases ho
    by_cases h0 : s.size = 0
    · have := h4.2 ⟨rfl, h0⟩
      subst this; exact .inl rfl
    · have hr := run_append_nil_string (P := P) w t u ty e i (.int .u8 0) ht hu hi hz s (by omega) (by omega) (by rw [hb1]; omega)
      rw [hr] at h1
      injection h1 with h1 _
      subst h1; exact .inr rfl
  · cases ho
    by_cases hroom : k + s.size ≤ c
    · have hr := Lib.run_append_room_string (P := P) w t u ty e i ht hu hi hs1 g k c cur hg s hroom (by simp at hcs; omega)
      rw [hr] at h1
      injection h1 with h1 _
      subst h1; exact .inl rfl
    · have hr := Lib.run_append_grow_string (P := P) w t u ty e i (.int .u8 0) ht hu hi hz ⟨g, 0, none⟩ k c xs (by rw [hs1]; exact hown.1) (hown.cells (g := g) rfl) s (by omega) (by omega) (by rw [hb1]; exact growslice_fits (by omega) (by omega))
      rw [hr] at h1
      injection h1 with h1 _
      subst h1; exact .inr rfl
theorem step_appendStr {e u k c by_ ts : Nat} {xs zs : List Value} {ad : Option Addr} {s : ByteArray} {ag : Bool} (A : Fr n a F D) (H : St w0 w m L) (hx : ev F x = some (.slice ad k c)) (hy : ev F y = some (.string s))
    [hr : HasRow L e 1 ad k c xs L'] [hs : SlC P t e 1] [hu : StrC P u] [T : TyC P e ag 1 by_ zs] [Z : ZrC P e (.int .u8 0)] (hb : Nat.beq by_ 1 = true) (hln : k + s.size ≤ 140737488355328) (hd : Nat.blt d n = true)
    (K : ∀ ad' c' a' w', (ad = none → s.size = 0 → ad' = none) → Fr n a' ((d, .slice ad' (k + s.size) c') :: F) D → St w0 w' m (row e 1 ad' (k + s.size) c' (xs ++ s.data.toList.map u8) :: L') → wpList P ops Q rest a' w') :
    wpList P ops Q (⟨some d, .call { callee := .builtin .append, args := #[x, y], argTypes := #[t, u] }, ts, pos, after, none⟩ :: rest) a w := by
  have HR : St w0 w m (row e 1 ad k c xs :: L') := H.perm hr.p
  obtain ⟨i, z, g1, g2, g3, g4, g5⟩ := T.h.info
  obtain ⟨q0, j1, j2, j3⟩ := slEl_spec hs.h
  have hz : i.zero = some (.int .u8 0) := by have := Z.h; rw [g1] at this; simpa using this
  obtain ⟨v', w', r1, r2, r3, r4, r5⟩ := append_str_at (P := P) (ty := ts) j1 hu.h g1 hz g2 (by rw [g3]; exact Nat.eq_of_beq_eq_true hb) HR.row_owns hln
  obtain ⟨ad', c', rfl, H'⟩ := HR.row_grown r2 r3 r4
  rw [strCells_u8] at H'
  refine wpList_plain rfl fun K' hK => ?_
  unfold Oper.wp execOp
  simp only [resolve, invoke, builtin, Sem.run_bind, Sem.run_pure, Result.andThen_ok, List.map_toArray, List.map_cons, List.map_nil, A.ev hx, A.ev hy, r1]
  refine hK _ _ (K ad' c' _ w' (fun e h0 => ?_) (A.put hd _) H')
  subst e
  have hnil : Value.slice none k c = .slice none 0 0 := by
    rcases HR.row_owns.2 with ⟨h, _⟩ | ⟨g, cap, cur, h, _⟩
    · exact h
    · cases h
  have := r5.2 ⟨hnil, h0⟩
  simp only [Value.slice.injEq] at this
  exact this.1
end
end Sl
end Go.Proofs.YtanhehbfbakdcaaGreatDoor
