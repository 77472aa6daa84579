/- From the row's listed variables to Glob. Own work. -/
import Derived.WalkKit
import Derived.WalkLawsBesides
import Derived.Maps.AppendAt
import Derived.Laws.CopyRow
import Derived.OrdersHeld
import Derived.KernelRfl
import Derived.Lib.Strings
import Derived.RangeFuncLeaves
import Derived.RangeFuncIn
import Derived.RangeFuncOwn
import Derived.RangeFuncCalls
import Derived.RangeFuncRecord
import Derived.Laws.AppendOwn
import Derived.Lib.Overlaps
import Derived.Room.Entries
import Derived.Lib.SliceRun
import Derived.Test.YtanhehbfbakdcaaGreatDoorRows
import Derived.Deep.Slices
import Derived.OpenShut
import Derived.Test.YtanhehbfbakdcaaGreatDoorProg
import Derived.Shelf.Strings.Builder1
import Derived.Shelf.Small.Strs
import Derived.Shelf.Strings.BuilderF
import Derived.Shelf.Strings.BuilderK
import Derived.Shelf.Strconv.Atoi
import Derived.Shelf.Strconv.Itoa0
import Derived.Shelf.Strconv.Itoa1
import Derived.Shelf.LaysM
import Derived.Shelf.Strconv.Itoa2
import Derived.Shelf.Strconv.Itoa3
import Derived.Shelf.Strconv.AtoiErrFast
import Derived.Shelf.Strconv.ParseIntEmpty
import Derived.Shelf.Strconv.AtoiFail
import Derived.Shelf.Strconv.Clone
import Derived.Shelf.Strconv.SyntaxError
import Derived.Shelf.LaysC
import Derived.Shelf.Strconv.ToError
import Derived.Shelf.Strconv.AtoiErr
import Derived.Shelf.Strconv.ErrVar
import Derived.Shelf.Strconv.Lower
import Derived.Shelf.Strconv.ParseUint10
import Derived.Shelf.Strconv.ParseUint10Empty
import Derived.Shelf.Strconv.ParseUint10Any
import Derived.Shelf.Strconv.ParseInt10
import Derived.Shelf.Strconv.AtoiLong
import Derived.Shelf.Strconv.AtoiInnerAll
import Derived.Shelf.Strconv.RangeError
import Derived.Shelf.Strconv.ToErrorRange
import Derived.Shelf.Strconv.AtoiAll
import Derived.Shelf.Strconv.ErrVarAll
import Derived.Shelf.Strconv.ParseUintEmpty
import Derived.Shelf.Strconv.ParseUint10b64
import Derived.Shelf.Strconv.ParseUint10b32
import Derived.Shelf.Strconv.ParseUint10b16
import Derived.Shelf.Strconv.ParseUint10b8
import Derived.Shelf.Strconv.ParseUint10At
import Derived.Shelf.Strconv.ParseInt10At64
import Derived.Shelf.Strconv.ParseInt10At32
import Derived.Shelf.Strconv.ParseInt10At16
import Derived.Shelf.Strconv.ParseInt10At8
import Derived.Shelf.Strconv.ParseInt10All
import Derived.Shelf.Strings.Search1
import Derived.Shelf.Strings.Prefix
import Derived.Lib.AtoiErrMem
import Derived.Lib.SmallJoins
import Derived.Lib.LaidTab
import Derived.ChangeMaps3
import Derived.MakeChecks
/- A small separation logic over the kit's walk: frozen memory 'm', owned blocks 'L', frames as lists of facts. Own work; nothing about a program stands here. -/
namespace Go.Proofs.YtanhehbfbakdcaaGreatDoor
namespace Sl
open Go Go.RowKit

/-! ### 1. Memory -/
abbrev Mem := Nat → Option Obj
def Le (m m' : Mem) : Prop := ∀ b o, m b = some o → m' b = some o
theorem Le.refl (m : Mem) : Le m m := fun _ _ h => h
theorem Le.trans {a b c : Mem} (h : Le a b) (k : Le b c) : Le a c := fun _ _ x => k _ _ (h _ _ x)
def single (b : Nat) (o : Obj) : Mem := fun k => if k = b then some o else none
def Res := Mem → Prop
def Holds : List Res → Mem → Prop
  | [], h => ∀ b, h b = none
  | r :: L, h => ∃ h1 h2, r h1 ∧ Holds L h2 ∧ (∀ b, h1 b = none ∨ h2 b = none) ∧ ∀ b, h b = (h1 b).or (h2 b)

structure Kep (w0 w : World) : Prop where
  os : w.os = w0.os
  tape : w.tape = w0.tape
  output : w.output = w0.output
  size : w0.heap.size ≤ w.heap.size
theorem Kep.refl (w : World) : Kep w w := ⟨rfl, rfl, rfl, Nat.le_refl _⟩
theorem Kep.trans {a b c : World} (h : Kep a b) (k : Kep b c) : Kep a c := ⟨k.os.trans h.os, k.tape.trans h.tape, k.output.trans h.output, Nat.le_trans h.size k.size⟩

structure St (w0 w : World) (m : Mem) (L : List Res) : Prop where
  io : Kep w0 w
  frz : ∀ b o, m b = some o → w.heap[b]? = some o
  own : ∃ h, Holds L h ∧ ∀ b o, h b = some o → w.heap[b]? = some o ∧ m b = none

theorem Holds.perm {L L' : List Res} (p : L.Perm L') : ∀ {h}, Holds L h → Holds L' h := by
  induction p with
  | nil => exact fun x => x
  | cons r _ ih => rintro h ⟨h1, h2, a, b, c, d⟩; exact ⟨h1, h2, a, ih b, c, d⟩
  | swap r s l =>
    rintro h ⟨h1, h2, a, ⟨h3, h4, b, c, d, e⟩, f, g⟩
    refine ⟨h3, fun k => (h1 k).or (h4 k), b, ⟨h1, h4, a, c, fun k => ?_, fun _ => rfl⟩, fun k => ?_, fun k => ?_⟩
    · rcases f k with x | x
      · exact .inl x
      · rw [e] at x; exact .inr (by cases hh : h3 k <;> simp_all)
    · rcases f k with x | x
      · rcases d k with y | y
        · exact .inl y
        · exact .inr (by simp [x, y])
      · rw [e] at x; exact .inl (by cases hh : h3 k <;> simp_all)
    · rw [g, e]
      rcases f k with x | x
      · simp [x]
      · rw [e] at x
        cases hh : h3 k <;> simp_all
  | trans _ _ i j => exact fun x => j (i x)

theorem St.perm {w0 w : World} {m : Mem} {L L' : List Res} (H : St w0 w m L) (p : L.Perm L') : St w0 w m L' := by
  obtain ⟨a, b, h, c, d⟩ := H
  exact ⟨a, b, h, c.perm p, d⟩

theorem St.mapHead {w0 w : World} {m : Mem} {r s : Res} {L : List Res} (H : St w0 w m (r :: L)) (k : ∀ h, r h → s h) : St w0 w m (s :: L) := by
  obtain ⟨a, b, h, ⟨h1, h2, x, y, z, u⟩, d⟩ := H
  exact ⟨a, b, h, ⟨h1, h2, k _ x, y, z, u⟩, d⟩

theorem St.drop {w0 w : World} {m : Mem} {r : Res} {L : List Res} (H : St w0 w m (r :: L)) : St w0 w m L := by
  obtain ⟨a, b, h, ⟨h1, h2, x, y, z, u⟩, d⟩ := H
  refine ⟨a, b, h2, y, fun k o hk => d k o ?_⟩
  rw [u]
  rcases z k with hz | hz
  · simp [hz, hk]
  · rw [hz] at hk; cases hk

/-- 'L' is 'r' and 'L''. -/
def Take (L : List Res) (r : Res) (L' : List Res) : Prop := L.Perm (r :: L')
theorem Take.head {r : Res} {L : List Res} : Take (r :: L) r L := .refl _
theorem Take.tail {r s : Res} {L L' : List Res} (h : Take L r L') : Take (s :: L) r (s :: L') := (List.Perm.cons s h).trans (.swap r s L')
theorem St.take {w0 w : World} {m : Mem} {r : Res} {L L' : List Res} (H : St w0 w m L) (t : Take L r L') : St w0 w m (r :: L') := H.perm t

/-! ### 2. Blocks of cells -/
def ob (b : Nat) (o : Obj) : Res := fun h => h = single b o
@[reducible] def pt (b : Nat) (cs : List Value) (t : TypeId) : Res := ob b (.cells cs.toArray t (0, 0))
def emp : Res := fun h => ∀ b, h b = none
def pure (p : Prop) : Res := fun h => p ∧ ∀ b, h b = none
def ex {α : Type} (r : α → Res) : Res := fun h => ∃ x, r x h
def star (r s : Res) : Res := fun h => ∃ h1 h2, r h1 ∧ s h2 ∧ (∀ b, h1 b = none ∨ h2 b = none) ∧ ∀ b, h b = (h1 b).or (h2 b)

theorem St.unpure {w0 w : World} {m : Mem} {p : Prop} {L : List Res} (H : St w0 w m (pure p :: L)) : p ∧ St w0 w m L := by
  refine ⟨?_, H.drop⟩
  obtain ⟨_, _, _, ⟨_, _, x, _⟩, _⟩ := H
  exact x.1
theorem St.unex {w0 w : World} {m : Mem} {α : Type} {r : α → Res} {L : List Res} (H : St w0 w m (ex r :: L)) : ∃ x, St w0 w m (r x :: L) := by
  obtain ⟨a, b, h, ⟨h1, h2, ⟨x, hx⟩, y, z, u⟩, d⟩ := H
  exact ⟨x, a, b, h, ⟨h1, h2, hx, y, z, u⟩, d⟩
theorem St.mkpure {w0 w : World} {m : Mem} {p : Prop} {L : List Res} (H : St w0 w m L) (hp : p) : St w0 w m (pure p :: L) := by
  obtain ⟨a, b, h, y, d⟩ := H
  exact ⟨a, b, h, ⟨fun _ => none, h, ⟨hp, fun _ => rfl⟩, y, fun _ => .inl rfl, fun _ => by simp⟩, d⟩
theorem St.mkex {w0 w : World} {m : Mem} {α : Type} {r : α → Res} {L : List Res} {x : α} (H : St w0 w m (r x :: L)) : St w0 w m (ex r :: L) := H.mapHead fun _ h => ⟨x, h⟩
theorem St.unstar {w0 w : World} {m : Mem} {r s : Res} {L : List Res} (H : St w0 w m (star r s :: L)) : St w0 w m (r :: s :: L) := by
  obtain ⟨a, b, h, ⟨h1, h2, ⟨k1, k2, x1, x2, x3, x4⟩, y, z, u⟩, d⟩ := H
  refine ⟨a, b, h, ⟨k1, fun k => (k2 k).or (h2 k), x1, ⟨k2, h2, x2, y, fun k => ?_, fun _ => rfl⟩, fun k => ?_, fun k => ?_⟩, d⟩
  · rcases z k with q | q
    · rw [x4] at q; exact .inl (by cases hh : k1 k <;> simp_all)
    · exact .inr q
  · rcases x3 k with q | q
    · exact .inl q
    · rcases z k with v | v
      · rw [x4] at v; exact .inl (by cases hh : k1 k <;> simp_all)
      · exact .inr (by simp [q, v])
  · rw [u, x4, Option.or_assoc]
theorem St.mkstar {w0 w : World} {m : Mem} {r s : Res} {L : List Res} (H : St w0 w m (r :: s :: L)) : St w0 w m (star r s :: L) := by
  obtain ⟨a, b, h, ⟨h1, h2, x, ⟨k1, k2, y1, y2, y3, y4⟩, z, u⟩, d⟩ := H
  refine ⟨a, b, h, ⟨fun k => (h1 k).or (k1 k), k2, ⟨h1, k1, x, y1, fun k => ?_, fun _ => rfl⟩, y2, fun k => ?_, fun k => ?_⟩, d⟩
  · rcases z k with q | q
    · exact .inl q
    · rw [y4] at q; exact .inr (by cases hh : k1 k <;> simp_all)
  · rcases y3 k with q | q
    · rcases z k with v | v
      · exact .inl (by simp [q, v])
      · rw [y4] at v; exact .inr (by cases hh : k1 k <;> simp_all)
    · exact .inr q
  · rw [u, y4, Option.or_assoc]

theorem St.block {w0 w : World} {m : Mem} {b : Nat} {o : Obj} {L : List Res} (H : St w0 w m (ob b o :: L)) : w.heap[b]? = some o := by
  obtain ⟨_, _, h, ⟨h1, h2, rfl, y, z, u⟩, d⟩ := H
  refine (d b _ ?_).1
  rw [u]; simp [single]

/-- The owned block 'b' becomes something else, and nothing else has turned. -/
theorem St.update {w0 w w' : World} {m : Mem} {b : Nat} {o0 o1 : Obj} {L : List Res} (H : St w0 w m (ob b o0 :: L))
    (hio : Kep w w') (hb : w'.heap[b]? = some o1) (ho : ∀ k, k ≠ b → k < w.heap.size → w'.heap[k]? = w.heap[k]?) : St w0 w' m (ob b o1 :: L) := by
  have hlt : ∀ k o, w.heap[k]? = some o → k < w.heap.size := fun k o h => (Array.getElem?_eq_some_iff.1 h).1
  obtain ⟨a, c, h, ⟨h1, h2, rfl, y, z, u⟩, d⟩ := H
  have hmb : m b = none := (d b o0 (by rw [u]; simp [single])).2
  have h2b : h2 b = none := by
    rcases z b with q | q
    · simp [single] at q
    · exact q
  refine ⟨a.trans hio, fun k o hk => ?_, fun k => (single b o1 k).or (h2 k), ⟨single b _, h2, rfl, y, fun k => ?_, fun _ => rfl⟩, fun k o hk => ?_⟩
  · rw [ho k (fun e => by subst e; rw [hmb] at hk; cases hk) (hlt _ _ (c _ _ hk))]
    exact c _ _ hk
  · by_cases e : k = b
    · subst e; exact .inr h2b
    · exact .inl (by simp [single, e])
  · by_cases e : k = b
    · subst e
      simp [single] at hk
      subst hk
      exact ⟨hb, hmb⟩
    · have hk2 : h2 k = some o := by simpa [single, e] using hk
      have := d k o (by rw [u]; simp [single, e, hk2])
      exact ⟨by rw [ho k e (hlt _ _ this.1)]; exact this.1, this.2⟩

/-- A new block. -/
theorem St.new {w0 w w' : World} {m : Mem} {b : Nat} {o1 : Obj} {L : List Res} (H : St w0 w m L)
    (hio : Kep w w') (hb : w'.heap[b]? = some o1) (hnew : w.heap.size ≤ b) (ho : ∀ k, k < w.heap.size → w'.heap[k]? = w.heap[k]?) : St w0 w' m (ob b o1 :: L) := by
  have hlt : ∀ k o, w.heap[k]? = some o → k < w.heap.size := fun k o h => (Array.getElem?_eq_some_iff.1 h).1
  obtain ⟨a, c, h, y, d⟩ := H
  have hmb : m b = none := by
    cases hh : m b with
    | none => rfl
    | some o => exact absurd (hlt _ _ (c _ _ hh)) (by omega)
  have hhb : h b = none := by
    cases hh : h b with
    | none => rfl
    | some o => exact absurd (hlt _ _ (d _ _ hh).1) (by omega)
  refine ⟨a.trans hio, fun k o hk => by rw [ho k (hlt _ _ (c _ _ hk))]; exact c _ _ hk, fun k => (single b o1 k).or (h k), ⟨single b _, h, rfl, y, fun k => ?_, fun _ => rfl⟩, fun k o hk => ?_⟩
  · by_cases e : k = b
    · subst e; exact .inr hhb
    · exact .inl (by simp [single, e])
  · by_cases e : k = b
    · subst e
      simp [single] at hk
      subst hk
      exact ⟨hb, hmb⟩
    · have hk2 : h k = some o := by simpa [single, e] using hk
      have := d k o hk2
      exact ⟨by rw [ho k (hlt _ _ this.1)]; exact this.1, this.2⟩

theorem Kep.alloc (w : World) (o : Obj) : Kep w (w.alloc o) := ⟨rfl, rfl, rfl, by simp⟩
theorem St.alloc {w0 w : World} {m : Mem} {L : List Res} (H : St w0 w m L) (o : Obj) : St w0 (w.alloc o) m (ob w.heap.size o :: L) :=
  H.new (Kep.alloc _ _) (heap_alloc_new w _) (Nat.le_refl _) (fun k hk => Below.heap_alloc w _ k hk)

/-- Only draws. -/
theorem St.same {w0 w w' : World} {m : Mem} {L : List Res} (H : St w0 w m L) (hio : Kep w w') (ho : ∀ k, k < w.heap.size → w'.heap[k]? = w.heap[k]?) : St w0 w' m L := by
  have hlt : ∀ k o, w.heap[k]? = some o → k < w.heap.size := fun k o h => (Array.getElem?_eq_some_iff.1 h).1
  obtain ⟨a, c, h, y, d⟩ := H
  exact ⟨a.trans hio, fun k o hk => by rw [ho k (hlt _ _ (c _ _ hk))]; exact c _ _ hk, h, y, fun k o hk => ⟨by rw [ho k (hlt _ _ (d _ _ hk).1)]; exact (d _ _ hk).1, (d _ _ hk).2⟩⟩
theorem St.drewN {w0 w : World} {m : Mem} {L : List Res} (H : St w0 w m L) (n : Nat) : St w0 { w with drawn := n } m L := H.same ⟨rfl, rfl, rfl, Nat.le_refl _⟩ fun _ _ => rfl

/-- The frozen block 'b' holds these cells. -/
def fz (m : Mem) (b : Nat) (cs : List Value) : Prop := ∃ t fr, m b = some (.cells cs.toArray t fr)
theorem fz.mono {m m' : Mem} {b : Nat} {cs : List Value} (h : Le m m') (k : fz m b cs) : fz m' b cs := by
  obtain ⟨t, fr, x⟩ := k
  exact ⟨t, fr, h _ _ x⟩
theorem St.fzblock {w0 w : World} {m : Mem} {L : List Res} (H : St w0 w m L) {b : Nat} {cs : List Value} (h : fz m b cs) : ∃ t fr, w.heap[b]? = some (.cells cs.toArray t fr) := by
  obtain ⟨t, fr, x⟩ := h
  exact ⟨t, fr, H.frz _ _ x⟩
theorem St.freezeO {w0 w : World} {m : Mem} {b : Nat} {o1 : Obj} {L : List Res} (H : St w0 w m (ob b o1 :: L)) : ∃ m', Le m m' ∧ m' b = some o1 ∧ St w0 w m' L := by
  have hb := H.block
  obtain ⟨a, c, h, ⟨h1, h2, rfl, y, z, u⟩, d⟩ := H
  have hmb : m b = none := (d b o1 (by rw [u]; simp [single])).2
  have h2b : h2 b = none := by
    rcases z b with q | q
    · simp [single] at q
    · exact q
  refine ⟨fun k => if k = b then some o1 else m k, fun k o hk => ?_, by simp, a, fun k o hk => ?_, h2, y, fun k o hk => ?_⟩
  · have : k ≠ b := fun e => by subst e; rw [hmb] at hk; cases hk
    simp [this, hk]
  · by_cases e : k = b
    · subst e; simp at hk; subst hk; exact hb
    · simp [e] at hk; exact c _ _ hk
  · have e : k ≠ b := fun e => by subst e; rw [h2b] at hk; cases hk
    have := d k o (by rw [u]; simp [single, e, hk])
    exact ⟨this.1, by simp [e, this.2]⟩

theorem St.freeze {w0 w : World} {m : Mem} {b t : Nat} {cs : List Value} {L : List Res} (H : St w0 w m (pt b cs t :: L)) : ∃ m', Le m m' ∧ fz m' b cs ∧ St w0 w m' L := by
  obtain ⟨m', h1, h2, h3⟩ := St.freezeO H
  exact ⟨m', h1, ⟨t, (0, 0), h2⟩, h3⟩

/-! ### 3. Contracts -/
def Spec (P : Program) (f : FuncId) (args : Array Value) (m : Mem) (L : List Res) (Post : Mem → Ending → List Res → Prop) : Prop :=
  ∀ w Lf, St w w m (L ++ Lf) → Calls P f args w fun e w' => ∃ m' L', Le m m' ∧ Post m' e L' ∧ St w w' m' (L' ++ Lf)

theorem St.reset {w0 w : World} {m : Mem} {L : List Res} (H : St w0 w m L) : St w w m L := ⟨Kep.refl w, H.frz, H.own⟩
theorem St.rebase {w0 w w' : World} {m m' : Mem} {L L' : List Res} (H : St w0 w m L) (K : St w w' m' L') : St w0 w' m' L' := ⟨H.io.trans K.io, K.frz, K.own⟩

theorem Spec.mono {P : Program} {f : FuncId} {args : Array Value} {m : Mem} {L : List Res} {Post Post' : Mem → Ending → List Res → Prop} (h : Spec P f args m L Post)
    (k : ∀ m' e L', Le m m' → Post m' e L' → Post' m' e L') : Spec P f args m L Post' := fun w Lf H =>
  Calls.mono (h w Lf H) fun _ _ ⟨m', L', a, b, c⟩ => ⟨m', L', a, k _ _ _ a b, c⟩

theorem Spec.call {P : Program} {f : FuncId} {args : Array Value} {w0 w : World} {m : Mem} {L Lf : List Res} {Post : Mem → Ending → List Res → Prop} {R : Ending → World → Prop}
    (h : Spec P f args m L Post) (H : St w0 w m (L ++ Lf)) (k : ∀ e w' m' L', Le m m' → Post m' e L' → St w0 w' m' (L' ++ Lf) → R e w') : Calls P f args w R :=
  Calls.mono (h w Lf H.reset) fun _ _ ⟨m', L', a, b, c⟩ => k _ _ m' L' a b (H.rebase c)


/-! ### 4. Frames -/
def lk : List (Nat × Value) → Nat → Option Value
  | [], _ => none
  | (i, v) :: F, j => bif Nat.beq i j then some v else lk F j
structure Fr (n : Nat) (a : Act) (F : List (Nat × Value)) (D : List Deferred) : Prop where
  size : a.tmps.size = n
  defers : a.defers = D
  at_ : ∀ i v, lk F i = some v → a.tmps[i]? = some v
def ev (F : List (Nat × Value)) : Operand → Option Value
  | .tmp t => lk F t
  | .const v => some v
  | .global g => some (.pointer (some ⟨g, 0, none⟩))
  | .func f => some (.func (.func f) #[] #[])
theorem Fr.ev {n : Nat} {a : Act} {F : List (Nat × Value)} {D : List Deferred} (A : Fr n a F D) {x : Operand} {v : Value} (h : ev F x = some v) : a.eval x = v := by
  cases x with
  | tmp t =>
    have h' : lk F t = some v := h
    have := A.at_ t v h'
    simp [Act.eval, Array.getD_eq_getD_getElem?, this]
  | const c => exact Option.some.inj h
  | global g => exact Option.some.inj h
  | func f => exact Option.some.inj h
theorem Fr.put {n : Nat} {a : Act} {F : List (Nat × Value)} {D : List Deferred} (A : Fr n a F D) {d : Nat} (hd : Nat.blt d n = true) (v : Value) : Fr n (a.put (some d) v) ((d, v) :: F) D := by
  have hd' : d < n := by simpa [Nat.blt_eq] using hd
  refine ⟨by simp [Act.put, A.size], A.defers, fun i u h => ?_⟩
  simp only [lk, cond_eq_ite] at h
  by_cases e : d = i
  · subst e
    simp at h
    subst h
    simp [Act.put, A.size, hd']
  · have : Nat.beq d i = false := by
      cases hh : Nat.beq d i
      · rfl
      · exact absurd (Nat.eq_of_beq_eq_true hh) e
    simp only [this] at h
    simp only [Act.put]
    rw [Array.getElem?_setIfInBounds_ne (by simpa using e)]
    exact A.at_ i u (by simpa using h)
theorem Fr.weaken {n : Nat} {a : Act} {F F' : List (Nat × Value)} {D : List Deferred} (A : Fr n a F D) (h : ∀ i v, lk F' i = some v → lk F i = some v) : Fr n a F' D := ⟨A.size, A.defers, fun i v x => A.at_ i v (h i v x)⟩
theorem Fr.nil {n : Nat} {a : Act} {F : List (Nat × Value)} {D : List Deferred} (A : Fr n a F D) : Fr n a [] D := ⟨A.size, A.defers, fun i v x => by simp [lk] at x⟩
theorem Fr.cons {n : Nat} {a : Act} {F F' : List (Nat × Value)} {D : List Deferred} (A : Fr n a F D) {i : Nat} {v : Value} (hv : lk F i = some v) (B : Fr n a F' D) : Fr n a ((i, v) :: F') D := by
  refine ⟨A.size, A.defers, fun j u h => ?_⟩
  simp only [lk, cond_eq_ite] at h
  by_cases e : i = j
  · subst e
    simp at h
    subst h
    exact A.at_ i _ hv
  · have : Nat.beq i j = false := by
      cases hh : Nat.beq i j
      · rfl
      · exact absurd (Nat.eq_of_beq_eq_true hh) e
    simp only [this] at h
    exact B.at_ j u (by simpa using h)

/-! ### 5. Entering, leaving -/
def args0 : Nat → List Value → List (Nat × Value)
  | _, [] => []
  | i, v :: vs => (i, v) :: args0 (i + 1) vs
theorem lk_args0 : ∀ (vs : List Value) (i j : Nat) (u : Value), lk (args0 i vs) j = some u → i ≤ j ∧ vs[j - i]? = some u
  | [], _, _, _, h => by simp [args0, lk] at h
  | v :: vs, i, j, u, h => by
    simp only [args0, lk, cond_eq_ite] at h
    by_cases e : i = j
    · subst e
      simp at h
      exact ⟨Nat.le_refl _, by simp [h]⟩
    · have : Nat.beq i j = false := by
        cases hh : Nat.beq i j
        · rfl
        · exact absurd (Nat.eq_of_beq_eq_true hh) e
      simp only [this] at h
      obtain ⟨h1, h2⟩ := lk_args0 vs (i + 1) j u (by simpa using h)
      refine ⟨by omega, ?_⟩
      rw [show j - i = (j - (i + 1)) + 1 by omega]
      simpa using h2

theorem Spec.enter {P : Program} {f : FuncId} {fn : Func} {c : Code} {vs : List Value} {m : Mem} {L : List Res} {Post : Mem → Ending → List Res → Prop} (hf : P.funcs[f]? = some fn) (hb : fn.body = some c)
    (n : Nat) (hn : fn.ntmps = n) (hle' : Nat.ble vs.length n = true)
    (h : ∀ a w Lf, Fr n a (args0 0 vs) [] → St w w m (L ++ Lf) → c.wp P (bodyPost P fn fun e w' => ∃ m' L', Le m m' ∧ Post m' e L' ∧ St w w' m' (L' ++ Lf)) a w) : Spec P f vs.toArray m L Post := by
  intro w Lf H
  have hle : vs.length ≤ n := Nat.le_of_ble_eq_true hle'
  refine calls_of_wp hf hb (h _ w Lf ⟨?_, rfl, fun i v hv => ?_⟩ H)
  · simp; omega
  · obtain ⟨_, h2⟩ := lk_args0 vs 0 i v hv
    have hi : i < vs.length := (List.getElem?_eq_some_iff.1 h2).1
    simp only [Array.getElem?_append, List.size_toArray, hi, if_true]
    simpa using h2

theorem Spec.enter0 {P : Program} {f : FuncId} {fn : Func} {c : Code} {vs : List Value} {m : Mem} {Post : Mem → Ending → List Res → Prop} (hf : P.funcs[f]? = some fn) (hb : fn.body = some c)
    (n : Nat) (hn : fn.ntmps = n) (hle : Nat.ble vs.length n = true)
    (h : ∀ a w Lf, Fr n a (args0 0 vs) [] → St w w m Lf → c.wp P (bodyPost P fn fun e w' => ∃ m' L', Le m m' ∧ Post m' e L' ∧ St w w' m' (L' ++ Lf)) a w) : Spec P f vs.toArray m [] Post :=
  Spec.enter hf hb n hn hle fun a w Lf A H => h a w Lf A H

theorem ret_tmp {P : Program} {fn : Func} {R : Ending → World → Prop} {n : Nat} {a : Act} {F : List (Nat × Value)} {w : World} {v : Value} {t : Nat} (A : Fr n a F []) (hr : fn.results = #[.tmp t]) (hv : lk F t = some v) (k : R (.returned v) w) :
    bodyPost P fn R .ret a w := ⟨A.defers, v, by rw [results_tmp hr]; simp [Array.getD_eq_getD_getElem?, A.at_ t v hv], k⟩
theorem ret_none {P : Program} {fn : Func} {R : Ending → World → Prop} {n : Nat} {a : Act} {F : List (Nat × Value)} {w : World} (A : Fr n a F []) (hr : fn.results = #[]) (k : R (.returned (.tuple #[])) w) :
    bodyPost P fn R .ret a w := ⟨A.defers, _, results_none hr _ _ _, k⟩
theorem end_none {P : Program} {fn : Func} {R : Ending → World → Prop} {n : Nat} {a : Act} {F : List (Nat × Value)} {w : World} (A : Fr n a F []) (hr : fn.results = #[]) (k : R (.returned (.tuple #[])) w) :
    bodyPost P fn R .normal a w := ⟨A.defers, _, results_none hr _ _ _, k⟩
theorem ret_tmp2 {P : Program} {fn : Func} {R : Ending → World → Prop} {n : Nat} {a : Act} {F : List (Nat × Value)} {w : World} {v u : Value} {t s : Nat} (A : Fr n a F []) (hr : fn.results = #[.tmp t, .tmp s]) (hv : lk F t = some v) (hu : lk F s = some u)
    (k : R (.returned (.tuple #[v, u])) w) : bodyPost P fn R .ret a w := ⟨A.defers, _, by rw [results_tmp2 hr]; simp [Array.getD_eq_getD_getElem?, A.at_ t v hv, A.at_ s u hu], k⟩

end Sl
end Go.Proofs.YtanhehbfbakdcaaGreatDoor
/- Rules for the operations of the machine, in the words of the separation logic. Own work; nothing about a program stands here. -/
namespace Go.Proofs.YtanhehbfbakdcaaGreatDoor
namespace Sl
open Go Go.RowKit

/-! ### 1. What a type is -/
def aggD : TypeDesc → Bool
  | .struct _ | .array _ _ => true
  | _ => false
structure Ty (P : Program) (t : TypeId) (agg : Bool) (size bytes : Nat) (zs : List Value) : Prop where
  ag : (P.underlying t).map aggD = some agg
  inf : (P.info? t).map (fun i => (i.size, i.bytes, i.zero.map (·.cells.toList))) = some (size, bytes, some zs)
theorem Ty.und {P : Program} {t : TypeId} {agg : Bool} {size bytes : Nat} {zs : List Value} (T : Ty P t agg size bytes zs) : ∃ d, P.underlying t = some d ∧ aggD d = agg := by
  have := T.ag
  cases h : P.underlying t with
  | none => simp [h] at this
  | some d => exact ⟨d, rfl, by simpa [h] using this⟩
theorem Ty.info {P : Program} {t : TypeId} {agg : Bool} {size bytes : Nat} {zs : List Value} (T : Ty P t agg size bytes zs) : ∃ i z, P.info? t = some i ∧ i.size = size ∧ i.bytes = bytes ∧ i.zero = some z ∧ z.cells.toList = zs := by
  have := T.inf
  cases h : P.info? t with
  | none => simp [h] at this
  | some i =>
    simp [h] at this
    obtain ⟨h1, h2, z, h3, h4⟩ := this
    exact ⟨i, z, rfl, h1, h2, h3, h4⟩
theorem Ty.runAgg {P : Program} {t : TypeId} {agg : Bool} {size bytes : Nat} {zs : List Value} (T : Ty P t agg size bytes zs) (w : World) : (isAgg t).run P w = .ok agg w := by
  obtain ⟨d, h1, h2⟩ := T.und
  unfold isAgg
  rw [Sem.run_bind, run_underlying h1 w]
  cases d <;> simp_all [aggD]
theorem Ty.runSize {P : Program} {t : TypeId} {agg : Bool} {size bytes : Nat} {zs : List Value} (T : Ty P t agg size bytes zs) (w : World) : (sizeOf t).run P w = .ok size w := by
  obtain ⟨i, z, h1, h2, _⟩ := T.info
  simp [sizeOf, typeInfo, Sem.run_bind, h1, h2]
theorem Ty.runZero {P : Program} {t : TypeId} {agg : Bool} {size bytes : Nat} {zs : List Value} (T : Ty P t agg size bytes zs) (w : World) : ∃ z, (zeroValue t).run P w = .ok z w ∧ z.cells.toList = zs := by
  obtain ⟨i, z, h1, _, _, h3, h4⟩ := T.info
  exact ⟨z, by simp [zeroValue, typeInfo, Sem.run_bind, h1, h3], h4⟩

/-! ### 2. Pieces of cells -/
def consO (c : Value) : Option (List Value) → Option (List Value)
  | some r => some (c :: r)
  | none => none
theorem consO_some {c : Value} {o : Option (List Value)} {vs : List Value} (h : consO c o = some vs) : ∃ r, o = some r ∧ vs = c :: r := by
  cases o with
  | none => cases h
  | some r => exact ⟨r, rfl, (Option.some.inj h).symm⟩
def getN : List Value → Nat → Nat → Option (List Value)
  | _, 0, 0 => some []
  | c :: cs, 0, k + 1 => consO c (getN cs 0 k)
  | _ :: cs, o + 1, k => getN cs o k
  | [], _, _ => none
def setN : List Value → Nat → List Value → Option (List Value)
  | cs, 0, [] => some cs
  | _ :: cs, 0, v :: vs => consO v (setN cs 0 vs)
  | c :: cs, o + 1, vs => consO c (setN cs o vs)
  | [], _, _ => none
theorem getN_some : ∀ {cs : List Value} {o k : Nat} {vs : List Value}, getN cs o k = some vs → o + k ≤ cs.length ∧ vs = (cs.drop o).take k
  | cs, 0, 0, vs, h => by
    have : vs = [] := by cases cs <;> simpa [getN] using h.symm
    simp [this]
  | c :: cs, 0, k + 1, vs, h => by
    obtain ⟨us, hu, rfl⟩ := consO_some h
    obtain ⟨h1, h2⟩ := getN_some hu
    refine ⟨by simp; omega, ?_⟩
    simp at h2
    simp [h2]
  | c :: cs, o + 1, k, vs, h => by
    have h' : getN cs o k = some vs := by simpa [getN] using h
    obtain ⟨h1, h2⟩ := getN_some h'
    exact ⟨by simp; omega, by simpa using h2⟩
  | [], 0, k + 1, vs, h => by simp [getN] at h
  | [], o + 1, k, vs, h => by simp [getN] at h
theorem setN_some : ∀ {cs : List Value} {o : Nat} {vs us : List Value}, setN cs o vs = some us → o + vs.length ≤ cs.length ∧ us = cs.take o ++ vs ++ cs.drop (o + vs.length)
  | cs, 0, [], us, h => by
    have : us = cs := by cases cs <;> simpa [setN] using h.symm
    simp [this]
  | c :: cs, 0, v :: vs, us, h => by
    obtain ⟨ts, ht, rfl⟩ := consO_some h
    obtain ⟨h1, h2⟩ := setN_some ht
    refine ⟨by simp at *; omega, ?_⟩
    simp at h2
    simp [h2]
  | c :: cs, o + 1, vs, us, h => by
    have h' : consO c (setN cs o vs) = some us := by cases vs <;> simpa [setN] using h
    obtain ⟨ts, ht, rfl⟩ := consO_some h'
    obtain ⟨h1, h2⟩ := setN_some ht
    refine ⟨by simp; omega, ?_⟩
    rw [h2]
    simp [Nat.add_right_comm]
  | [], 0, v :: vs, us, h => by simp [setN] at h
  | [], o + 1, vs, us, h => by simp [setN] at h

/-- The cells of block 'b', owned or frozen. -/
def Blk (m : Mem) (L : List Res) (b : Nat) (cs : List Value) : Prop := (∃ t L', Take L (pt b cs t) L') ∨ fz m b cs
theorem Blk.own {m : Mem} {L L' : List Res} {b t : Nat} {cs : List Value} (T : Take L (pt b cs t) L') : Blk m L b cs := .inl ⟨t, L', T⟩
theorem Blk.fz {m : Mem} {L : List Res} {b : Nat} {cs : List Value} (h : fz m b cs) : Blk m L b cs := .inr h
theorem St.blk {w0 w : World} {m : Mem} {L : List Res} {b : Nat} {cs : List Value} (H : St w0 w m L) (h : Blk m L b cs) : ∃ t fr, w.heap[b]? = some (.cells cs.toArray t fr) := by
  rcases h with ⟨t, L', T⟩ | h
  · exact ⟨t, _, (H.take T).block⟩
  · exact H.fzblock h
theorem St.cell {w0 w : World} {m : Mem} {L : List Res} {b : Nat} {cs : List Value} (H : St w0 w m L) (h : Blk m L b cs) (off : Nat) : w.cell? ⟨b, off, none⟩ = cs[off]? := by
  obtain ⟨t, fr, hb⟩ := H.blk h
  rw [cell_of_row w b off cs.toArray t fr hb]
  simp
theorem addr_add (b off j : Nat) : (⟨b, off, none⟩ : Addr).add j = ⟨b, off + j, none⟩ := by
  unfold Addr.add
  split <;> simp_all

/-! ### 3. Operations that leave the world as it is -/
def Runs (P : Program) (a : Act) (w : World) (op : Op) (v : Value) : Prop := ∀ dst t pos after guard, (execOp a.eval ⟨dst, op, t, pos, after, guard⟩).run P w = .ok (.value v) w

section
variable {P : Program} {n : Nat} {a : Act} {F : List (Nat × Value)} {D : List Deferred} {w0 w : World} {m : Mem} {L L' : List Res} {x y z : Operand} {b off : Nat} {cs : List Value}

theorem Runs.move {v : Value} (A : Fr n a F D) (hx : ev F x = some v) : Runs P a w (.move x) v := by
  intro _ _ _ _ _
  simp [execOp, A.ev hx]
theorem Runs.assign {v : Value} (A : Fr n a F D) (hx : ev F x = some v) : Runs P a w (.assign x) v := by
  intro _ _ _ _ _
  simp [execOp, A.ev hx]
theorem Runs.pick {c : Bool} {v u : Value} (A : Fr n a F D) (hx : ev F x = some (.bool c)) (hy : ev F y = some v) (hz : ev F z = some u) : Runs P a w (.pick x y z) (if c then v else u) := by
  intro _ _ _ _ _
  simp [execOp, A.ev hx, A.ev hy, A.ev hz, asBool]
theorem Runs.nilCheck {ad : Addr} (A : Fr n a F D) (hx : ev F x = some (.pointer (some ad))) : Runs P a w (.nilCheck x) (.pointer (some ad)) := by
  intro _ _ _ _ _
  simp [execOp, A.ev hx]
theorem Runs.load1 {ty bytes : Nat} {zs : List Value} {v : Value} (A : Fr n a F D) (H : St w0 w m L) (hx : ev F x = some (.pointer (some ⟨b, off, none⟩))) (T : Ty P ty false 1 bytes zs) (hb : Blk m L b cs) (hv : cs[off]? = some v) : Runs P a w (.load ty x) v := by
  intro _ _ _ _ _
  have hc : w.cell? ⟨b, off, none⟩ = some v := (H.cell hb off).trans hv
  simp [execOp, A.ev hx, Instr.loadAt, Instr.sureAddr, loadVar, Sem.run_bind, T.runAgg, load, Sem.run, hc]
theorem Runs.loadN {ty k bytes : Nat} {zs vs : List Value} (A : Fr n a F D) (H : St w0 w m L) (hx : ev F x = some (.pointer (some ⟨b, off, none⟩))) (T : Ty P ty true k bytes zs) (hb : Blk m L b cs) (hv : getN cs off k = some vs) : Runs P a w (.load ty x) (.agg vs.toArray) := by
  intro _ _ _ _ _
  obtain ⟨h1, h2⟩ := getN_some hv
  have hl : vs.length = k := by rw [h2]; simp; omega
  have hc : (loadCells ⟨b, off, none⟩ vs.length).run P w = .ok vs.toArray w := run_loadCells_list w ⟨b, off, none⟩ vs fun j v hj => by
    rw [addr_add, H.cell hb]
    rw [h2] at hj
    have hlt : j < k := by
      have := (List.getElem?_eq_some_iff.1 hj).1
      simp at this; omega
    rw [List.getElem?_take_of_lt hlt, List.getElem?_drop] at hj
    exact hj
  rw [hl] at hc
  simp [execOp, A.ev hx, Instr.loadAt, Instr.sureAddr, loadVar, Sem.run_bind, T.runAgg, T.runSize, hc]

/-- Where field number 'i' of the struct type 't' begins. -/
def fldOff (P : Program) (t i : Nat) : Option Nat :=
  match P.underlying t with
  | some (.struct fs) => (fs[i]?).bind fun f => (P.info? f.type).bind fun q => if q.size = 0 then none else some f.offset
  | _ => none
theorem fldOff_spec {t i o : Nat} (h : fldOff P t i = some o) : ∃ fs f q, P.underlying t = some (.struct fs) ∧ fs[i]? = some f ∧ P.info? f.type = some q ∧ q.size ≠ 0 ∧ f.offset = o := by
  unfold fldOff at h
  split at h
  · rename_i fs hf
    simp only [Option.bind_eq_some_iff] at h
    obtain ⟨f, hi, q, hq, h⟩ := h
    split at h
    · cases h
    · exact ⟨fs, f, q, hf, hi, hq, by assumption, Option.some.inj h⟩
  · cases h
theorem Runs.fieldAddr {t i o : Nat} (A : Fr n a F D) (hx : ev F x = some (.pointer (some ⟨b, off, none⟩))) (hf : fldOff P t i = some o) : Runs P a w (.fieldAddr t x i) (.pointer (some ⟨b, off + o, none⟩)) := by
  intro _ _ _ _ _
  obtain ⟨fs, f, q, h1, h2, h3, h4, h5⟩ := fldOff_spec hf
  simp [execOp, A.ev hx, Instr.fieldAt, Instr.sureAddr, Sem.run_bind, run_underlying h1, h2, fieldPlace, sizeOf, typeInfo, h3, h4, h5, addr_add]
theorem Runs.field1 {t i o ty bytes : Nat} {zs : List Value} {v : Value} (A : Fr n a F D) (hx : ev F x = some (.agg cs.toArray)) (hf : fldOff P t i = some o) (hty : (P.underlying t).bind (fun d => match d with | .struct fs => (fs[i]?).map (·.type) | _ => none) = some ty) (T : Ty P ty false 1 bytes zs) (hv : cs[o]? = some v) :
    Runs P a w (.field t x i) v := by
  intro _ _ _ _ _
  obtain ⟨fs, f, q, h1, h2, h3, h4, h5⟩ := fldOff_spec hf
  have : f.type = ty := by simpa [h1, h2] using hty
  subst this
  subst h5
  simp [execOp, A.ev hx, Instr.field, asAgg, part, Sem.run_bind, run_underlying h1, h2, T.runAgg, hv]
/-- The element type of a slice type, and its cells. -/
def slEl (P : Program) (t : Nat) : Option (Nat × Nat) :=
  match P.underlying t with
  | some (.slice e) => (P.info? e).map fun q => (e, q.size)
  | _ => none
theorem slEl_spec {t e k : Nat} (h : slEl P t = some (e, k)) : ∃ q, P.underlying t = some (.slice e) ∧ P.info? e = some q ∧ q.size = k := by
  unfold slEl at h
  split at h
  · rename_i e' he
    simp only [Option.map_eq_some_iff, Prod.mk.injEq] at h
    obtain ⟨q, hq, rfl, hk⟩ := h
    exact ⟨q, he, hq, hk⟩
  · cases h
theorem Runs.indexAddr {t e k len cap : Nat} {i : Int} {ik : IntKind} (A : Fr n a F D) (hx : ev F x = some (.slice (some ⟨b, off, none⟩) len cap)) (hy : ev F y = some (.int ik i)) (hs : slEl P t = some (e, k)) (h0 : 0 ≤ i) (h1 : i < len) :
    Runs P a w (.indexAddr t x y) (.pointer (some ⟨b, off + i.toNat * k, none⟩)) := by
  intro _ _ _ _ _
  obtain ⟨q, h2, h3, h4⟩ := slEl_spec hs
  have hand : 0 ≤ i ∧ i < len := ⟨h0, h1⟩
  simp [execOp, A.ev hx, A.ev hy, Instr.indexAt, asIntOf, Sem.run_bind, run_underlying h2, sizeOf, typeInfo, h3, h4, hand, addr_add]
theorem Runs.extract {i : Nat} {vs : List Value} {v : Value} (A : Fr n a F D) (hx : ev F x = some (.tuple vs.toArray)) (hv : vs[i]? = some v) : Runs P a w (.extract x i) v := by
  intro _ _ _ _ _
  simp [execOp, A.ev hx, Instr.extract, hv]
theorem Runs.not {t : Nat} {c : Bool} (A : Fr n a F D) (hx : ev F x = some (.bool c)) : Runs P a w (.unOp .not t x) (.bool (!c)) := by
  intro _ _ _ _ _
  simp [execOp, A.ev hx, Op.unary]

theorem wrap_i64 {q : Int} (h0 : -9223372036854775808 ≤ q) (h1 : q ≤ 9223372036854775807) : IntKind.i64.wrap q = q := by
  rw [IntKind.wrap_i64]; omega
section
variable {t t' : Nat} {p q : Int} {k : IntKind}
theorem Runs.add (A : Fr n a F D) (hx : ev F x = some (.int .i64 p)) (hy : ev F y = some (.int .i64 q)) (h : -9223372036854775808 ≤ p + q ∧ p + q ≤ 9223372036854775807) : Runs P a w (.binOp .add t x y t') (.int .i64 (p + q)) := by
  intro _ _ _ _ _
  simp [execOp, A.ev hx, A.ev hy, eqGuard, binOp, Op.intArith, wrap_i64 h.1 h.2]
theorem Runs.sub (A : Fr n a F D) (hx : ev F x = some (.int .i64 p)) (hy : ev F y = some (.int .i64 q)) (h : -9223372036854775808 ≤ p - q ∧ p - q ≤ 9223372036854775807) : Runs P a w (.binOp .sub t x y t') (.int .i64 (p - q)) := by
  intro _ _ _ _ _
  simp [execOp, A.ev hx, A.ev hy, eqGuard, binOp, Op.intArith, wrap_i64 h.1 h.2]
theorem Runs.mul (A : Fr n a F D) (hx : ev F x = some (.int .i64 p)) (hy : ev F y = some (.int .i64 q)) (h : -9223372036854775808 ≤ p * q ∧ p * q ≤ 9223372036854775807) : Runs P a w (.binOp .mul t x y t') (.int .i64 (p * q)) := by
  intro _ _ _ _ _
  simp [execOp, A.ev hx, A.ev hy, eqGuard, binOp, Op.intArith, wrap_i64 h.1 h.2]
theorem Runs.neg (A : Fr n a F D) (hx : ev F x = some (.int .i64 p)) (h : -9223372036854775807 ≤ p ∧ p ≤ 9223372036854775807) : Runs P a w (.unOp .neg t x) (.int .i64 (-p)) := by
  intro _ _ _ _ _
  simp [execOp, A.ev hx, Op.unary, Op.intArith]
  rw [wrap_i64 (by omega) (by omega)]
theorem Runs.addW (A : Fr n a F D) (hx : ev F x = some (.int k p)) (hy : ev F y = some (.int k q)) : Runs P a w (.binOp .add t x y t') (.int k (k.wrap (p + q))) := by
  intro _ _ _ _ _
  simp [execOp, A.ev hx, A.ev hy, eqGuard, binOp, Op.intArith]
theorem Runs.mulW (A : Fr n a F D) (hx : ev F x = some (.int k p)) (hy : ev F y = some (.int k q)) : Runs P a w (.binOp .mul t x y t') (.int k (k.wrap (p * q))) := by
  intro _ _ _ _ _
  simp [execOp, A.ev hx, A.ev hy, eqGuard, binOp, Op.intArith]
theorem Runs.quo (A : Fr n a F D) (hx : ev F x = some (.int .i64 p)) (hy : ev F y = some (.int .i64 q)) (h0 : 0 ≤ p) (h1 : 0 < q) (h2 : p ≤ 9223372036854775807) : Runs P a w (.binOp .quo t x y t') (.int .i64 (p / q)) := by
  intro _ _ _ _ _
  have e : p.tdiv q = p / q := Int.tdiv_eq_ediv_of_nonneg h0
  have l : p / q ≤ p := Int.ediv_le_self q h0
  have g : 0 ≤ p / q := Int.ediv_nonneg h0 (by omega)
  have ne : q ≠ 0 := by omega
  simp [execOp, A.ev hx, A.ev hy, eqGuard, binOp, Op.intDiv, ne, e]
  rw [wrap_i64 (by omega) (by omega)]
theorem Runs.rem (A : Fr n a F D) (hx : ev F x = some (.int k p)) (hy : ev F y = some (.int k q)) (h0 : 0 ≤ p) (h1 : 0 < q) : Runs P a w (.binOp .rem t x y t') (.int k (p % q)) := by
  intro _ _ _ _ _
  have e : p.tmod q = p % q := Int.tmod_eq_emod_of_nonneg h0
  have ne : q ≠ 0 := by omega
  simp [execOp, A.ev hx, A.ev hy, eqGuard, binOp, Op.intDiv, ne, e]
theorem Runs.eql (A : Fr n a F D) (hx : ev F x = some (.int k p)) (hy : ev F y = some (.int k q)) : Runs P a w (.binOp .eql t x y t') (.bool (decide (p = q))) := by
  intro _ _ _ _ _
  simp [execOp, A.ev hx, A.ev hy, eqGuard, binOp, Op.intCmp]
  exact Bool.beq_eq_decide_eq p q
theorem Runs.neq (A : Fr n a F D) (hx : ev F x = some (.int k p)) (hy : ev F y = some (.int k q)) : Runs P a w (.binOp .neq t x y t') (.bool (decide (p ≠ q))) := by
  intro _ _ _ _ _
  simp [execOp, A.ev hx, A.ev hy, eqGuard, binOp, Op.intCmp]
  by_cases h : p = q <;> simp [h]
theorem Runs.lss (A : Fr n a F D) (hx : ev F x = some (.int k p)) (hy : ev F y = some (.int k q)) : Runs P a w (.binOp .lss t x y t') (.bool (decide (p < q))) := by
  intro _ _ _ _ _
  simp [execOp, A.ev hx, A.ev hy, eqGuard, binOp, Op.intCmp]
theorem Runs.leq (A : Fr n a F D) (hx : ev F x = some (.int k p)) (hy : ev F y = some (.int k q)) : Runs P a w (.binOp .leq t x y t') (.bool (decide (p ≤ q))) := by
  intro _ _ _ _ _
  simp [execOp, A.ev hx, A.ev hy, eqGuard, binOp, Op.intCmp]
theorem Runs.gtr (A : Fr n a F D) (hx : ev F x = some (.int k p)) (hy : ev F y = some (.int k q)) : Runs P a w (.binOp .gtr t x y t') (.bool (decide (q < p))) := by
  intro _ _ _ _ _
  simp [execOp, A.ev hx, A.ev hy, eqGuard, binOp, Op.intCmp]
theorem Runs.geq (A : Fr n a F D) (hx : ev F x = some (.int k p)) (hy : ev F y = some (.int k q)) : Runs P a w (.binOp .geq t x y t') (.bool (decide (q ≤ p))) := by
  intro _ _ _ _ _
  simp [execOp, A.ev hx, A.ev hy, eqGuard, binOp, Op.intCmp]
theorem toList_inj {s r : ByteArray} : (s.toList == r.toList) = decide (s = r) := by
  rw [Bool.eq_iff_iff]
  simp only [beq_iff_eq, decide_eq_true_eq]
  refine ⟨fun h => ?_, fun h => by rw [h]⟩
  rw [Lib.toList_data, Lib.toList_data] at h
  cases s; cases r
  simpa using h
theorem Runs.seql {s r : ByteArray} (A : Fr n a F D) (hx : ev F x = some (.string s)) (hy : ev F y = some (.string r)) : Runs P a w (.binOp .eql t x y t') (.bool (decide (s = r))) := by
  intro _ _ _ _ _
  simp [execOp, A.ev hx, A.ev hy, eqGuard, binOp, Op.stringOp, toList_inj]
theorem Runs.sneq {s r : ByteArray} (A : Fr n a F D) (hx : ev F x = some (.string s)) (hy : ev F y = some (.string r)) : Runs P a w (.binOp .neq t x y t') (.bool (decide (s ≠ r))) := by
  intro _ _ _ _ _
  simp [execOp, A.ev hx, A.ev hy, eqGuard, binOp, Op.stringOp, toList_inj]
theorem Runs.sadd {s r : ByteArray} (A : Fr n a F D) (hx : ev F x = some (.string s)) (hy : ev F y = some (.string r)) (h : s.size + r.size ≤ 9223372036854775807) : Runs P a w (.binOp .add t x y t') (.string (s ++ r)) := by
  intro _ _ _ _ _
  simp [execOp, A.ev hx, A.ev hy, eqGuard, binOp, Op.stringOp]
  omega
end
theorem Runs.lenS {t : TypeId} {s : ByteArray} (A : Fr n a F D) (hx : ev F x = some (.string s)) (ht : P.underlying t = some .string) : Runs P a w (.call { callee := .builtin .len, args := #[x], argTypes := #[t] }) (.int .i64 s.size) := by
  intro _ _ _ _ _
  simp [execOp, resolve, invoke, builtin, A.ev hx, Builtin.len_, goInt, Sem.run_bind, run_underlying ht]
theorem Runs.lenL {t e k : Nat} {ad : Option Addr} {l c : Nat} (A : Fr n a F D) (hx : ev F x = some (.slice ad l c)) (hs : slEl P t = some (e, k)) : Runs P a w (.call { callee := .builtin .len, args := #[x], argTypes := #[t] }) (.int .i64 l) := by
  intro _ _ _ _ _
  obtain ⟨q, h2, h3, h4⟩ := slEl_spec hs
  simp [execOp, resolve, invoke, builtin, A.ev hx, Builtin.len_, goInt, Sem.run_bind, run_underlying h2]
theorem Runs.capL {t e k : Nat} {ad : Option Addr} {l c : Nat} (A : Fr n a F D) (hx : ev F x = some (.slice ad l c)) (hs : slEl P t = some (e, k)) : Runs P a w (.call { callee := .builtin .cap, args := #[x], argTypes := #[t] }) (.int .i64 c) := by
  intro _ _ _ _ _
  obtain ⟨q, h2, h3, h4⟩ := slEl_spec hs
  simp [execOp, resolve, invoke, builtin, A.ev hx, Builtin.cap_, goInt, Sem.run_bind, run_underlying h2]

/-- the byte at 'i' -/
def bt (s : ByteArray) (i : Nat) : Int := ((s.data[i]?).getD 0).toNat
theorem bt_range (s : ByteArray) (i : Nat) : 0 ≤ bt s i ∧ bt s i ≤ 255 := by
  unfold bt
  have := ((s.data[i]?).getD 0).toNat_lt
  omega
theorem Runs.indexS {t : TypeId} {s : ByteArray} {i : Int} {k : IntKind} (A : Fr n a F D) (hx : ev F x = some (.string s)) (hy : ev F y = some (.int k i)) (ht : P.underlying t = some .string) (h0 : 0 ≤ i) (h1 : i < s.size) :
    Runs P a w (.index t x y) (.int .u8 (bt s i.toNat)) := by
  intro _ _ _ _ _
  have hlt : i.toNat < s.size := by omega
  have hlt' : i.toNat < s.data.size := hlt
  have e : s[i.toNat]? = some s[i.toNat] := by simp [hlt]
  simp [execOp, A.ev hx, A.ev hy, Instr.index, asIntOf, Sem.run_bind, run_underlying ht, h0, e, bt]
  rw [Array.getElem?_eq_getElem hlt']
  rfl
theorem Runs.sliceS {t : TypeId} {s : ByteArray} {lo hi : Int} {k k' : IntKind} (A : Fr n a F D) (hx : ev F x = some (.string s)) (hy : ev F y = some (.int k lo)) (hz : ev F z = some (.int k' hi)) (ht : P.underlying t = some .string) (h0 : 0 ≤ lo) (h1 : lo ≤ hi) (h2 : hi ≤ s.size) :
    Runs P a w (.slice t x (some y) (some z) none) (.string (s.extract lo.toNat hi.toNat)) := by
  intro _ _ _ _ _
  have a1 : 0 ≤ hi ∧ hi ≤ s.size := by omega
  have a2 : 0 ≤ lo ∧ lo ≤ hi.toNat := by omega
  simp only [execOp, Instr.sliceAt, Sem.run_bind, run_underlying ht, Result.andThen_ok]
  simp [A.ev hx, A.ev hy, A.ev hz, Instr.slice, Sem.run_bind, run_underlying ht, Instr.sliceBounds, Instr.sliceBound, asIntOf, a1, a2]
  intro hh
  exfalso; omega
theorem Runs.sliceSlo {t : TypeId} {s : ByteArray} {lo : Int} {k : IntKind} (A : Fr n a F D) (hx : ev F x = some (.string s)) (hy : ev F y = some (.int k lo)) (ht : P.underlying t = some .string) (h0 : 0 ≤ lo) (h1 : lo ≤ s.size) :
    Runs P a w (.slice t x (some y) none none) (.string (s.extract lo.toNat s.size)) := by
  intro _ _ _ _ _
  have a2 : 0 ≤ lo ∧ lo ≤ s.size := by omega
  simp only [execOp, Instr.sliceAt, Sem.run_bind, run_underlying ht, Result.andThen_ok]
  simp [A.ev hx, A.ev hy, Instr.slice, Sem.run_bind, run_underlying ht, Instr.sliceBounds, Instr.sliceBound, asIntOf, a2]
/-- where a slice cut at 'l' begins -/
def cutAd (ad : Option Addr) (cap l k : Nat) : Option Addr := if cap = l then ad else ad.map (·.add (l * k))
theorem Runs.sliceLlo {t e k : Nat} {ad : Option Addr} {len cap : Nat} {lo : Int} {k1 : IntKind} (A : Fr n a F D) (hx : ev F x = some (.slice ad len cap)) (hy : ev F y = some (.int k1 lo)) (hs : slEl P t = some (e, k)) (h0 : 0 ≤ lo) (h1 : lo ≤ len) :
    Runs P a w (.slice t x (some y) none none) (.slice (cutAd ad cap lo.toNat k) (len - lo.toNat) (cap - lo.toNat)) := by
  intro _ _ _ _ _
  obtain ⟨q, h3, h4, h5⟩ := slEl_spec hs
  have a2 : 0 ≤ lo ∧ lo ≤ len := by omega
  simp only [execOp, Instr.sliceAt, Sem.run_bind, run_underlying h3, Result.andThen_ok]
  simp [A.ev hx, A.ev hy, Instr.slice, Sem.run_bind, run_underlying h3, Instr.sliceBounds, Instr.sliceBound, asIntOf, a2, sizeOf, typeInfo, h4, h5, cutAd]
theorem Runs.sliceLhi {t e k : Nat} {ad : Option Addr} {len cap : Nat} {hi : Int} {k1 : IntKind} (A : Fr n a F D) (hx : ev F x = some (.slice ad len cap)) (hy : ev F y = some (.int k1 hi)) (hs : slEl P t = some (e, k)) (h0 : 0 ≤ hi) (h1 : hi ≤ cap) :
    Runs P a w (.slice t x none (some y) none) (.slice (cutAd ad cap 0 k) hi.toNat cap) := by
  intro _ _ _ _ _
  obtain ⟨q, h3, h4, _⟩ := slEl_spec hs
  have a2 : 0 ≤ hi ∧ hi ≤ cap := by omega
  simp only [execOp, Instr.sliceAt, Sem.run_bind, run_underlying h3, Result.andThen_ok]
  simp [A.ev hx, A.ev hy, Instr.slice, Sem.run_bind, run_underlying h3, Instr.sliceBounds, Instr.sliceBound, asIntOf, a2, sizeOf, typeInfo, h4, cutAd]

/-- the values of a list of operands -/
def evs (F : List (Nat × Value)) : List Operand → Option (List Value)
  | [] => some []
  | x :: xs => (ev F x).bind fun v => (evs F xs).map (v :: ·)
theorem Fr.evs {n : Nat} {a : Act} {F : List (Nat × Value)} {D : List Deferred} (A : Fr n a F D) : ∀ {xs : List Operand} {vs : List Value}, evs F xs = some vs → xs.map a.eval = vs
  | [], vs, h => by simpa [Sl.evs] using h
  | x :: xs, vs, h => by
    simp only [Sl.evs, Option.bind_eq_some_iff, Option.map_eq_some_iff] at h
    obtain ⟨v, hv, us, hu, rfl⟩ := h
    simp [A.ev hv, A.evs hu]
theorem Runs.makeFunc {fn : Fn} {xs : List Operand} {vs : List Value} (A : Fr n a F D) (hx : evs F xs = some vs) : Runs P a w (.makeFunc fn #[] xs.toArray) (.func fn #[] vs.toArray) := by
  intro _ _ _ _ _
  simp [execOp, Instr.makeFunc, A.evs hx]

/-- The zero cells of a struct type, and where its fields lie. -/
structure Bd (P : Program) (t : TypeId) (zs : List Value) (ps : List (Nat × Nat)) : Prop where
  z : (P.info? t).map (fun i => i.zero.map (·.cells.toList)) = some (some zs)
  f : (match P.underlying t with
    | some (.struct fs) => some (fs.toList.map fun f => (f.offset, ((P.info? f.type).map (·.size)).getD 0), fs.toList.all fun f => (P.info? f.type).isSome)
    | _ => none) = some (ps, true)
def bindO (o : Option (List Value)) (f : List Value → Option (List Value)) : Option (List Value) :=
  match o with
  | some r => f r
  | none => none
theorem bindO_some {o : Option (List Value)} {f : List Value → Option (List Value)} {us : List Value} (h : bindO o f = some us) : ∃ r, o = some r ∧ f r = some us := by
  cases o with
  | none => cases h
  | some r => exact ⟨r, rfl, h⟩
/-- the list, its spine laid out -/
def forceL : List Value → Option (List Value)
  | [] => some []
  | c :: cs => consO c (forceL cs)
theorem forceL_eq : ∀ cs : List Value, forceL cs = some cs
  | [] => rfl
  | c :: cs => by simp [forceL, forceL_eq cs, consO]
def fillP (place : Nat → Option (Nat × Nat)) : List Value → List (Nat × Value) → Option (List Value)
  | cs, [] => forceL cs
  | cs, (i, v) :: r => match place i with
    | some (o, k) => bif Nat.beq v.cells.toList.length k then bindO (setN cs o v.cells.toList) fun cs' => fillP place cs' r else none
    | none => none
theorem fill_set (cs : Array Value) (off : Nat) (vs : List Value) : ∀ (j : Nat), off + j + vs.length ≤ cs.size →
    ((vs.zipIdx j).foldl (fun cs (cj : Value × Nat) => cs.setIfInBounds (off + cj.2) cj.1) cs).toList = cs.toList.take (off + j) ++ vs ++ cs.toList.drop (off + j + vs.length) := by
  induction vs generalizing cs with
  | nil => intro j _; simp
  | cons v vs ih =>
    intro j h
    simp only [List.length_cons] at h
    simp only [List.zipIdx_cons, List.foldl_cons]
    rw [ih (cs.setIfInBounds (off + j) v) (j + 1) (by simp; omega)]
    simp only [Array.toList_setIfInBounds, List.length_cons]
    apply List.ext_getElem?
    intro k
    simp only [List.append_assoc, List.getElem?_append, List.length_take, List.length_set, Array.length_toList, List.getElem?_take, List.getElem?_set, List.getElem?_drop, List.cons_append, List.getElem?_cons]
    grind
theorem fill_fillP (place : Nat → Option (Nat × Nat)) : ∀ (parts : List (Nat × Value)) (cs us : List Value), fillP place cs parts = some us → Instr.fill place cs.toArray parts = some us.toArray
  | [], cs, us, h => by simp [fillP, forceL_eq] at h; simp [Instr.fill, h]
  | (i, v) :: r, cs, us, h => by
    simp only [fillP] at h
    split at h
    · rename_i o k hk
      rw [cond_eq_ite] at h
      split at h
      · rename_i hl
        have hl := Nat.eq_of_beq_eq_true hl
        obtain ⟨ts, ht, h⟩ := bindO_some h
        obtain ⟨h1, h2⟩ := setN_some ht
        have hl' : v.cells.size = k := by simpa using hl
        simp only [Instr.fill, hk]
        rw [if_neg (by simp [hl']; simp at h1; omega)]
        have e : (v.cells.zipIdx.foldl (fun cs (x : Value × Nat) => cs.setIfInBounds (o + x.2) x.1) cs.toArray) = ts.toArray := by
          apply Array.ext'
          have := fill_set cs.toArray o v.cells.toList 0 (by simpa using h1)
          simp only [Nat.add_zero] at this
          rw [h2]
          rw [← this]
          congr 1
          rw [← Array.foldl_toList]
          simp
        rw [show (v.cells.zipIdx.foldl (fun cs (c, j) => cs.setIfInBounds (o + j) c) cs.toArray) = ts.toArray from e]
        exact fill_fillP place r ts us h
      · cases h
    · cases h
end
end Sl
end Go.Proofs.YtanhehbfbakdcaaGreatDoor
/- The steps of a walk in the words of the separation logic. Own work; nothing about a program stands here. -/
namespace Go.Proofs.YtanhehbfbakdcaaGreatDoor
namespace Sl
open Go Go.RowKit

/-! ### 1. What is found by instance -/
class HasOb (L : List Res) (b : Nat) (o : outParam Obj) (L' : outParam (List Res)) : Prop where
  p : L.Perm (ob b o :: L')
instance (priority := high) HasOb.head {b : Nat} {o : Obj} {L : List Res} : HasOb (ob b o :: L) b o L := ⟨.refl _⟩
instance (priority := low) HasOb.tail {b : Nat} {o : Obj} {r : Res} {L L' : List Res} [h : HasOb L b o L'] : HasOb (r :: L) b o (r :: L') := ⟨(List.Perm.cons r h.p).trans (.swap _ _ _)⟩
class HasPt (L : List Res) (b : Nat) (cs : outParam (List Value)) (t : outParam TypeId) (L' : outParam (List Res)) : Prop where
  p : L.Perm (pt b cs t :: L')
instance (priority := high) HasPt.head {b t : Nat} {cs : List Value} {L : List Res} : HasPt (pt b cs t :: L) b cs t L := ⟨.refl _⟩
instance (priority := low) HasPt.tail {b t : Nat} {cs : List Value} {r : Res} {L L' : List Res} [h : HasPt L b cs t L'] : HasPt (r :: L) b cs t (r :: L') := ⟨(List.Perm.cons r h.p).trans (.swap _ _ _)⟩
class Fz (m : Mem) (b : Nat) (cs : outParam (List Value)) : Prop where
  h : fz m b cs
theorem Fz.mono {m m' : Mem} {b : Nat} {cs : List Value} (k : Fz m b cs) (h : Le m m') : Fz m' b cs := ⟨k.h.mono h⟩
class BlkC (m : Mem) (L : List Res) (b : Nat) (cs : outParam (List Value)) : Prop where
  h : Blk m L b cs
instance (priority := high) BlkC.pt {m : Mem} {L L' : List Res} {b t : Nat} {cs : List Value} [h : HasPt L b cs t L'] : BlkC m L b cs := ⟨.inl ⟨t, L', h.p⟩⟩
instance (priority := low) BlkC.fz {m : Mem} {L : List Res} {b : Nat} {cs : List Value} [h : Fz m b cs] : BlkC m L b cs := ⟨.inr h.h⟩
class SubH (L' L : List Res) : Prop where
  h : ∀ h, Holds L h → ∃ h', Holds L' h' ∧ ∀ b o, h' b = some o → h b = some o
instance (priority := high) SubH.refl {L : List Res} : SubH L L := ⟨fun h x => ⟨h, x, fun _ _ q => q⟩⟩
instance (priority := low) SubH.skip {r : Res} {L L' : List Res} [k : SubH L' L] : SubH L' (r :: L) := ⟨fun h ⟨h1, h2, x1, x2, x3, x4⟩ => by
  obtain ⟨h', y1, y2⟩ := k.h h2 x2
  refine ⟨h', y1, fun b o q => ?_⟩
  rw [x4]
  rcases x3 b with z | z
  · simp [z, y2 b o q]
  · rw [y2 b o q] at z; cases z⟩
instance (priority := default) SubH.keep {r : Res} {L L' : List Res} [k : SubH L' L] : SubH (r :: L') (r :: L) := ⟨fun h ⟨h1, h2, x1, x2, x3, x4⟩ => by
  obtain ⟨h', y1, y2⟩ := k.h h2 x2
  refine ⟨fun b => (h1 b).or (h' b), ⟨h1, h', x1, y1, fun b => ?_, fun _ => rfl⟩, fun b o q => ?_⟩
  · rcases x3 b with z | z
    · exact .inl z
    · refine .inr ?_
      cases hh : h' b with
      | none => rfl
      | some o => rw [y2 b o hh] at z; cases z
  · rw [x4]
    cases hh : h1 b with
    | some u => simpa [hh] using q
    | none => simp [hh] at q ⊢; exact y2 b o q⟩
instance (priority := low) SubH.nil {L : List Res} : SubH [] L := ⟨fun h _ => ⟨fun _ => none, fun _ => rfl, fun _ _ q => by cases q⟩⟩
theorem St.subH {w0 w : World} {m : Mem} {L L' : List Res} [k : SubH L' L] (H : St w0 w m L) : St w0 w m L' := by
  obtain ⟨a, b, h, x, d⟩ := H
  obtain ⟨h', y1, y2⟩ := k.h h x
  exact ⟨a, b, h', y1, fun q o hq => d q o (y2 q o hq)⟩
theorem St.sub {w0 w : World} {m : Mem} {L L' : List Res} [h : SubH L' L] (H : St w0 w m L) : St w0 w m L' := H.subH
class TyC (P : Program) (t : TypeId) (agg : outParam Bool) (size bytes : outParam Nat) (zs : outParam (List Value)) : Prop where
  h : Ty P t agg size bytes zs
class FldC (P : Program) (t i : Nat) (o : outParam Nat) : Prop where
  h : fldOff P t i = some o
class SlC (P : Program) (t : Nat) (e k : outParam Nat) : Prop where
  h : slEl P t = some (e, k)
class StrC (P : Program) (t : Nat) : Prop where
  h : P.underlying t = some .string
class BdC (P : Program) (t : Nat) (zs : outParam (List Value)) (ps : outParam (List (Nat × Nat))) : Prop where
  h : Bd P t zs ps
class FnC (P : Program) (f : Nat) : Prop where
  h : ∀ args w, (callFunc f args).run P w = .ok (.enter f args) w
theorem FnC.mk' {P : Program} {f : Nat} {fn : Func} (hf : P.funcs[f]? = some fn) (hn : (fn.name == "runtime.NumGoroutine") = false) (hb : fn.body.isNone = false) : FnC P f := ⟨fun args w => by
  simp only [callFunc, Sem.run_bind, run_program, Result.andThen_ok, hf, hn, hb, Bool.false_eq_true, if_false, Sem.run_pure]⟩

/-! ### 2. Plain regions -/
section
variable {P : Program} {n : Nat} {a : Act} {F : List (Nat × Value)} {D : List Deferred} {w0 w : World} {m : Mem} {L L' : List Res} {ops : Array Oper} {Q : Exit → Act → World → Prop} {rest : List Oper}
variable {d t : Nat} {pos : String} {after : Array Edge} {op : Op}

theorem step {v : Value} (R : Runs P a w op v) (A : Fr n a F D) (hd : Nat.blt d n = true) (k : ∀ a', Fr n a' ((d, v) :: F) D → wpList P ops Q rest a' w) :
    wpList P ops Q (⟨some d, op, t, pos, after, none⟩ :: rest) a w := by
  refine wpList_plain rfl fun K hK => ?_
  unfold Oper.wp
  rw [R (some d) t pos after none]
  exact hK _ _ (k _ (A.put hd v))
theorem wanted_of {o : Oper} {j dj : Nat} {want b : Bool} (hg : o.guard = some (j, want)) (A : Fr n a F D) (hj : (ops[j]?).bind (·.dst) = some dj) (hv : lk F dj = some (.bool b)) : Region.wanted o (yielded ops a.tmps) = (b == want) := by
  have := A.at_ dj _ hv
  simp only [Region.wanted, hg, yielded, hj, Option.bind_some, this]
  cases b <;> cases want <;> rfl
theorem stepG {v : Value} {j dj : Nat} {want b : Bool} (hj : (ops[j]?).bind (·.dst) = some dj) (hv : lk F dj = some (.bool b)) (hb : b = want) (R : Runs P a w op v) (A : Fr n a F D) (hd : Nat.blt d n = true) (k : ∀ a', Fr n a' ((d, v) :: F) D → wpList P ops Q rest a' w) :
    wpList P ops Q (⟨some d, op, t, pos, after, some (j, want)⟩ :: rest) a w := by
  refine wpList_step fun K hK => ?_
  rw [if_pos (by rw [wanted_of (ops := ops) rfl A hj hv, hb]; simp)]
  unfold Oper.wp
  rw [R (some d) t pos after _]
  exact hK _ _ (k _ (A.put hd v))
theorem stepSkip {j dj : Nat} {want b : Bool} (hj : (ops[j]?).bind (·.dst) = some dj) (hv : lk F dj = some (.bool b)) (hb : b = !want) (A : Fr n a F D) (hd : Nat.blt d n = true) (k : ∀ a', Fr n a' ((d, undef) :: F) D → wpList P ops Q rest a' w) :
    wpList P ops Q (⟨some d, op, t, pos, after, some (j, want)⟩ :: rest) a w := by
  refine wpList_step fun K hK => ?_
  rw [if_neg (by rw [wanted_of (ops := ops) rfl A hj hv, hb]; cases want <;> simp)]
  exact hK _ _ (k _ (A.put hd undef))
/-- Whether a guard holds. -/
theorem onBool {G : Prop} {dj : Nat} {b : Bool} (_A : Fr n a F D) (_hv : lk F dj = some (.bool b)) (ht : b = true → G) (hf : b = false → G) : G := by
  cases b
  · exact hf rfl
  · exact ht rfl
theorem Runs.pickT {x y z : Operand} {c : Bool} {v : Value} (A : Fr n a F D) (hx : ev F x = some (.bool c)) (hc : c = true) (hy : ev F y = some v) : Runs P a w (.pick x y z) v := by
  intro _ _ _ _ _
  simp [execOp, A.ev hx, A.ev hy, asBool, hc]
theorem Runs.pickF {x y z : Operand} {c : Bool} {v : Value} (A : Fr n a F D) (hx : ev F x = some (.bool c)) (hc : c = false) (hz : ev F z = some v) : Runs P a w (.pick x y z) v := by
  intro _ _ _ _ _
  simp [execOp, A.ev hx, A.ev hz, asBool, hc]

section
variable {x y : Operand} {b off : Nat} {cs : List Value}
theorem Runs.ld1 {ty bytes : Nat} {zs : List Value} {v : Value} (A : Fr n a F D) (H : St w0 w m L) (hx : ev F x = some (.pointer (some ⟨b, off, none⟩))) [T : TyC P ty false 1 bytes zs] [hb : BlkC m L b cs] (hv : cs[off]? = some v) : Runs P a w (.load ty x) v := Runs.load1 A H hx T.h hb.h hv
theorem Runs.ldN {ty k bytes : Nat} {zs vs : List Value} (A : Fr n a F D) (H : St w0 w m L) (hx : ev F x = some (.pointer (some ⟨b, off, none⟩))) [T : TyC P ty true k bytes zs] [hb : BlkC m L b cs] (hv : getN cs off k = some vs) : Runs P a w (.load ty x) (.agg vs.toArray) := Runs.loadN A H hx T.h hb.h hv
theorem Runs.fa {s i o : Nat} (A : Fr n a F D) (hx : ev F x = some (.pointer (some ⟨b, off, none⟩))) [hf : FldC P s i o] : Runs P a w (.fieldAddr s x i) (.pointer (some ⟨b, off + o, none⟩)) := Runs.fieldAddr A hx hf.h
theorem run_mapM_pairs (fs : Array Field) (h2 : (fs.toList.all fun f => (P.info? f.type).isSome) = true) (w : World) :
    (fs.mapM (m := Sem) fun f => do Pure.pure (f.offset, ← sizeOf f.type)).run P w = .ok (fs.toList.map fun f => (f.offset, ((P.info? f.type).map (·.size)).getD 0)).toArray w := by
  generalize hg : (fun (f : Field) => (do Pure.pure (f.offset, ← sizeOf f.type) : Sem (Nat × Nat))) = g
  have hone : ∀ f : Field, (P.info? f.type).isSome = true → (g f).run P w = .ok (f.offset, ((P.info? f.type).map (·.size)).getD 0) w := by
    intro f hf
    obtain ⟨q, hq⟩ := Option.isSome_iff_exists.1 hf
    rw [← hg]
    simp only [Sem.run_bind, sizeOf, typeInfo, run_program, Result.andThen_ok, hq, Sem.run_pure, Option.map_some, Option.getD_some]
  have hall : ∀ (l : List Field), (l.all fun f => (P.info? f.type).isSome) = true → (l.mapM g).run P w = .ok (l.map fun f => (f.offset, ((P.info? f.type).map (·.size)).getD 0)) w := by
    intro l
    induction l with
    | nil => intro _; rfl
    | cons f l ih =>
      intro h
      simp only [List.all_cons, Bool.and_eq_true] at h
      rw [List.mapM_cons]
      simp only [Sem.run_bind, hone f h.1, Result.andThen_ok, ih h.2, Sem.run_pure, List.map_cons]
  rw [Array.mapM_eq_mapM_toList, Sem.run_map, hall _ h2]
  rfl
theorem Runs.build {s : Nat} {zs us : List Value} {ps : List (Nat × Nat)} {parts : List (Nat × Operand)} {ixs : List Nat} {vs : List Value} [hB : BdC P s zs ps] (A : Fr n a F D) (hi : parts.map (·.1) = ixs) (hx : evs F (parts.map (·.2)) = some vs) (hf : fillP (fun i => ps[i]?) zs (ixs.zip vs) = some us) : Runs P a w (.build s parts.toArray) (.agg us.toArray) := by
  intro _ _ _ _ _
  have hz := hB.h.z
  have hF := hB.h.f
  cases hq : P.info? s with
  | none => simp [hq] at hz
  | some i =>
    simp only [hq, Option.map_some, Option.some.injEq, Option.map_eq_some_iff] at hz
    obtain ⟨z, hz1, hz2⟩ := hz
    cases hu : P.underlying s with
    | none => simp [hu] at hF
    | some dd =>
      cases dd <;> simp only [hu, reduceCtorEq, Option.some.injEq, Prod.mk.injEq] at hF
      rename_i fs
      obtain ⟨h1, h2⟩ := hF
      have hp : (fs.mapM (m := Sem) fun f => do Pure.pure (f.offset, ← sizeOf f.type)).run P w = .ok ps.toArray w := by
        rw [← h1]
        exact run_mapM_pairs fs h2 w
      have hvs : (parts.map fun p => (p.1, a.eval p.2)) = ixs.zip vs := by
        have := A.evs hx
        rw [← hi, ← this]
        clear hf hx this hi
        induction parts with
        | nil => rfl
        | cons p r ih => simp [ih]
      have hfill := fill_fillP _ (ixs.zip vs) zs us hf
      have hzc : z.cells = zs.toArray := by rw [← hz2]
      simp only [execOp, Instr.build, List.map_toArray, hvs, Sem.run_bind, zeroValue, typeInfo, run_program, Result.andThen_ok, hq, hz1, Sem.run_pure, run_underlying hu, hp, hzc]
      rw [show (fun x => ps.toArray[x]?) = (fun i => ps[i]?) by funext i; rw [List.getElem?_toArray], hfill]
      rfl

/-! ### 3. Operations that change the world -/
theorem stepW {v : Value} {w1 : World} (R : ∀ dst t pos after guard, (execOp a.eval ⟨dst, op, t, pos, after, guard⟩).run P w = .ok (.value v) w1) (A : Fr n a F D) (hd : Nat.blt d n = true) (k : ∀ a', Fr n a' ((d, v) :: F) D → wpList P ops Q rest a' w1) :
    wpList P ops Q (⟨some d, op, t, pos, after, none⟩ :: rest) a w := by
  refine wpList_plain rfl fun K hK => ?_
  unfold Oper.wp
  rw [R (some d) t pos after none]
  exact hK _ _ (k _ (A.put hd v))
theorem alloc_runs {ty k bytes : Nat} {ag : Bool} {zs : List Value} (T : Ty P ty ag k bytes zs) : ∀ dst t pos after guard, (execOp a.eval ⟨dst, .alloc ty, t, pos, after, guard⟩).run P w = .ok (.value (.pointer (some ⟨w.heap.size, 0, none⟩))) (w.alloc (.cells zs.toArray ty (0, 0))) := by
  intro _ _ _ _ _
  obtain ⟨z, h1, h2⟩ := T.runZero w
  have hc : z.cells = zs.toArray := by rw [← h2]
  simp only [execOp, Instr.alloc, Sem.run_bind, h1, Result.andThen_ok, newVar, newRow, newObj, hc]
  rfl
theorem box_runs {ty : Nat} {v : Value} {vs : List Value} (A : Fr n a F D) (hx : ev F x = some v) (hv : v.cells.toList = vs) : ∀ dst t pos after guard, (execOp a.eval ⟨dst, .box ty x, t, pos, after, guard⟩).run P w = .ok (.value (.pointer (some ⟨w.heap.size, 0, none⟩))) (w.alloc (.cells vs.toArray ty (0, 0))) := by
  intro _ _ _ _ _
  have hc : v.cells = vs.toArray := by rw [← hv]
  simp only [execOp, Instr.box, Sem.run_bind, newVar, newRow, newObj, A.ev hx, hc]
  rfl
theorem step_alloc {ty k bytes : Nat} {ag : Bool} {zs : List Value} [T : TyC P ty ag k bytes zs] (A : Fr n a F D) (H : St w0 w m L) (hd : Nat.blt d n = true)
    (k : ∀ b a' w', Fr n a' ((d, .pointer (some ⟨b, 0, none⟩)) :: F) D → St w0 w' m (pt b zs ty :: L) → wpList P ops Q rest a' w') :
    wpList P ops Q (⟨some d, .alloc ty, t, pos, after, none⟩ :: rest) a w :=
  stepW (alloc_runs T.h) A hd fun a' A' => k _ a' _ A' (H.alloc _)
theorem step_box {ty : Nat} {v : Value} {vs : List Value} (A : Fr n a F D) (H : St w0 w m L) (hx : ev F x = some v) (hv : v.cells.toList = vs) (hd : Nat.blt d n = true)
    (k : ∀ b a' w', Fr n a' ((d, .pointer (some ⟨b, 0, none⟩)) :: F) D → St w0 w' m (pt b vs ty :: L) → wpList P ops Q rest a' w') :
    wpList P ops Q (⟨some d, .box ty x, t, pos, after, none⟩ :: rest) a w :=
  stepW (box_runs A hx hv) A hd fun a' A' => k _ a' _ A' (H.alloc _)
theorem step_store {ty sz bytes tb : Nat} {ag : Bool} {zs vs cs' : List Value} {v : Value} (A : Fr n a F D) (H : St w0 w m L) (hx : ev F x = some (.pointer (some ⟨b, off, none⟩))) (hy : ev F y = some v) [T : TyC P ty ag sz bytes zs] [hp : HasPt L b cs tb L']
    (hv : v.cells.toList = vs) (hk : vs.length = sz) (h1 : vs.all (·.oneCell') = true) (hs : setN cs off vs = some cs')
    (k : ∀ w', St w0 w' m (pt b cs' tb :: L') → wpList P ops Q rest a w') : wpList P ops Q (⟨none, .store ty x y, t, pos, after, none⟩ :: rest) a w := by
  refine wpList_plain rfl fun K hK => ?_
  have H' : St w0 w m (pt b cs tb :: L') := H.perm hp.p
  have hb := H'.block
  obtain ⟨g1, g2⟩ := setN_some hs
  have hst : (storeCells ⟨b, off, none⟩ vs 0).run P w = .ok () (w.setRow b cs'.toArray) := by
    have := run_storeCells_at (P := P) b off tb vs 0 cs.toArray w hb (by simpa using g1) (by simpa using h1)
    rw [this, g2]
    simp
  unfold Oper.wp
  have hsz : v.cells.size = sz := by rw [← hk, ← hv]; simp
  simp only [execOp, Instr.storeAt, Instr.sureAddr, A.ev hx, A.ev hy, Sem.run_bind, Sem.run_pure, Result.andThen_ok, storeVar, T.h.runSize, hsz, hv, hst, ne_eq, not_true_eq_false, if_false]
  refine hK _ _ (k _ (H'.update ⟨rfl, rfl, rfl, by simp⟩ (setRow_heap w b _ _ _ _ hb) fun j hj _ => setRow_other w b j _ hj))
theorem replicate_row (zs : List Value) (len : Nat) : (Array.range (len * zs.length)).map (fun j => zs.toArray[j % zs.toArray.size]!) = ((List.replicate len zs).flatten).toArray := by
  apply Array.ext'
  simp only [Array.toList_map, Array.toList_range, List.size_toArray]
  induction len with
  | zero => simp
  | succ len ih =>
    rw [List.replicate_succ', List.flatten_append, ← ih, Nat.add_mul, Nat.one_mul, List.range_add, List.map_append, List.map_map]
    congr 1
    simp only [List.flatten_cons, List.flatten_nil, List.append_nil]
    apply List.ext_getElem
    · simp
    · intro i h1 h2
      have hi : i < zs.length := h2
      simp [Nat.mod_eq_of_lt hi, hi]
theorem mkrow_runs {s e k len : Nat} {zs us vs : List Value} {parts : List (Nat × Operand)} {ixs : List Nat} (hs : slEl P s = some (e, k)) (hz : (P.info? e).map (fun i => i.zero.map (·.cells.toList)) = some (some zs)) (hzl : zs.length = k) (hsm : len * k ≤ 16777216) (A : Fr n a F D)
    (hi : parts.map (·.1) = ixs) (hx : evs F (parts.map (·.2)) = some vs) (hf : fillP (fun i => some (i * k, k)) (List.replicate len zs).flatten (ixs.zip vs) = some us) :
    ∀ dst t pos after guard, (execOp a.eval ⟨dst, .buildSlice s len parts.toArray, t, pos, after, guard⟩).run P w = .ok (.value (.slice (some ⟨w.heap.size, 0, none⟩) len len)) (w.alloc (.cells us.toArray e (0, 0))) := by
  intro _ _ _ _ _
  obtain ⟨q, h2, h3, h4⟩ := slEl_spec hs
  have hvs : (parts.map fun p => (p.1, a.eval p.2)) = ixs.zip vs := by
    have := A.evs hx
    rw [← hi, ← this]
    clear hf hx this hi
    induction parts with
    | nil => rfl
    | cons p r ih => simp [ih]
  have hlim : ¬ len * k > 2 ^ 24 := by omega
  have hfill := fill_fillP _ (ixs.zip vs) _ us hf
  simp only [execOp, Instr.buildSlice, List.map_toArray, hvs, Sem.run_bind, run_underlying h2, Result.andThen_ok, sizeOf, typeInfo, run_program, h3, Sem.run_pure, h4, hlim, if_false]
  by_cases h0 : len * k = 0
  · have he : (List.replicate len zs).flatten = [] := by
      apply List.eq_nil_of_length_eq_zero
      simp [hzl, h0]
    rw [he] at hfill
    have hr0 : (Array.range 0).map (fun x => (#[] : Array Value)[x % (#[] : Array Value).size]!) = ([] : List Value).toArray := by simp
    simp only [h0, if_true, Sem.run_bind, Sem.run_pure, Result.andThen_ok]
    rw [hr0, hfill]
    simp only [newRow, newObj, Sem.run_bind]
    rfl
  · simp only [h3, Option.map_some, Option.some.injEq, Option.map_eq_some_iff] at hz
    obtain ⟨z, hz1, hz2⟩ := hz
    have hzc : z.cells = zs.toArray := by rw [← hz2]
    have hr := replicate_row zs len
    rw [hzl] at hr
    simp only [h0, if_false, Sem.run_bind, zeroValue, typeInfo, run_program, Result.andThen_ok, h3, hz1, Sem.run_pure, hzc]
    rw [hr, hfill]
    simp only [newRow, newObj, Sem.run_bind]
    rfl
theorem step_slice {s e k len bytes : Nat} {ag : Bool} {zs us vs : List Value} {parts : List (Nat × Operand)} {ixs : List Nat} [hs : SlC P s e k] [T : TyC P e ag k bytes zs] (A : Fr n a F D) (H : St w0 w m L) (hzl : Nat.beq zs.length k = true) (hsm : Nat.ble (len * k) 16777216 = true)
    (hi : parts.map (·.1) = ixs) (hx : evs F (parts.map (·.2)) = some vs) (hf : fillP (fun i => some (i * k, k)) (List.replicate len zs).flatten (ixs.zip vs) = some us) (hd : Nat.blt d n = true)
    (K : ∀ b a' w', Fr n a' ((d, .slice (some ⟨b, 0, none⟩) len len) :: F) D → St w0 w' m (pt b us e :: L) → wpList P ops Q rest a' w') :
    wpList P ops Q (⟨some d, .buildSlice s len parts.toArray, t, pos, after, none⟩ :: rest) a w := by
  refine stepW (mkrow_runs hs.h ?_ (Nat.eq_of_beq_eq_true hzl) (by simpa [Nat.ble_eq] using hsm) A hi hx hf) A hd fun a' A' => K _ a' _ A' (H.alloc _)
  obtain ⟨i, z, h1, _, _, h3, h4⟩ := T.h.info
  simp [h1, h3, h4]
end

/-! ### 4. Calls -/
section
variable {xs : List Operand} {vs : List Value} {f : Nat} {tys : Array TypeId}
/-- An ending that is a return, with what it returns. -/
def RetV (R : Mem → Value → List Res → Prop) : Mem → Ending → List Res → Prop
  | m, .returned v, L => R m v L
  | _, _, _ => False
theorem enter_runs [hf : FnC P f] (A : Fr n a F D) (hx : evs F xs = some vs) : ∀ dst t pos after guard, (execOp a.eval ⟨dst, .call { callee := .value (.func f), args := xs.toArray, argTypes := tys }, t, pos, after, guard⟩).run P w = .ok (.enter f vs.toArray) w := by
  intro _ _ _ _ _
  have := A.evs hx
  simp only [execOp, resolve, Act.eval, Deferred.ofValue, List.map_toArray, this, Sem.run_bind, Sem.run_pure, Result.andThen_ok, invoke]
  simpa using hf.h vs.toArray w
theorem oper_call {o : Oper} {R : Mem → Value → List Res → Prop} {Lc Lf : List Res} {K : Act → World → Prop} {dst : Option Tmp} (hR : (execOp a.eval o).run P w = .ok (.enter f vs.toArray) w) (hdst : o.dst = dst) (S : Spec P f vs.toArray m Lc (RetV R)) (H : St w0 w m (Lc ++ Lf))
    (k : ∀ v w' m' L', Le m m' → R m' v L' → St w0 w' m' (L' ++ Lf) → K (a.put dst v) w') : o.wp P a w K Q := by
  unfold Oper.wp
  rw [hR, Oper.upon_enter]
  refine S.call H fun e w' m' L' hm hp H' => ?_
  cases e with
  | returned v => subst hdst; exact k v w' m' L' hm hp H'
  | panicked c => exact hp.elim
  | outgrown => exact hp.elim
theorem step_call {R : Mem → Value → List Res → Prop} {Lc Lf : List Res} [hf : FnC P f] (A : Fr n a F D) (hx : evs F xs = some vs) (hd : Nat.blt d n = true) (S : Spec P f vs.toArray m Lc (RetV R)) (H : St w0 w m (Lc ++ Lf))
    (k : ∀ v a' w' m' L', Le m m' → R m' v L' → Fr n a' ((d, v) :: F) D → St w0 w' m' (L' ++ Lf) → wpList P ops Q rest a' w') :
    wpList P ops Q (⟨some d, .call { callee := .value (.func f), args := xs.toArray, argTypes := tys }, t, pos, after, none⟩ :: rest) a w :=
  wpList_plain rfl fun _ hK => oper_call (enter_runs A hx _ _ _ _ _) rfl S H fun v w' m' L' hm hr H' => hK _ _ (k v _ w' m' L' hm hr (A.put hd v) H')
theorem step_callG {R : Mem → Value → List Res → Prop} {Lc Lf : List Res} {j dj : Nat} {want b : Bool} [hf : FnC P f] (hj : (ops[j]?).bind (·.dst) = some dj) (hv : lk F dj = some (.bool b)) (hb : b = want) (A : Fr n a F D) (hx : evs F xs = some vs) (hd : Nat.blt d n = true) (S : Spec P f vs.toArray m Lc (RetV R)) (H : St w0 w m (Lc ++ Lf))
    (k : ∀ v a' w' m' L', Le m m' → R m' v L' → Fr n a' ((d, v) :: F) D → St w0 w' m' (L' ++ Lf) → wpList P ops Q rest a' w') :
    wpList P ops Q (⟨some d, .call { callee := .value (.func f), args := xs.toArray, argTypes := tys }, t, pos, after, some (j, want)⟩ :: rest) a w := by
  refine wpList_step fun K hK => ?_
  rw [if_pos (by rw [wanted_of (ops := ops) rfl A hj hv, hb]; simp)]
  exact oper_call (enter_runs A hx _ _ _ _ _) rfl S H fun v w' m' L' hm hr H' => hK _ _ (k v _ w' m' L' hm hr (A.put hd v) H')
/-- A call through a function value: what it captured stands behind the arguments. -/
theorem clo_runs {x : Operand} {cap : List Value} [hf : FnC P f] (A : Fr n a F D) (hc : ev F x = some (.func (.func f) #[] cap.toArray)) (hx : evs F xs = some vs) : ∀ dst t pos after guard, (execOp a.eval ⟨dst, .call { callee := .value x, args := xs.toArray, argTypes := tys }, t, pos, after, guard⟩).run P w = .ok (.enter f (vs ++ cap).toArray) w := by
  intro _ _ _ _ _
  have := A.evs hx
  simp only [execOp, resolve, A.ev hc, Deferred.ofValue, List.map_toArray, this, Sem.run_bind, Sem.run_pure, Result.andThen_ok, invoke]
  simpa using hf.h (vs ++ cap).toArray w
theorem step_clo {x : Operand} {cap : List Value} {R : Mem → Value → List Res → Prop} {Lc Lf : List Res} [hf : FnC P f] (A : Fr n a F D) (hc : ev F x = some (.func (.func f) #[] cap.toArray)) (hx : evs F xs = some vs) (hd : Nat.blt d n = true) (S : Spec P f (vs ++ cap).toArray m Lc (RetV R)) (H : St w0 w m (Lc ++ Lf))
    (k : ∀ v a' w' m' L', Le m m' → R m' v L' → Fr n a' ((d, v) :: F) D → St w0 w' m' (L' ++ Lf) → wpList P ops Q rest a' w') :
    wpList P ops Q (⟨some d, .call { callee := .value x, args := xs.toArray, argTypes := tys }, t, pos, after, none⟩ :: rest) a w :=
  wpList_plain rfl fun _ hK => oper_call (clo_runs A hc hx _ _ _ _ _) rfl S H fun v w' m' L' hm hr H' => hK _ _ (k v _ w' m' L' hm hr (A.put hd v) H')
end

/-! ### 5. Tests -/
theorem cond_true {x y : Code} {c : Operand} {b : Bool} (A : Fr n a F D) (hc : ev F c = some (.bool b)) (hb : b = true) (h : x.wp P Q a w) : (Code.cond c x y).wp P Q a w := by subst hb; exact wp_cond (A.ev hc) h
theorem cond_false {x y : Code} {c : Operand} {b : Bool} (A : Fr n a F D) (hc : ev F c = some (.bool b)) (hb : b = false) (h : y.wp P Q a w) : (Code.cond c x y).wp P Q a w := by subst hb; exact wp_cond (A.ev hc) h
theorem cond_split {x y : Code} {c : Operand} {b : Bool} (A : Fr n a F D) (hc : ev F c = some (.bool b)) (ht : b = true → x.wp P Q a w) (hf : b = false → y.wp P Q a w) : (Code.cond c x y).wp P Q a w := by
  cases b
  · exact wp_cond (A.ev hc) (hf rfl)
  · exact wp_cond (A.ev hc) (ht rfl)
end

/-! ### 6. Functions that hand back a value and own nothing more -/
section
variable {P : Program} {n : Nat} {a : Act} {F : List (Nat × Value)} {D : List Deferred} {w0 w : World} {m m0 : Mem} {L Lf : List Res} {ops : Array Oper} {Q : Exit → Act → World → Prop} {rest : List Oper}
variable {d t : Nat} {pos : String} {after : Array Edge} {xs : List Operand} {vs : List Value} {f : Nat} {tys : Array TypeId}
def RetF (R : Mem → Value → Prop) : Mem → Ending → List Res → Prop := RetV fun m v L => L = [] ∧ R m v
/-- 'it returns v' -/
def RetE (v : Value) : Mem → Ending → List Res → Prop := RetF fun _ u => u = v
theorem step_callF {R : Mem → Value → Prop} [hf : FnC P f] (A : Fr n a F D) (hx : evs F xs = some vs) (hd : Nat.blt d n = true) (S : Spec P f vs.toArray m [] (RetF R)) (H : St w0 w m L)
    (k : ∀ v a' w' m', Le m m' → R m' v → Fr n a' ((d, v) :: F) D → St w0 w' m' L → wpList P ops Q rest a' w') :
    wpList P ops Q (⟨some d, .call { callee := .value (.func f), args := xs.toArray, argTypes := tys }, t, pos, after, none⟩ :: rest) a w :=
  step_call A hx hd S H fun v a' w' m' _ hm ⟨h1, h2⟩ A' H' => k v a' w' m' hm h2 A' (by subst h1; exact H')
theorem step_callFG {R : Mem → Value → Prop} {j dj : Nat} {want b : Bool} [hf : FnC P f] (hj : (ops[j]?).bind (·.dst) = some dj) (hv : lk F dj = some (.bool b)) (hb : b = want) (A : Fr n a F D) (hx : evs F xs = some vs) (hd : Nat.blt d n = true) (S : Spec P f vs.toArray m [] (RetF R)) (H : St w0 w m L)
    (k : ∀ v a' w' m', Le m m' → R m' v → Fr n a' ((d, v) :: F) D → St w0 w' m' L → wpList P ops Q rest a' w') :
    wpList P ops Q (⟨some d, .call { callee := .value (.func f), args := xs.toArray, argTypes := tys }, t, pos, after, some (j, want)⟩ :: rest) a w :=
  step_callG hj hv hb A hx hd S H fun v a' w' m' _ hm ⟨h1, h2⟩ A' H' => k v a' w' m' hm h2 A' (by subst h1; exact H')
theorem retF {fn : Func} {s : Nat} {v : Value} {R : Mem → Value → Prop} (A : Fr n a F []) (hr : fn.results = #[.tmp s]) (hv : lk F s = some v) (hM : Le m0 m) (H : St w0 w m L) [SubH Lf L] (h : R m v) :
    bodyPost P fn (fun e w' => ∃ m' L', Le m0 m' ∧ RetF R m' e L' ∧ St w0 w' m' (L' ++ Lf)) .ret a w :=
  ret_tmp A hr hv ⟨m, [], hM, ⟨rfl, h⟩, St.sub (L' := Lf) H⟩
theorem results_tmp3 {fn : Func} {t u x : Tmp} (h : fn.results = #[.tmp t, .tmp u, .tmp x]) (tmps : Array Value) (P : Program) (w : World) : (results fn tmps).run P w = .ok (.tuple #[tmps.getD t undef, tmps.getD u undef, tmps.getD x undef]) w := by
  simp [results, h]
theorem retF2 {fn : Func} {s1 s2 : Nat} {v1 v2 : Value} {R : Mem → Value → Prop} (A : Fr n a F []) (hr : fn.results = #[.tmp s1, .tmp s2]) (hv1 : lk F s1 = some v1) (hv2 : lk F s2 = some v2) (hM : Le m0 m) (H : St w0 w m L) [SubH Lf L] (h : R m (.tuple #[v1, v2])) :
    bodyPost P fn (fun e w' => ∃ m' L', Le m0 m' ∧ RetF R m' e L' ∧ St w0 w' m' (L' ++ Lf)) .ret a w :=
  ret_tmp2 A hr hv1 hv2 ⟨m, [], hM, ⟨rfl, h⟩, St.sub (L' := Lf) H⟩
theorem retF3 {fn : Func} {s1 s2 s3 : Nat} {v1 v2 v3 : Value} {R : Mem → Value → Prop} (A : Fr n a F []) (hr : fn.results = #[.tmp s1, .tmp s2, .tmp s3]) (hv1 : lk F s1 = some v1) (hv2 : lk F s2 = some v2) (hv3 : lk F s3 = some v3) (hM : Le m0 m) (H : St w0 w m L) [SubH Lf L] (h : R m (.tuple #[v1, v2, v3])) :
    bodyPost P fn (fun e w' => ∃ m' L', Le m0 m' ∧ RetF R m' e L' ∧ St w0 w' m' (L' ++ Lf)) .ret a w :=
  ⟨A.defers, _, by rw [results_tmp3 hr]; simp [Array.getD_eq_getD_getElem?, A.at_ s1 v1 hv1, A.at_ s2 v2 hv2, A.at_ s3 v3 hv3], m, [], hM, ⟨rfl, h⟩, St.sub (L' := Lf) H⟩
theorem results_cellN {fn : Func} {s ty k bytes b off : Nat} {zs cs vs : List Value} (hr : fn.results = #[.cell s ty]) (A : Fr n a F []) (H : St w0 w m L) (hp : lk F s = some (.pointer (some ⟨b, off, none⟩))) (T : Ty P ty true k bytes zs) (hb : Blk m L b cs) (hv : getN cs off k = some vs) :
    (results fn a.tmps).run P w = .ok (.agg vs.toArray) w := by
  have h1 := Runs.loadN (x := .tmp s) A H hp T hb hv none 0 "" #[] none
  have hp' : a.tmps[s]?.getD undef = .pointer (some ⟨b, off, none⟩) := by rw [A.at_ s _ hp]; rfl
  simp only [execOp, A.ev (x := .tmp s) hp, Instr.loadAt, Instr.sureAddr, Sem.run_bind, Sem.run_pure, Result.andThen_ok] at h1
  have h2 : (loadVar ty ⟨b, off, none⟩).run P w = .ok (.agg vs.toArray) w := by
    cases hq : (loadVar ty ⟨b, off, none⟩).run P w with
    | ok u w' => rw [hq] at h1; simpa using h1
    | halt _ _ => rw [hq] at h1; simp [Result.andThen] at h1
  simp [results, hr, hp', asAddr, Array.getD_eq_getD_getElem?, h2]
theorem retFc {fn : Func} {s ty k bytes b off : Nat} {zs cs vs : List Value} {R : Mem → Value → Prop} (A : Fr n a F []) (hr : fn.results = #[.cell s ty]) (hp : lk F s = some (.pointer (some ⟨b, off, none⟩))) (hM : Le m0 m) (H : St w0 w m L) [T : TyC P ty true k bytes zs] [hb : BlkC m L b cs] (hv : getN cs off k = some vs) [SubH Lf L] (h : R m (.agg vs.toArray)) :
    bodyPost P fn (fun e w' => ∃ m' L', Le m0 m' ∧ RetF R m' e L' ∧ St w0 w' m' (L' ++ Lf)) .ret a w :=
  ⟨A.defers, _, results_cellN hr A H hp T.h hb.h hv, m, [], hM, ⟨rfl, h⟩, St.sub (L' := Lf) H⟩
end


theorem notT {b : Bool} (h : b = true) : (!b) = false := by rw [h]; rfl
theorem notF {b : Bool} (h : b = false) : (!b) = true := by rw [h]; rfl

/-! ### 7. Regions that draw their order -/
section
variable {P : Program} {ops : Array Oper} {Q : Exit → Act → World → Prop} {S : World → Prop}
def waits (ops : Array Oper) (j k : Nat) : Bool := match ops[j]? with
  | some o => o.after.any fun e => Region.binds .any e && e.on == k
  | none => false
/-- An operation that waits for all others, at one remove at most. -/
def lastOp (ops : Array Oper) (j : Nat) : Bool := (List.range ops.size).all fun k => k == j || waits ops j k || (List.range ops.size).any fun l => waits ops j l && waits ops l k
/-- What has come up has come up behind all that it waits for. -/
def closedB (ops : Array Oper) (listed : Array Bool) : Bool := (List.range ops.size).all fun k => !listed.getD k false || (List.range ops.size).all fun l => !waits ops k l || listed.getD l false
theorem closed_set {ops : Array Oper} {listed : Array Bool} {j : Nat} (h : closedB ops listed = true) (hj : j ∈ Region.ready .any ops listed) : closedB ops (listed.setIfInBounds j true) = true := by
  simp only [closedB, List.all_eq_true, List.mem_range, Bool.or_eq_true, Bool.not_eq_true'] at *
  intro k hk
  rcases Decidable.em (j = k) with rfl | hne
  · right
    intro l hl
    cases hw : waits ops j l with
    | false => exact .inl rfl
    | true =>
      right
      obtain ⟨_, o, ho, hall⟩ := mem_ready.1 hj
      simp only [waits, ho] at hw
      obtain ⟨e, he, hb⟩ := Array.any_eq_true'.1 hw
      simp only [Bool.and_eq_true, beq_iff_eq] at hb
      have := hall e he hb.1
      rw [hb.2] at this
      exact getD_set_true this
  · rw [getD_set_ne false hne]
    rcases h k hk with h1 | h1
    · exact .inl h1
    · exact .inr fun l hl => (h1 l hl).imp id getD_set_true
/-- Whatever order is drawn from here on; 'S' holds behind every operation but one that waits for all others. -/
def Ord (P : Program) (ops : Array Oper) (Q : Exit → Act → World → Prop) (S : World → Prop) : Nat → Array Bool → Act → World → Prop
  | 0, listed, a, w => Region.ready .any ops listed = [] ∧ Q .normal a w
  | fuel + 1, listed, a, w => (Region.ready .any ops listed = [] → Q .normal a w) ∧
    ∀ i ∈ Region.ready .any ops listed, wpOp P ops Q i (fun a' w' => (lastOp ops i = false → S w') ∧ Ord P ops Q S fuel (listed.setIfInBounds i true) a' w') a w
theorem Ord.any : ∀ (fuel : Nat) (listed : Array Bool) (a : Act) (w : World), Ord P ops Q S fuel listed a w → wpAny P .any ops Q fuel listed a w
  | 0, _, _, _, h => h
  | fuel + 1, _, _, _, h => ⟨h.1, fun i hi => wpOp_mono (fun a' w' k => Ord.any fuel _ a' w' k.2) (h.2 i hi)⟩
theorem not_listed {listed : Array Bool} {i : Nat} (h1 : listed.getD i true = false) (h2 : listed.getD i false = true) : False := by
  rcases Nat.lt_or_ge i listed.size with hs | hs
  · simp [hs] at h1 h2; rw [h1] at h2; cases h2
  · simp [Array.getElem?_eq_none hs] at h2
theorem lastOp_not {j i : Nat} {listed : Array Bool} (hc : closedB ops listed = true) (hj : j ∈ Region.ready .any ops listed) (hi : listed.getD i true = false) (hlt : i < ops.size) (hne : i ≠ j) : lastOp ops j = false := by
  obtain ⟨_, o, ho, hall⟩ := mem_ready.1 hj
  have hw : ∀ k, waits ops j k = true → listed.getD k false = true := by
    intro k hk
    simp only [waits, ho] at hk
    obtain ⟨e, he, hb⟩ := Array.any_eq_true'.1 hk
    simp only [Bool.and_eq_true, beq_iff_eq] at hb
    have := hall e he hb.1
    rwa [hb.2] at this
  cases hl : lastOp ops j with
  | false => rfl
  | true =>
    simp only [lastOp, List.all_eq_true, List.mem_range] at hl
    have h1 := hl i hlt
    simp only [Bool.or_eq_true, beq_iff_eq, hne, false_or] at h1
    rcases h1 with h1 | h1
    · exact (not_listed hi (hw i h1)).elim
    · obtain ⟨l, hl1, hl2⟩ := List.any_eq_true.1 h1
      simp only [Bool.and_eq_true] at hl2
      have hll := hw l hl2.1
      simp only [closedB, List.all_eq_true, List.mem_range, Bool.or_eq_true, Bool.not_eq_true'] at hc
      rcases hc l (List.mem_range.1 hl1) with h2 | h2
      · rw [hll] at h2; cases h2
      · rcases h2 i hlt with h3 | h3
        · rw [hl2.2] at h3; cases h3
        · exact (not_listed hi h3).elim
theorem Ord.first {i : Nat} {oi : Oper} {v : Value} (hi : ops[i]? = some oi) (hsel : ∀ (j : Nat) (o : Oper) cs b, ops[j]? = some o → o.op ≠ .select cs b) (hQ : ∀ c a w, Q (.panic c) (a.put oi.dst v) w → Q (.panic c) a w) :
    ∀ (fuel : Nat) (listed : Array Bool) (a : Act) (w : World), closedB ops listed = true →
      (∀ j oj, ops[j]? = some oj → j ≠ i → listed.getD j true = false → (∀ e ∈ oj.after, Region.binds .any e = true → e.on ≠ i) → oi.apart ops oj = true) →
      i ∈ Region.ready .any ops listed → YieldsIf P ops S oi v a → S w →
      Ord P ops Q S fuel (listed.setIfInBounds i true) (a.put oi.dst v) w → Ord P ops Q S (fuel + 1) listed a w := by
  have hlt : i < ops.size := (Array.getElem?_eq_some_iff.1 hi).1
  intro fuel
  induction fuel with
  | zero =>
    intro listed a w _ _ hr hy hS H
    refine ⟨fun h => (by rw [h] at hr; cases hr), fun j hj => ?_⟩
    rcases Decidable.em (j = i) with rfl | hne
    · exact hy.wpOp hi hS ⟨fun _ => hS, H⟩
    · have := ready_mono hj hne
      rw [H.1] at this
      cases this
  | succ fuel ih =>
    intro listed a w hc hfree hr hy hS H
    refine ⟨fun h => (by rw [h] at hr; cases hr), fun j hj => ?_⟩
    rcases Decidable.em (j = i) with rfl | hne
    · exact hy.wpOp hi hS ⟨fun _ => hS, H⟩
    · obtain ⟨hjun, oj, hoj, hall⟩ := mem_ready.1 hj
      have hiun := (mem_ready.1 hr).1
      have hlast : lastOp ops j = false := lastOp_not hc hj hiun hlt (Ne.symm hne)
      have hno : ∀ e ∈ oj.after, Region.binds .any e = true → e.on ≠ i := fun e he hb heq => by
        have h1 := hall e he hb
        rw [heq] at h1
        have h0 : listed.getD i false = true := h1
        rcases Nat.lt_or_ge i listed.size with hs | hs
        · simp [hs] at hiun h0; rw [hiun] at h0; cases h0
        · simp [Array.getElem?_eq_none hs] at h0
      have h2 := wpOp_putIf hoj (hfree j oj hoj hne hjun hno) (fun cs b => hsel i oi cs b hi) (fun cs b => hsel j oj cs b hoj) hQ hy (H.2 j (ready_mono hj hne))
      refine wpOp_mono (fun a' w' h3 => ⟨fun _ => h3.2.1 hlast, ih (listed.setIfInBounds j true) a' w' (closed_set hc hj) ?_ (ready_mono hr (Ne.symm hne)) h3.1 (h3.2.1 hlast) ?_⟩) h2
      · intro k ok hk hki hun hno'
        refine hfree k ok hk hki ?_ hno'
        rcases Decidable.em (j = k) with rfl | hjk
        · exact hjun
        · rwa [getD_set_ne true hjk] at hun
      · rw [Array.setIfInBounds_comm _ _ hne]
        exact h3.2.2
end

section
variable {P : Program} {n : Nat} {a : Act} {F : List (Nat × Value)} {D : List Deferred} {w0 w : World} {m ms : Mem} {L Ls : List Res} {ops : Array Oper} {Q : Exit → Act → World → Prop}
variable {d t i fuel : Nat} {pos : String} {after : Array Edge} {op : Op} {listed : Array Bool}
/-- What the operations that only read may lean on, all through the region. -/
def SW (m : Mem) (L : List Res) (w : World) : Prop := ∃ w0, St w0 w m L
theorem St.anti {w0 w : World} {m m' : Mem} {L : List Res} (H : St w0 w m' L) (h : Le m m') : St w0 w m L := by
  obtain ⟨a, b, hh, c, d⟩ := H
  refine ⟨a, fun k o x => b k o (h k o x), hh, c, fun k o x => ⟨(d k o x).1, ?_⟩⟩
  cases hk : m k with
  | none => rfl
  | some u => have h1 := h k u hk; rw [(d k o x).2] at h1; cases h1
theorem St.sw (H : St w0 w m L) (h : Le ms m) [SubH Ls L] : SW ms Ls w := ⟨w0, (St.sub (L' := Ls) H).anti h⟩
/-! What has come up, as a list. -/
def memN : List Nat → Nat → Bool
  | [], _ => false
  | i :: o, j => bif Nat.beq i j then true else memN o j
theorem memN_iff {o : List Nat} {j : Nat} : memN o j = true ↔ j ∈ o := by
  induction o with
  | nil => simp [memN]
  | cons i o ih =>
    simp only [memN, cond_eq_ite, List.mem_cons]
    split
    · rename_i h; simp [Nat.eq_of_beq_eq_true h]
    · rename_i h
      rw [ih]
      exact ⟨.inr, fun k => k.resolve_left fun e => h (by rw [e]; exact Nat.beq_refl i)⟩
def LsOf (N : Nat) : List Nat → Array Bool
  | [] => Array.replicate N false
  | i :: o => (LsOf N o).setIfInBounds i true
theorem LsOf_size (N : Nat) : ∀ o : List Nat, (LsOf N o).size = N
  | [] => by simp [LsOf]
  | i :: o => by simp [LsOf, LsOf_size N o]
theorem LsOf_get {N : Nat} : ∀ (o : List Nat) {j : Nat} {b : Bool}, j < N → (LsOf N o).getD j b = memN o j
  | [], j, b, h => by simp [LsOf, memN, h]
  | i :: o, j, b, h => by
    have ih := LsOf_get o (b := b) h
    simp only [LsOf, memN, cond_eq_ite]
    have hs := LsOf_size N o
    rcases Decidable.em (i = j) with rfl | hne
    · rw [if_pos (Nat.beq_refl i)]
      simp [hs, h]
    · rw [if_neg (fun e => hne (Nat.eq_of_beq_eq_true e)), getD_set_ne b hne]
      exact ih
/-- Whether the operation waits for nothing that has not come up. -/
def rdyB (ops : Array Oper) (o : List Nat) (i : Nat) : Bool := !memN o i && match ops[i]? with
  | some x => x.after.toList.all fun e => !Region.binds .any e || memN o e.on
  | none => false
def pairB (ops : Array Oper) (i j : Nat) : Bool := match ops[i]?, ops[j]? with
  | some x, some y => y.after.toList.any (fun e => Nat.beq e.on i && Region.binds .any e) || x.after.toList.any (fun e => Nat.beq e.on j && Region.binds .any e) || (x.apart ops y && y.apart ops x)
  | _, _ => true
def statB (ops : Array Oper) : Bool := Region.noSelect ops && (List.range ops.size).all fun i => (List.range i).all fun j => pairB ops i j
theorem pair_of {i j : Nat} (h : statB ops = true) (hi : i < ops.size) (hj : j < ops.size) (hne : i ≠ j) : pairB ops i j = true ∨ pairB ops j i = true := by
  simp only [statB, Bool.and_eq_true, List.all_eq_true, List.mem_range] at h
  rcases Nat.lt_or_ge j i with hlt | hge
  · exact .inl (h.2 i hi j hlt)
  · exact .inr (h.2 j hj i (by omega))
structure DrO (ops : Array Oper) (o : List Nat) : Prop where
  st : statB ops = true
  lt : ∀ j ∈ o, j < ops.size
  cl : closedB ops (LsOf ops.size o) = true
theorem DrO.begin (h : statB ops = true) : DrO ops [] := ⟨h, by simp, by
  simp only [closedB, List.all_eq_true, List.mem_range, Bool.or_eq_true, Bool.not_eq_true']
  intro k hk
  exact .inl (by rw [LsOf_get [] hk]; rfl)⟩
theorem DrO.ready {o : List Nat} (h : DrO ops o) (hr : rdyB ops o i = true) : i ∈ Region.ready .any ops (LsOf ops.size o) := by
  simp only [rdyB, Bool.and_eq_true, Bool.not_eq_true'] at hr
  obtain ⟨h1, h2⟩ := hr
  split at h2
  · rename_i x hx
    have hi : i < ops.size := (Array.getElem?_eq_some_iff.1 hx).1
    refine mem_ready.2 ⟨by rw [LsOf_get o hi]; exact h1, x, hx, fun e he hb => ?_⟩
    have := List.all_eq_true.1 h2 e (by simpa using he)
    rw [hb] at this
    simp only [Bool.not_true, Bool.false_or] at this
    rw [LsOf_get o (h.lt _ (memN_iff.1 this))]; exact this
  · cases h2
theorem DrO.next {o : List Nat} (h : DrO ops o) (hr : rdyB ops o i = true) : DrO ops (i :: o) := by
  have hm := h.ready hr
  refine ⟨h.st, fun j hj => ?_, closed_set h.cl hm⟩
  rcases List.mem_cons.1 hj with rfl | hj
  · obtain ⟨_, x, hx, _⟩ := mem_ready.1 hm
    exact (Array.getElem?_eq_some_iff.1 hx).1
  · exact h.lt j hj
theorem DrO.free {o : List Nat} (h : DrO ops o) (hr : rdyB ops o i = true) {oi : Oper} (hi : ops[i]? = some oi) : ∀ j oj, ops[j]? = some oj → j ≠ i → (LsOf ops.size o).getD j true = false → (∀ e ∈ oj.after, Region.binds .any e = true → e.on ≠ i) → oi.apart ops oj = true := by
  intro j oj hj hne hun hno
  have hil : i < ops.size := (Array.getElem?_eq_some_iff.1 hi).1
  have hjl : j < ops.size := (Array.getElem?_eq_some_iff.1 hj).1
  have hoi : ∀ e ∈ oi.after, Region.binds .any e = true → e.on ≠ j := fun e he hb heq => by
    obtain ⟨_, x, hx, hall⟩ := mem_ready.1 (h.ready hr)
    rw [hi] at hx; cases hx
    have := hall e he hb
    rw [heq, LsOf_get o hjl] at this
    rw [LsOf_get o hjl, this] at hun; cases hun
  have no1 : ∀ {x : Oper} {q : Nat}, (∀ e ∈ x.after, Region.binds .any e = true → e.on ≠ q) → x.after.toList.any (fun e => Nat.beq e.on q && Region.binds .any e) = false := fun {x q} hx => by
    rw [List.any_eq_false]
    intro e he hh
    simp only [Bool.and_eq_true] at hh
    exact hx e (by simpa using he) hh.2 (Nat.eq_of_beq_eq_true hh.1)
  rcases pair_of h.st hil hjl (Ne.symm hne) with hp | hp <;> simp only [pairB, hi, hj, no1 hno, no1 hoi, Bool.false_or, Bool.and_eq_true] at hp
  · exact hp.1
  · exact hp.2
theorem draw_begin {id N : Nat} (hm : P.follows .mixedOrders = true) (hN : ops.size = N) (hst : statB ops = true) (H : St w0 w m L) (h : ∀ w', St w0 w' m L → DrO ops [] → Ord P ops Q (SW ms Ls) N (LsOf ops.size []) a w') : (Code.region id ops true).wp P Q a w :=
  by subst hN; exact wp_region_any hm (Ord.any _ _ _ _ (h _ (H.drewN _) (DrO.begin hst)))
theorem draw_begin0 {id N : Nat} (hm : P.follows .mixedOrders = true) (hN : ops.size = N) (hst : statB ops = true) (H : St w0 w m L) (h : ∀ w', St w0 w' m L → DrO ops [] → Ord P ops Q (SW m L) N (LsOf ops.size []) a w') : (Code.region id ops true).wp P Q a w := draw_begin hm hN hst H h
theorem dtake {v : Value} {oi : Oper} {o : List Nat} (R : DrO ops o) (hi : ops[i]? = some oi) (hc : rdyB ops o i = true) (hQ : ∀ c a w, Q (.panic c) (a.put oi.dst v) w → Q (.panic c) a w) (hy : YieldsIf P ops (SW ms Ls) oi v a) (hS : SW ms Ls w)
    (k : DrO ops (i :: o) → Ord P ops Q (SW ms Ls) fuel (LsOf ops.size (i :: o)) (a.put oi.dst v) w) : Ord P ops Q (SW ms Ls) (fuel + 1) (LsOf ops.size o) a w :=
  Ord.first hi (Region.noSelect_spec (by have := R.st; simp only [statB, Bool.and_eq_true] at this; exact this.1)) hQ fuel _ a w R.cl (R.free hc hi) (R.ready hc) hy hS (k (R.next hc))
section
variable {o : List Nat}
theorem dstep {v : Value} (R : DrO ops o) (hi : ops[i]? = some ⟨some d, op, t, pos, after, none⟩) (hc : rdyB ops o i = true) (hQ : ∀ c a w, Q (.panic c) (a.put (some d) v) w → Q (.panic c) a w)
    (Rn : ∀ w0 w, St w0 w ms Ls → Runs P a w op v) (A : Fr n a F D) (hd : Nat.blt d n = true) (hS : SW ms Ls w)
    (k : ∀ a', Fr n a' ((d, v) :: F) D → DrO ops (i :: o) → Ord P ops Q (SW ms Ls) fuel (LsOf ops.size (i :: o)) a' w) : Ord P ops Q (SW ms Ls) (fuel + 1) (LsOf ops.size o) a w :=
  dtake R hi hc hQ (.inl ⟨rfl, fun w ⟨w0, H⟩ => Rn w0 w H _ _ _ _ _⟩) hS (k _ (A.put hd v))
theorem dstepG {v : Value} {j dj : Nat} {want b : Bool} (R : DrO ops o) (hi : ops[i]? = some ⟨some d, op, t, pos, after, some (j, want)⟩) (hc : rdyB ops o i = true) (hQ : ∀ c a w, Q (.panic c) (a.put (some d) v) w → Q (.panic c) a w)
    (hj : (ops[j]?).bind (·.dst) = some dj) (hv : lk F dj = some (.bool b)) (hb : b = want) (Rn : ∀ w0 w, St w0 w ms Ls → Runs P a w op v) (A : Fr n a F D) (hd : Nat.blt d n = true) (hS : SW ms Ls w)
    (k : ∀ a', Fr n a' ((d, v) :: F) D → DrO ops (i :: o) → Ord P ops Q (SW ms Ls) fuel (LsOf ops.size (i :: o)) a' w) : Ord P ops Q (SW ms Ls) (fuel + 1) (LsOf ops.size o) a w :=
  dtake R hi hc hQ (.inl ⟨by rw [wanted_of (ops := ops) rfl A hj hv, hb]; simp, fun w ⟨w0, H⟩ => Rn w0 w H _ _ _ _ _⟩) hS (k _ (A.put hd v))
theorem dskip {j dj : Nat} {want b : Bool} (R : DrO ops o) (hi : ops[i]? = some ⟨some d, op, t, pos, after, some (j, want)⟩) (hc : rdyB ops o i = true) (hQ : ∀ c a w, Q (.panic c) (a.put (some d) undef) w → Q (.panic c) a w)
    (hj : (ops[j]?).bind (·.dst) = some dj) (hv : lk F dj = some (.bool b)) (hb : b = !want) (A : Fr n a F D) (hd : Nat.blt d n = true) (hS : SW ms Ls w)
    (k : ∀ a', Fr n a' ((d, undef) :: F) D → DrO ops (i :: o) → Ord P ops Q (SW ms Ls) fuel (LsOf ops.size (i :: o)) a' w) : Ord P ops Q (SW ms Ls) (fuel + 1) (LsOf ops.size o) a w :=
  dtake R hi hc hQ (.inr ⟨by rw [wanted_of (ops := ops) rfl A hj hv, hb]; cases want <;> simp, rfl⟩) hS (k _ (A.put hd undef))
theorem wanted_undef {ox : Oper} {j dj : Nat} {want : Bool} (hg : ox.guard = some (j, want)) (A : Fr n a F D) (hj : (ops[j]?).bind (·.dst) = some dj) (hv : lk F dj = some undef) : Region.wanted ox (yielded ops a.tmps) = false := by
  have := A.at_ dj _ hv
  simp only [Region.wanted, hg, yielded, hj, Option.bind_some, this]
  cases want <;> rfl
theorem dskipU {j dj : Nat} {want : Bool} (R : DrO ops o) (hi : ops[i]? = some ⟨some d, op, t, pos, after, some (j, want)⟩) (hc : rdyB ops o i = true) (hQ : ∀ c a w, Q (.panic c) (a.put (some d) undef) w → Q (.panic c) a w)
    (hj : (ops[j]?).bind (·.dst) = some dj) (hv : lk F dj = some undef) (A : Fr n a F D) (hd : Nat.blt d n = true) (hS : SW ms Ls w)
    (k : ∀ a', Fr n a' ((d, undef) :: F) D → DrO ops (i :: o) → Ord P ops Q (SW ms Ls) fuel (LsOf ops.size (i :: o)) a' w) : Ord P ops Q (SW ms Ls) (fuel + 1) (LsOf ops.size o) a w :=
  dtake R hi hc hQ (.inr ⟨wanted_undef (ops := ops) rfl A hj hv, rfl⟩) hS (k _ (A.put hd undef))
theorem joinD {S : World → Prop} {fuel : Nat} (fuel' : Nat) (o' : List Nat) (N : List (Nat × Value) → List (Nat × Value)) (_A : Fr n a F D)
    (h1 : (∀ a, Fr n a (N F) D → DrO ops o' → Ord P ops Q S fuel' (LsOf ops.size o') a w) → Ord P ops Q S fuel (LsOf ops.size o) a w)
    (h2 : ∀ a, Fr n a (N F) D → DrO ops o' → Ord P ops Q S fuel' (LsOf ops.size o') a w) : Ord P ops Q S fuel (LsOf ops.size o) a w := h1 h2
theorem upon_then {o : Oper} {K : Act → World → Prop} {a : Act} {w : World} (h : o.wp P a w K (Exit.then K Q)) : o.wp P a w K Q := by
  unfold Oper.wp at *
  generalize (execOp a.eval o).run P w = r at *
  cases r with
  | ok x w' =>
    cases x <;> simp only [Oper.upon] at h ⊢ <;> exact h
  | halt x w' => cases x <;> simp only [Oper.upon] at h ⊢ <;> exact h
theorem dalt {o : Oper} {K : Act → World → Prop} (hi : ops[i]? = some o) (h : wpList P ops (Exit.then K Q) [o] a w) : wpOp P ops Q i K a w := by
  unfold wpOp
  rw [hi]
  unfold wpList at h
  show if Region.wanted o (yielded ops a.tmps) then _ else _
  split
  · rename_i hw
    rw [if_pos hw] at h
    rcases h with h | ⟨h1, h2⟩
    · exact .inl (upon_then h)
    · exact .inr ⟨h1, h2⟩
  · rename_i hw
    rw [if_neg hw] at h
    exact h
/-- those that may come up next -/
def rdyL (ops : Array Oper) (o : List Nat) : List Nat := (List.range ops.size).filter fun i => rdyB ops o i
theorem rdyL_eq (R : DrO ops o) : Region.ready .any ops (LsOf ops.size o) = rdyL ops o := by
  unfold rdyL
  have key : ∀ i, i < ops.size → (i ∈ Region.ready .any ops (LsOf ops.size o) ↔ rdyB ops o i = true) := fun i hi => by
    constructor
    · intro h
      obtain ⟨h1, x, hx, hall⟩ := mem_ready.1 h
      rw [LsOf_get o hi] at h1
      simp only [rdyB, h1, Bool.not_false, Bool.true_and, hx, List.all_eq_true, Bool.or_eq_true, Bool.not_eq_true']
      intro e he
      cases hb : Region.binds .any e with
      | false => exact .inl rfl
      | true =>
        right
        have := hall e (by simpa using he) hb
        rcases Nat.lt_or_ge e.on ops.size with hl | hl
        · rwa [LsOf_get o hl] at this
        · have hs := LsOf_size ops.size o
          simp [Array.getElem?_eq_none (by rw [hs]; exact hl : (LsOf ops.size o).size ≤ e.on)] at this
    · exact R.ready
  unfold Region.ready at *
  refine List.filter_congr fun i hi => ?_
  have hi' := List.mem_range.1 hi
  have := key i hi'
  rw [List.mem_filter] at this
  rw [Bool.eq_iff_iff]
  exact ⟨fun h => this.1 ⟨hi, h⟩, fun h => (this.2 h).2⟩
theorem draws_all {rs : List Nat} (R : DrO ops o) (hr : rdyL ops o = rs) (hne : rs ≠ []) (h : ∀ i ∈ rs, wpOp P ops Q i (fun a' w' => (lastOp ops i = false → SW ms Ls w') ∧ Ord P ops Q (SW ms Ls) fuel (LsOf ops.size (i :: o)) a' w') a w) : Ord P ops Q (SW ms Ls) (fuel + 1) (LsOf ops.size o) a w := by
  have e := (rdyL_eq R).trans hr
  exact ⟨fun h0 => absurd (e ▸ h0) hne, e ▸ h⟩
theorem dlist {ox : Oper} (R : DrO ops o) (hi : ops[i]? = some ox) (hr : rdyL ops o = [i])
    (h : wpList P ops (Exit.then (fun a' w' => (lastOp ops i = false → SW ms Ls w') ∧ Ord P ops Q (SW ms Ls) fuel (LsOf ops.size (i :: o)) a' w') Q) [ox] a w) : Ord P ops Q (SW ms Ls) (fuel + 1) (LsOf ops.size o) a w := by
  refine draws_all R hr (by simp) fun j hj => ?_
  obtain rfl : j = i := by simpa using hj
  exact dalt hi h
theorem and_keep {p q r : Prop} (h : p) (k : p → q) : (r → p) ∧ q := ⟨fun _ => h, k h⟩
theorem and_last {p q : Prop} {b : Bool} (hb : b = true) (k : q) : (b = false → p) ∧ q := ⟨fun h => (by rw [hb] at h; cases h), k⟩
theorem draw_done (R : DrO ops o) (hr : ((List.range ops.size).all fun j => memN o j) = true) (h : Q .normal a w) : Ord P ops Q (SW ms Ls) fuel (LsOf ops.size o) a w := by
  have e : Region.ready .any ops (LsOf ops.size o) = [] := by
    rw [rdyL_eq R, rdyL, List.filter_eq_nil_iff]
    intro j hj hh
    have := List.all_eq_true.1 hr j hj
    simp only [rdyB, this, Bool.not_true, Bool.false_and] at hh
    cases hh
  cases fuel with
  | zero => exact ⟨e, h⟩
  | succ _ => exact ⟨fun _ => h, by rw [e]; simp⟩
end
end

section
variable {P : Program} {n : Nat} {a : Act} {F : List (Nat × Value)} {D : List Deferred} {w : World} {ops : Array Oper} {Q : Exit → Act → World → Prop} {rest : List Oper}
/-- An operation whose guard holds is as one without a guard. -/
theorem unguard {dst : Option Tmp} {op : Op} {t : TypeId} {pos : String} {after : Array Edge} {j dj : Nat} {want b : Bool} (hj : (ops[j]?).bind (·.dst) = some dj) (hv : lk F dj = some (.bool b)) (hb : b = want) (A : Fr n a F D)
    (h : wpList P ops Q (⟨dst, op, t, pos, after, none⟩ :: rest) a w) : wpList P ops Q (⟨dst, op, t, pos, after, some (j, want)⟩ :: rest) a w := by
  have hw := wanted_of (ops := ops) (o := ⟨dst, op, t, pos, after, some (j, want)⟩) rfl A hj hv
  unfold wpList at h ⊢
  rw [if_pos (by rw [hw, hb]; simp)]
  rw [if_pos (by simp [Region.wanted])] at h
  exact h
end
end Sl
end Go.Proofs.YtanhehbfbakdcaaGreatDoor
/- Slices: rows that are owned and grow by append; slices that are frozen and read. Own work; nothing about a program stands here. -/
namespace Go.Proofs.YtanhehbfbakdcaaGreatDoor
namespace Sl
open Go Go.RowKit

/-- An owned row: the slice (ad, n, c) begins at the head of a block of its own, whose first cells are xs. -/
def row (e size : Nat) (ad : Option Addr) (n c : Nat) (xs : List Value) : Res := fun h => xs.length = n * size ∧
  ((ad = none ∧ n = 0 ∧ c = 0 ∧ ∀ b, h b = none) ∨ ∃ g cur, ad = some ⟨g, 0, none⟩ ∧ n ≤ c ∧ c ≤ maxLen ∧ cur.size = c * size ∧ cur.toList.take (n * size) = xs ∧ h = single g (.cells cur e (0, 0)))
/-- A slice that is read: frozen cells. -/
def Slc (m : Mem) (size : Nat) (ad : Option Addr) (n c : Nat) (xs : List Value) : Prop := xs.length = n * size ∧ n ≤ c ∧ c ≤ maxLen ∧
  (0 < n → ∃ b off cs, ad = some ⟨b, off, none⟩ ∧ fz m b cs ∧ (cs.drop off).take (n * size) = xs)
theorem Slc.mono {m m' : Mem} {size n c : Nat} {ad : Option Addr} {xs : List Value} (h : Slc m size ad n c xs) (k : Le m m') : Slc m' size ad n c xs :=
  ⟨h.1, h.2.1, h.2.2.1, fun hn => by obtain ⟨b, off, cs, h1, h2, h3⟩ := h.2.2.2 hn; exact ⟨b, off, cs, h1, h2.mono k, h3⟩⟩
theorem Slc.nil (m : Mem) (size : Nat) (ad : Option Addr) (c : Nat) (hc : c ≤ maxLen) : Slc m size ad 0 c [] := ⟨by simp, Nat.zero_le _, hc, fun h => absurd h (by omega)⟩
theorem Slc.at_ {m : Mem} {size n c : Nat} {ad : Option Addr} {xs : List Value} (h : Slc m size ad n c xs) (hn : 0 < n) : ∃ b off cs, ad = some ⟨b, off, none⟩ ∧ Fz m b cs ∧ ∀ j, j < n * size → cs[off + j]? = xs[j]? := by
  obtain ⟨b, off, cs, h1, h2, h3⟩ := h.2.2.2 hn
  refine ⟨b, off, cs, h1, ⟨h2⟩, fun j hj => ?_⟩
  rw [← h3, List.getElem?_take_of_lt hj, List.getElem?_drop]

section
variable {w0 w : World} {m : Mem} {L : List Res}
theorem St.row_nil (H : St w0 w m L) (e size : Nat) : St w0 w m (row e size none 0 0 [] :: L) := by
  obtain ⟨a, b, h, y, d⟩ := H
  exact ⟨a, b, h, ⟨fun _ => none, h, ⟨by simp, .inl ⟨rfl, rfl, rfl, fun _ => rfl⟩⟩, y, fun _ => .inl rfl, fun _ => by simp⟩, d⟩
theorem St.row_pt {b e size n : Nat} {cs : List Value} (H : St w0 w m (pt b cs e :: L)) (hl : cs.length = n * size) (hn : n ≤ maxLen) : St w0 w m (row e size (some ⟨b, 0, none⟩) n n cs :: L) :=
  H.mapHead fun h hh => ⟨hl, .inr ⟨b, cs.toArray, rfl, Nat.le_refl _, hn, by simpa using hl, by rw [← hl]; simp, hh⟩⟩
theorem St.row_len {e size n c : Nat} {ad : Option Addr} {xs : List Value} (H : St w0 w m (row e size ad n c xs :: L)) : xs.length = n * size ∧ n ≤ c ∧ c ≤ maxLen := by
  obtain ⟨_, _, _, ⟨_, _, ⟨h1, h2⟩, _⟩, _⟩ := H
  refine ⟨h1, ?_⟩
  rcases h2 with ⟨_, rfl, rfl, _⟩ | ⟨g, cur, _, a, b, _⟩
  · exact ⟨Nat.le_refl _, by unfold maxLen; omega⟩
  · exact ⟨a, b⟩
theorem St.row_freeze {e size n c : Nat} {ad : Option Addr} {xs : List Value} (H : St w0 w m (row e size ad n c xs :: L)) : ∃ m', Le m m' ∧ Slc m' size ad n c xs ∧ St w0 w m' L := by
  obtain ⟨h1, h2, h3⟩ := H.row_len
  have H0 := H
  obtain ⟨a, b, h, ⟨k1, k2, ⟨_, hx⟩, y, z, u⟩, d⟩ := H
  rcases hx with ⟨rfl, rfl, rfl, _⟩ | ⟨g, cur, rfl, _, _, e5, e6, rfl⟩
  · exact ⟨m, Le.refl m, ⟨h1, h2, h3, fun hn => absurd hn (by omega)⟩, H0.drop⟩
  · have H1 : St w0 w m (ob g (.cells cur e (0, 0)) :: L) := ⟨a, b, h, ⟨_, k2, rfl, y, z, u⟩, d⟩
    obtain ⟨m', g1, g2, g3⟩ := H1.freezeO
    exact ⟨m', g1, ⟨h1, h2, h3, fun _ => ⟨g, 0, cur.toList, rfl, ⟨e, (0, 0), by simpa using g2⟩, by simpa using e6⟩⟩, g3⟩
theorem St.row_owns {e size n c : Nat} {ad : Option Addr} {xs : List Value} (H : St w0 w m (row e size ad n c xs :: L)) : w.ownsRow 0 e size (.slice ad n c) n xs := by
  obtain ⟨_, _, h, ⟨k1, k2, ⟨h1, hx⟩, y, z, u⟩, d⟩ := H
  refine ⟨h1, ?_⟩
  rcases hx with ⟨rfl, rfl, rfl, _⟩ | ⟨g, cur, rfl, e3, e4, e5, e6, rfl⟩
  · exact .inl ⟨rfl, rfl⟩
  · refine .inr ⟨g, c, cur, rfl, Nat.zero_le _, ?_, e3, e4, e5, e6⟩
    exact (d g _ (by rw [u]; simp [single])).1
theorem St.row_grown {w' : World} {e size n c n' : Nat} {ad : Option Addr} {xs xs' : List Value} {v' : Value} (H : St w0 w m (row e size ad n c xs :: L)) (ho : w'.ownsRow 0 e size v' n' xs') (hg : w.grownBy w' (Value.slice ad n c).ownBlock)
    (hb : v'.ownBlock = (Value.slice ad n c).ownBlock ∨ v'.ownBlock = some w.heap.size) : ∃ ad' c', v' = .slice ad' n' c' ∧ St w0 w' m (row e size ad' n' c' xs' :: L) := by
  have hio : Kep w w' := ⟨hg.os, hg.tape, hg.output, hg.size⟩
  obtain ⟨o1, o2⟩ := ho
  -- first: the old row's block is forgotten, or turned
  have H0 := H
  obtain ⟨a, b, h, ⟨k1, k2, ⟨h1, hx⟩, y, z, u⟩, d⟩ := H
  rcases o2 with ⟨rfl, rfl⟩ | ⟨g', cap', cur', rfl, _, p2, p3, p4, p5, p6⟩
  · refine ⟨none, 0, rfl, ?_⟩
    have hx' : xs' = [] := List.eq_nil_of_length_eq_zero (by simpa using o1)
    subst hx'
    rcases hx with ⟨rfl, rfl, rfl, _⟩ | ⟨g, cur, rfl, e3, e4, e5, e6, rfl⟩
    · exact (H0.drop.same hio fun k hk => hg.block k hk (by simp [Value.ownBlock])).row_nil e size
    · rcases hb with hb | hb <;> simp [Value.ownBlock] at hb
  · refine ⟨some ⟨g', 0, none⟩, cap', rfl, ?_⟩
    have fin : ∀ {LL}, St w0 w' m (ob g' (.cells cur' e (0, 0)) :: LL) → St w0 w' m (row e size (some ⟨g', 0, none⟩) n' cap' xs' :: LL) := fun K => K.mapHead fun hh hp => ⟨o1, .inr ⟨g', cur', rfl, p3, p4, p5, p6, hp⟩⟩
    rcases hx with ⟨rfl, rfl, rfl, _⟩ | ⟨g, cur, rfl, e3, e4, e5, e6, rfl⟩
    · have hg' : g' = w.heap.size := by
        rcases hb with hb | hb
        · simp [Value.ownBlock] at hb
        · simpa [Value.ownBlock] using hb
      subst hg'
      exact fin (H0.drop.new hio p2 (Nat.le_refl _) fun k hk => hg.block k hk (by simp [Value.ownBlock]))
    · have H1 : St w0 w m (ob g (.cells cur e (0, 0)) :: L) := ⟨a, b, h, ⟨_, k2, rfl, y, z, u⟩, d⟩
      rcases hb with hb | hb
      · have : g' = g := by simpa [Value.ownBlock] using hb
        subst this
        exact fin (H1.update hio p2 fun k hk hk2 => hg.block k hk2 (by simpa [Value.ownBlock] using hk))
      · have : g' = w.heap.size := by simpa [Value.ownBlock] using hb
        subst this
        have hlt : g < w.heap.size := (Array.getElem?_eq_some_iff.1 H1.block).1
        -- the old block is dropped after being turned into whatever it is now
        have hgb : ∃ o, w'.heap[g]? = some o := by
          have : g < w'.heap.size := Nat.lt_of_lt_of_le hlt hg.size
          exact ⟨_, Array.getElem?_eq_getElem this⟩
        obtain ⟨o, ho⟩ := hgb
        have H2 : St w0 w' m (ob g o :: L) := H1.update hio ho fun k hk hk2 => hg.block k hk2 (by simpa [Value.ownBlock] using hk)
        obtain ⟨a2, b2, h2, c2, d2⟩ := H2.drop
        -- the new block, in w'
        have hm : m w.heap.size = none := by
          cases hh : m w.heap.size with
          | none => rfl
          | some o => exact absurd (Array.getElem?_eq_some_iff.1 (b _ _ hh)).1 (by omega)
        obtain ⟨_, _, h3, y3, d3⟩ := H0.drop
        have hn3 : h3 w.heap.size = none := by
          cases hh : h3 w.heap.size with
          | none => rfl
          | some o => exact absurd (Array.getElem?_eq_some_iff.1 (d3 _ _ hh).1).1 (by omega)
        -- what L owns is not g: from H1's disjointness
        have hk2g : k2 g = none := by
          rcases z g with q | q
          · simp [single] at q
          · exact q
        have hk2n : k2 w.heap.size = none := by
          cases hh : k2 w.heap.size with
          | none => rfl
          | some o =>
            have : h w.heap.size = some o := by rw [u]; simp [single, hh, show w.heap.size ≠ g by omega]
            exact absurd (Array.getElem?_eq_some_iff.1 (d _ _ this).1).1 (by omega)
        refine fin ⟨a.trans hio, b2, fun k => (single w.heap.size (.cells cur' e (0, 0)) k).or (k2 k), ⟨single w.heap.size _, k2, rfl, y, fun k => ?_, fun _ => rfl⟩, fun k o hk => ?_⟩
        · by_cases e : k = w.heap.size
          · subst e; exact .inr hk2n
          · exact .inl (by simp [single, e])
        · by_cases ek : k = w.heap.size
          · subst ek
            simp [single] at hk
            subst hk
            exact ⟨p2, hm⟩
          · have hk' : k2 k = some o := by simpa [single, ek] using hk
            have hkg : k ≠ g := fun e => by subst e; rw [hk2g] at hk'; cases hk'
            have hh : h k = some o := by rw [u]; simp [single, hkg, hk']
            have hd := d k o hh
            exact ⟨by rw [hg.block k (Array.getElem?_eq_some_iff.1 hd.1).1 (by simpa [Value.ownBlock] using hkg)]; exact hd.1, hd.2⟩
end

section
variable {P : Program} {n : Nat} {a : Act} {F : List (Nat × Value)} {D : List Deferred} {w0 w : World} {m : Mem} {L L' : List Res} {ops : Array Oper} {Q : Exit → Act → World → Prop} {rest : List Oper}
variable {d t : Nat} {pos : String} {after : Array Edge} {x y : Operand}
class HasRow (L : List Res) (e size : outParam Nat) (ad : Option Addr) (k : Nat) (c : Nat) (xs : outParam (List Value)) (L' : outParam (List Res)) : Prop where
  p : L.Perm (row e size ad k c xs :: L')
instance (priority := high) HasRow.head {e size k c : Nat} {ad : Option Addr} {xs : List Value} {L : List Res} : HasRow (row e size ad k c xs :: L) e size ad k c xs L := ⟨.refl _⟩
instance (priority := low) HasRow.tail {e size k c : Nat} {ad : Option Addr} {xs : List Value} {r : Res} {L L' : List Res} [h : HasRow L e size ad k c xs L'] : HasRow (r :: L) e size ad k c xs (r :: L') := ⟨(List.Perm.cons r h.p).trans (.swap _ _ _)⟩
/-- append of cells that lie in a block of their own, or are frozen -/
theorem step_append {e size k c by_ q cq ts : Nat} {ag : Bool} {zs xs news : List Value} {ad : Option Addr} {bb : Nat} (A : Fr n a F D) (H : St w0 w m L) (hx : ev F x = some (.slice ad k c)) (hy : ev F y = some (.slice (some ⟨bb, 0, none⟩) q cq))
    [hr : HasRow L e size ad k c xs L'] [hs : SlC P t e size] [T : TyC P e ag size by_ zs] [hb : BlkC m L bb news] (hq : news.length = q * size) (h1 : news.all (·.oneCell') = true) (hsz : 0 < size) (hby : (k + q) * by_ ≤ 140737488355328) (hln : k + q ≤ maxLen) (hzl : Nat.beq zs.length size = true) (hd : Nat.blt d n = true)
    (K : ∀ ad' c' a' w', Fr n a' ((d, .slice ad' (k + q) c') :: F) D → St w0 w' m (row e size ad' (k + q) c' (xs ++ news) :: L') → wpList P ops Q rest a' w') :
    wpList P ops Q (⟨some d, .call { callee := .builtin .append, args := #[x, y], argTypes := #[t, t] }, ts, pos, after, none⟩ :: rest) a w := by
  have HR : St w0 w m (row e size ad k c xs :: L') := H.perm hr.p
  obtain ⟨i, z, g1, g2, g3, g4, g5⟩ := T.h.info
  obtain ⟨q0, j1, j2, j3⟩ := slEl_spec hs.h
  refine wpList_append_own_at w rfl x y t rfl 0 e i z size by_ j1 g1 g4 g2 g3 (by have := Nat.eq_of_beq_eq_true hzl; rw [← this, ← g5]; simp) hsz _ k xs (A.ev hx) HR.row_owns ⟨bb, 0, none⟩ q cq news (A.ev hy) hq (fun j u hj => ?_) (fun u hu => (List.all_eq_true.1 h1) u hu) hln hby (Nat.zero_le _) ?_
  · rw [addr_add, H.cell hb.h]; simpa using hj
  · intro v' w' ho hg _ hat
    obtain ⟨ad', c', rfl, H'⟩ := HR.row_grown ho hg hat
    exact K ad' c' _ w' (A.put hd _) H'
end

/-! ### Which resources a call takes along -/
class HasRes (L : List Res) (r : Res) (L' : outParam (List Res)) : Prop where
  p : L.Perm (r :: L')
instance (priority := high) HasRes.head {r : Res} {L : List Res} : HasRes (r :: L) r L := ⟨.refl _⟩
instance (priority := low) HasRes.tail {r s : Res} {L L' : List Res} [h : HasRes L r L'] : HasRes (s :: L) r (s :: L') := ⟨(List.Perm.cons s h.p).trans (.swap _ _ _)⟩
class Sel (L : List Res) (Lc : List Res) (Lf : outParam (List Res)) : Prop where
  p : L.Perm (Lc ++ Lf)
instance Sel.nil {L : List Res} : Sel L [] L := ⟨.refl _⟩
instance Sel.cons {L L1 Lc Lf : List Res} {r : Res} [h : HasRes L r L1] [k : Sel L1 Lc Lf] : Sel L (r :: Lc) Lf := ⟨h.p.trans (k.p.cons r)⟩
section
variable {P : Program} {n : Nat} {a : Act} {F : List (Nat × Value)} {D : List Deferred} {w0 w : World} {m m0 : Mem} {L Lc Lf : List Res} {ops : Array Oper} {Q : Exit → Act → World → Prop} {rest : List Oper}
variable {d t : Nat} {pos : String} {after : Array Edge} {xs : List Operand} {vs : List Value} {f : Nat} {tys : Array TypeId}
theorem step_callS {R : Mem → Value → List Res → Prop} [hf : FnC P f] [hs : Sel L Lc Lf] (A : Fr n a F D) (hx : evs F xs = some vs) (hd : Nat.blt d n = true) (S : Spec P f vs.toArray m Lc (RetV R)) (H : St w0 w m L)
    (k : ∀ v a' w' m' L', Le m m' → R m' v L' → Fr n a' ((d, v) :: F) D → St w0 w' m' (L' ++ Lf) → wpList P ops Q rest a' w') :
    wpList P ops Q (⟨some d, .call { callee := .value (.func f), args := xs.toArray, argTypes := tys }, t, pos, after, none⟩ :: rest) a w := step_call A hx hd S (H.perm hs.p) k
theorem step_callSG {R : Mem → Value → List Res → Prop} {j dj : Nat} {want b : Bool} [hf : FnC P f] [hs : Sel L Lc Lf] (hj : (ops[j]?).bind (·.dst) = some dj) (hv : lk F dj = some (.bool b)) (hb : b = want) (A : Fr n a F D) (hx : evs F xs = some vs) (hd : Nat.blt d n = true) (S : Spec P f vs.toArray m Lc (RetV R)) (H : St w0 w m L)
    (k : ∀ v a' w' m' L', Le m m' → R m' v L' → Fr n a' ((d, v) :: F) D → St w0 w' m' (L' ++ Lf) → wpList P ops Q rest a' w') :
    wpList P ops Q (⟨some d, .call { callee := .value (.func f), args := xs.toArray, argTypes := tys }, t, pos, after, some (j, want)⟩ :: rest) a w := step_callG hj hv hb A hx hd S (H.perm hs.p) k
theorem step_cloS {x : Operand} {cap : List Value} {R : Mem → Value → List Res → Prop} [hf : FnC P f] [hs : Sel L Lc Lf] (A : Fr n a F D) (hc : ev F x = some (.func (.func f) #[] cap.toArray)) (hx : evs F xs = some vs) (hd : Nat.blt d n = true) (S : Spec P f (vs ++ cap).toArray m Lc (RetV R)) (H : St w0 w m L)
    (k : ∀ v a' w' m' L', Le m m' → R m' v L' → Fr n a' ((d, v) :: F) D → St w0 w' m' (L' ++ Lf) → wpList P ops Q rest a' w') :
    wpList P ops Q (⟨some d, .call { callee := .value x, args := xs.toArray, argTypes := tys }, t, pos, after, none⟩ :: rest) a w := step_clo A hc hx hd S (H.perm hs.p) k
class SubA (L' Lf L : List Res) : Prop where
  h : SubH (L' ++ Lf) L
instance (priority := high) SubA.nil {Lf L : List Res} [k : SubH Lf L] : SubA [] Lf L := ⟨k⟩
instance (priority := default) SubA.keep {r : Res} {L' Lf L : List Res} [k : SubA L' Lf L] : SubA (r :: L') Lf (r :: L) := ⟨@SubH.keep r L (L' ++ Lf) k.h⟩
instance (priority := low) SubA.skip {r : Res} {L' Lf L : List Res} [k : SubA L' Lf L] : SubA L' Lf (r :: L) := ⟨@SubH.skip r L (L' ++ Lf) k.h⟩
/-- a return that hands resources back -/
theorem retV {fn : Func} {s : Nat} {v : Value} {L' : List Res} {R : Mem → Value → List Res → Prop} (A : Fr n a F []) (hr : fn.results = #[.tmp s]) (hv : lk F s = some v) (hM : Le m0 m) (H : St w0 w m L) (h : R m v L') [p : SubA L' Lf L] :
    bodyPost P fn (fun e w' => ∃ m' L', Le m0 m' ∧ RetV R m' e L' ∧ St w0 w' m' (L' ++ Lf)) .ret a w :=
  ret_tmp A hr hv ⟨m, L', hM, h, @St.subH _ _ _ _ _ p.h H⟩
theorem endV0 {fn : Func} {L' : List Res} {R : Mem → Value → List Res → Prop} (A : Fr n a F []) (hr : fn.results = #[]) (hM : Le m0 m) (H : St w0 w m L) (h : R m (.tuple #[]) L') [p : SubA L' Lf L] :
    bodyPost P fn (fun e w' => ∃ m' L', Le m0 m' ∧ RetV R m' e L' ∧ St w0 w' m' (L' ++ Lf)) .normal a w :=
  end_none A hr ⟨m, L', hM, h, @St.subH _ _ _ _ _ p.h H⟩

/-! ### Arrays in memory -/
class IntC (P : Program) (t : Nat) (k : outParam IntKind) : Prop where
  h : P.underlying t = some (.int k)
class ArrC (P : Program) (t : Nat) (len e k : outParam Nat) : Prop where
  u : P.underlying t = some (.array len e)
  s : (P.info? e).map (·.size) = some k
theorem Runs.indexArr {b off ty len e k : Nat} {x y : Operand} {i : Int} {ik : IntKind} (A : Fr n a F D) (hx : ev F x = some (.pointer (some ⟨b, off, none⟩))) (hy : ev F y = some (.int ik i)) [h : ArrC P ty len e k] (h0 : 0 ≤ i) (h1 : i < len) :
    Runs P a w (.indexAddr ty x y) (.pointer (some ⟨b, off + i.toNat * k, none⟩)) := by
  intro _ _ _ _ _
  have hs := h.s
  cases hq : P.info? e with
  | none => simp [hq] at hs
  | some q =>
    have h4 : q.size = k := by simpa [hq] using hs
    have hand : 0 ≤ i ∧ i < len := ⟨h0, h1⟩
    simp [execOp, A.ev hx, A.ev hy, Instr.indexAt, Instr.sureAddr, asIntOf, Sem.run_bind, run_underlying h.u, sizeOf, typeInfo, hq, h4, hand, addr_add]
theorem Runs.indexArrV {ty len e : Nat} {x y : Operand} {i : Int} {ik : IntKind} {cs : List Value} {v : Value} (A : Fr n a F D) (hx : ev F x = some (.agg cs.toArray)) (hy : ev F y = some (.int ik i)) [h : ArrC P ty len e 1] {bytes : Nat} {zs : List Value} [T : TyC P e false 1 bytes zs] (h0 : 0 ≤ i) (h1 : i < len) (hv : cs[i.toNat]? = some v) :
    Runs P a w (.index ty x y) v := by
  intro _ _ _ _ _
  have hand : 0 ≤ i ∧ i < len := ⟨h0, h1⟩
  simp [execOp, A.ev hx, A.ev hy, Instr.index, asIntOf, Sem.run_bind, run_underlying h.u, T.h.runSize, part, T.h.runAgg, hand, hv]
theorem Runs.addK {k : IntKind} {p q r : Int} {x y : Operand} {ty ty' : Nat} (A : Fr n a F D) (hx : ev F x = some (.int k p)) (hy : ev F y = some (.int k q)) (h : k.wrap (p + q) = r) : Runs P a w (.binOp .add ty x y ty') (.int k r) := by subst h; exact Runs.addW A hx hy
theorem Runs.sliceN {ty lo hi : Nat} {s : ByteArray} {x y z : Operand} {p q : Int} {k k' : IntKind} (A : Fr n a F D) (hx : ev F x = some (.string s)) (hy : ev F y = some (.int k p)) (hz : ev F z = some (.int k' q)) [ht : StrC P ty] (hp : p = (lo : Int)) (hq : q = (hi : Int)) (h1 : lo ≤ hi) (h2 : hi ≤ s.size) :
    Runs P a w (.slice ty x (some y) (some z) none) (.string (s.extract lo hi)) := by
  subst hp; subst hq
  have := Runs.sliceS (w := w) A hx hy hz ht.h (by omega) (by omega) (by omega)
  simpa using this
theorem Runs.sliceNlo {ty lo : Nat} {s : ByteArray} {x y : Operand} {p : Int} {k : IntKind} (A : Fr n a F D) (hx : ev F x = some (.string s)) (hy : ev F y = some (.int k p)) [ht : StrC P ty] (hp : p = (lo : Int)) (h2 : lo ≤ s.size) :
    Runs P a w (.slice ty x (some y) none none) (.string (s.extract lo s.size)) := by
  subst hp
  have := Runs.sliceSlo (w := w) A hx hy ht.h (by omega) (by omega)
  simpa using this
end
end Sl
end Go.Proofs.YtanhehbfbakdcaaGreatDoor
/- Ranges over strings. Own work; nothing about a program stands here. -/
set_option linter.unusedVariables false
set_option linter.unusedSimpArgs false
namespace Go.Proofs.YtanhehbfbakdcaaGreatDoor
namespace Sl
open Go Go.RowKit
variable {P : Program} {ops : Array Oper} {Q : Exit → Act → World → Prop} {n : Nat} {a : Act} {w w0 : World} {F : List (Nat × Value)} {D : List Deferred} {m : Mem} {L L' : List Res} {rest : List Oper}
variable {d t : Nat} {pos : String} {after : Array Edge} {x : Operand}
theorem rangeS_runs {ty : Nat} {s : ByteArray} [hS : StrC P ty] (A : Fr n a F D) (hx : ev F x = some (.string s)) : ∀ dst t pos after guard, (execOp a.eval ⟨dst, .range ty x, t, pos, after, guard⟩).run P w = .ok (.value (.pointer (some ⟨w.heap.size, 0, none⟩))) (w.alloc (.stringIter s 0)) := by
  intro _ _ _ _ _
  simp only [execOp, Instr.range, A.ev hx, Sem.run_bind, run_underlying hS.h, Result.andThen_ok, Sem.run_pure, newObj]
  rfl
theorem step_rangeS {ty : Nat} {s : ByteArray} [hS : StrC P ty] (A : Fr n a F D) (H : St w0 w m L) (hx : ev F x = some (.string s)) (hd : Nat.blt d n = true)
    (k : ∀ b a' w', Fr n a' ((d, .pointer (some ⟨b, 0, none⟩)) :: F) D → St w0 w' m (ob b (.stringIter s 0) :: L) → wpList P ops Q rest a' w') :
    wpList P ops Q (⟨some d, .range ty x, t, pos, after, none⟩ :: rest) a w :=
  stepW (rangeS_runs A hx) A hd fun a' A' => k _ a' _ A' (H.alloc _)
theorem getObj_iter {b p : Nat} {s : ByteArray} (h : w.heap[b]? = some (.stringIter s p)) : (getObj b).run P w = .ok (.stringIter s p) w := by simp [getObj, Sem.run, h]
theorem setObj_iter {b p : Nat} {s : ByteArray} (o : Obj) (h : w.heap[b]? = some (.stringIter s p)) : (setObj b o).run P w = .ok () { w with heap := w.heap.setIfInBounds b o } := by simp [setObj, Sem.run, h]
theorem nextS_more {b p : Nat} {s : ByteArray} (A : Fr n a F D) (hx : ev F x = some (.pointer (some ⟨b, 0, none⟩))) (hb : w.heap[b]? = some (.stringIter s p)) (hp : p < s.size) : ∀ dst t pos after guard, (execOp a.eval ⟨dst, .next x true, t, pos, after, guard⟩).run P w = .ok (.value (.tuple #[.bool true, .int .i64 p, .int .i32 (Utf8.decode s p).1])) { w with heap := w.heap.setIfInBounds b (.stringIter s (p + (Utf8.decode s p).2)) } := by
  intro _ _ _ _ _
  simp only [execOp, Instr.next, A.ev hx, Sem.run_bind, getObj_iter hb, Result.andThen_ok, hp, if_true, setObj_iter _ hb, Sem.run_pure]
  rfl
theorem nextS_over {b p : Nat} {s : ByteArray} (A : Fr n a F D) (hx : ev F x = some (.pointer (some ⟨b, 0, none⟩))) (hb : w.heap[b]? = some (.stringIter s p)) (hp : ¬ p < s.size) : ∀ dst t pos after guard, (execOp a.eval ⟨dst, .next x true, t, pos, after, guard⟩).run P w = .ok (.value (.tuple #[.bool false])) w := by
  intro _ _ _ _ _
  simp only [execOp, Instr.next, A.ev hx, Sem.run_bind, getObj_iter hb, Result.andThen_ok, hp, if_false, Sem.run_pure]
theorem step_nextS {b p : Nat} {s : ByteArray} (A : Fr n a F D) (H : St w0 w m L) (hx : ev F x = some (.pointer (some ⟨b, 0, none⟩))) [hp : HasOb L b (.stringIter s p) L'] (hd : Nat.blt d n = true)
    (k1 : p < s.size → ∀ a' w', Fr n a' ((d, .tuple #[.bool true, .int .i64 p, .int .i32 (Utf8.decode s p).1]) :: F) D → St w0 w' m (ob b (.stringIter s (p + (Utf8.decode s p).2)) :: L') → wpList P ops Q rest a' w')
    (k0 : ¬ p < s.size → ∀ a', Fr n a' ((d, .tuple #[.bool false]) :: F) D → wpList P ops Q rest a' w) :
    wpList P ops Q (⟨some d, .next x true, t, pos, after, none⟩ :: rest) a w := by
  have H' : St w0 w m (ob b (.stringIter s p) :: L') := H.perm hp.p
  have hb := H'.block
  rcases Decidable.em (p < s.size) with h | h
  · refine stepW (nextS_more A hx hb h) A hd fun a' A' => k1 h a' _ A' (H'.update ⟨rfl, rfl, rfl, by simp⟩ ?_ ?_)
    · have hl := (Array.getElem?_eq_some_iff.1 hb).1
      simp [Array.getElem?_setIfInBounds, hl]
    · intro j hj _
      simp [Array.getElem?_setIfInBounds, Ne.symm hj]
  · exact stepW (nextS_over A hx hb h) A hd fun a' A' => k0 h a' A'
/-- an array that is built of its parts -/
theorem Runs.buildArr {ty len e k size bytes : Nat} {zs us vs : List Value} {parts : List (Nat × Operand)} {ixs : List Nat} [hA : ArrC P ty len e k] [T : TyC P ty true size bytes zs] (A : Fr n a F D) (hi : parts.map (·.1) = ixs) (hx : evs F (parts.map (·.2)) = some vs)
    (hf : fillP (fun i => some (i * k, k)) zs (ixs.zip vs) = some us) : Runs P a w (.build ty parts.toArray) (.agg us.toArray) := by
  intro _ _ _ _ _
  obtain ⟨z, h1, h2⟩ := T.h.runZero w
  have hs := hA.s
  cases hq : P.info? e with
  | none => simp [hq] at hs
  | some q =>
    have h4 : q.size = k := by simpa [hq] using hs
    have hvs : (parts.map fun p => (p.1, a.eval p.2)) = ixs.zip vs := by
      have := A.evs hx
      rw [← hi, ← this]
      clear hf hx this hi
      induction parts with
      | nil => rfl
      | cons p r ih => simp [ih]
    have hfill := fill_fillP _ (ixs.zip vs) zs us hf
    have hzc : z.cells = zs.toArray := by rw [← h2]
    simp only [execOp, Instr.build, List.map_toArray, hvs, Sem.run_bind, h1, run_underlying hA.u, Result.andThen_ok, Sem.run_pure, sizeOf, typeInfo, run_program, hq, h4, hzc]
    rw [hfill]
    rfl
end Sl
end Go.Proofs.YtanhehbfbakdcaaGreatDoor
/- Ranges over functions, in the words of the separation logic. Own work; nothing about a program stands here. -/
namespace Go.Proofs.YtanhehbfbakdcaaGreatDoor
namespace Sl
open Go Go.RowKit
section
variable {P : Program} {ops : Array Oper} {Q : Exit → Act → World → Prop} {n k : Nat} {a : Act} {w w0 : World} {F : List (Nat × Value)} {D : List Deferred} {m : Mem} {L L' Lf : List Res} {rest : List Oper} {K : Act → World → Prop}
/-- What is no defer statement does in a round what it does elsewhere. -/
theorem oper_in_round {o : Oper} {l : Nat} (hd : ∀ c, o.op ≠ .defer c) (h : o.wp P a w K Q) : o.wpIn (Fence.wide.inRound l) k P a w K Q := by
  refine ⟨fun _ _ => trivial, ?_⟩
  rw [show (Fence.wide.inRound l).round = some l from rfl, Oper.semAt_some l _ _ hd]
  unfold Oper.wp at h
  cases hr : (execOp a.eval o).run P w with
  | ok nx w' =>
    rw [hr] at h
    cases nx with
    | enter f args => exact ⟨fun hh => (by simp [Fence.wide] at hh), CallsIn.inRound l (callsIn_wide.2 h)⟩
    | row r args => exact ⟨fun hh => (by simp [Fence.wide] at hh), fun c cs _ => let ⟨v, w', r, s⟩ := h c cs; ⟨v, w', r, stepsIn_wide.2 s⟩⟩
    | round l f t a c => exact h.elim
    | _ => exact h
  | halt u w' =>
    rw [hr] at h
    cases u <;> exact h
theorem list_in_round {l : Nat} (hq : ¬ LetsOut Q) : ∀ (rest : List Oper) (a : Act) (w : World), (∀ o ∈ rest, ∀ c, o.op ≠ .defer c) → wpList P ops Q rest a w → wpListIn (Fence.wide.inRound l) k P ops Q rest a w
  | [], _, _, _, h => h
  | o :: rest, a, w, hd, h => by
    have ih := list_in_round (l := l) hq rest
    unfold wpList at h
    unfold wpListIn
    by_cases hw : Region.wanted o (yielded ops a.tmps) = true
    · rw [if_pos hw] at h ⊢
      rcases h with h | h
      · refine oper_in_round (hd o (by simp)) (Oper.wp_mono (fun a w x => ih a w (fun o ho => hd o (by simp [ho])) x) h)
      · exact absurd h.2 hq
    · rw [if_neg hw] at h ⊢
      exact ⟨fun _ _ => trivial, ih _ _ (fun o ho => hd o (by simp [ho])) h⟩
def noDefer (l : List Oper) : Bool := l.all fun o => match o.op with
  | .defer _ => false
  | _ => true
theorem noDefer_spec {l : List Oper} (h : noDefer l = true) : ∀ o ∈ l, ∀ c, o.op ≠ .defer c := by
  intro o ho c e
  have := List.all_eq_true.1 h o ho
  rw [e] at this
  cases this
theorem region_in_round {l id : Nat} {os : List Oper} (hq : ¬ LetsOut Q) (hd : noDefer os = true) (h : wpList P os.toArray Q os a w) : (Code.region id os.toArray false).wpIn (Fence.wide.inRound l) k P Q a w :=
  wpIn_region_lit (list_in_round hq _ _ _ (noDefer_spec hd) h)
/-- What a call of yield achieves. -/
def Yields (P : Program) (l : Nat) (vs : Array Value) (w : World) (R : Ending → World → Prop) : Prop := YieldAt Fence.wide 0 P l vs w R
/-- An iterator's contract: it hands over the elements of xs, one after the other; whatever the rounds keep. -/
def Iter {α : Type} (P : Program) (f : FuncId) (cap : List Value) (m : Mem) (Lit : List Res) (enc : α → Value) (xs : List α) : Prop :=
  ∀ (l : Nat) (J : List α → List Res),
    (∀ pre x m1 w1 w Lx, Le m m1 → pre ++ [x] <+: xs → St w1 w m1 (J pre ++ Lx) → Yields P l #[enc x] w fun e w' => e = .returned (.bool true) ∧ ∃ m2, Le m1 m2 ∧ St w1 w' m2 (J (pre ++ [x]) ++ Lx)) →
    Spec P f (.func (.yield l) #[] #[] :: cap).toArray m (Lit ++ J []) fun _ e L' => e = .returned (.tuple #[]) ∧ L' = J xs
theorem stepI {d t : Nat} {pos : String} {after : Array Edge} {op : Op} {v : Value} (R : Runs P a w op v) (A : Fr n a F D) (hd : Nat.blt d n = true) (h : ∀ a', Fr n a' ((d, v) :: F) D → wpListIn Fence.wide k P ops Q rest a' w) :
    wpListIn Fence.wide k P ops Q (⟨some d, op, t, pos, after, none⟩ :: rest) a w := by
  refine wpListIn_plain rfl fun K hK => ⟨fun _ _ => trivial, ?_⟩
  show Oper.uponIn _ _ _ _ _ _ _ ((execOp a.eval _).run P w)
  rw [R (some d) t pos after none]
  exact hK _ _ (h _ (A.put hd v))
theorem step_yield {d t l : Nat} {pos : String} {after : Array Edge} {x y : Operand} {v : Value} {tys : Array TypeId} {R : Ending → World → Prop} (A : Fr n a F D) (hx : ev F x = some (.func (.yield l) #[] #[])) (hy : ev F y = some v) (hd : Nat.blt d n = true) (Y : Yields P l #[v] w R)
    (h : ∀ e w', R e w' → ∃ u, e = .returned u ∧ ∀ a', Fr n a' ((d, u) :: F) D → wpListIn Fence.wide 0 P ops Q rest a' w') :
    wpListIn Fence.wide 0 P ops Q (⟨some d, .call { callee := .value x, args := #[y], argTypes := tys }, t, pos, after, none⟩ :: rest) a w := by
  refine wpListIn_plain rfl fun K hK => ⟨fun _ _ => trivial, ?_⟩
  obtain ⟨fn, tmps, assign, body, h1, h2⟩ := Y
  have hr : (execOp a.eval ⟨some d, .call { callee := .value x, args := #[y], argTypes := tys }, t, pos, after, none⟩).run P w = .ok (.round l fn tmps assign body) w := by
    simp [execOp, resolve, A.ev hx, A.ev hy, Deferred.ofValue, invoke, h1]
  have e0 : Fence.wide.round = none := rfl
  rw [e0, Oper.semAt_none, hr]
  refine ⟨fun hh => (by simp [Fence.wide] at hh), h2.mono ?_⟩
  intro e w' he
  obtain ⟨u, rfl, h⟩ := h e w' he
  exact hK _ _ (h _ (A.put hd u))
/-- What the round's body must achieve. -/
def goesOn (R : World → Prop) : Exit → Act → World → Prop
  | .normal, _, w => R w
  | _, _, _ => False
theorem wp_range {α : Type} {g : Operand} {p gf : Nat} {assign body : Code} {cap : List Value} {m : Mem} {enc : α → Value} {xs : List α} {Lit : List Res} {J : List α → List Res} {B : α → Act → Prop}
    (A : Fr n a F []) (hg : ev F g = some (.func (.func gf) #[] cap.toArray)) [hf : FnC P gf] (hp : Nat.blt p n = true) (S : Iter P gf cap m Lit enc xs) (H : St w0 w m (Lit ++ (J [] ++ Lf)))
    (hassign : ∀ l x a1 W (K : Act → World → Prop), Fr n a1 ((p, enc x) :: F) [] → (∀ a2, B x a2 → K a2 W) → assign.wpIn (Fence.wide.inRound l) 0 P (Exit.then K (fun _ _ _ => False)) a1 W)
    (hbody : ∀ l pre x a2 m1 w1 W Lx, Le m m1 → pre ++ [x] <+: xs → B x a2 → St w1 W m1 (J pre ++ Lx) → body.wpIn (Fence.wide.inRound l) 0 P (goesOn fun W' => ∃ m2, Le m1 m2 ∧ St w1 W' m2 (J (pre ++ [x]) ++ Lx)) a2 W)
    (k : ∀ D a' m' w', Le m m' → Fr n a' F [⟨.collected D, #[]⟩] → St w0 w' m' (J xs ++ (ob D (.deferred (some [])) :: Lf)) → Q .normal a' w') :
    (Code.rangeFunc g #[p] assign body).wp P Q a w := by
  refine (wpIn_wide (n := 0)).1 (wpIn_rangeFunc ?_)
  intro fn hfn
  rw [show Fence.wide.round = none from rfl]
  obtain ⟨rec, hrec⟩ : ∃ rec : LoopState → Option Code → Loop, rec = fun st pe => { state := st, pending := pe, fn, tmps := a.tmps, params := #[p], assign, body, defers := w.heap.size } := ⟨_, rfl⟩
  obtain ⟨W1, hW1⟩ : ∃ W1, (w.alloc (.deferred (some []))).alloc (.loop (rec .ready none)) = W1 := ⟨_, rfl⟩
  have H1 : St w0 W1 m (ob (w.heap.size + 1) (.loop (rec .ready none)) :: ob w.heap.size (.deferred (some [])) :: (Lit ++ (J [] ++ Lf))) := by
    rw [← hW1]
    have := (H.alloc (.deferred (some []))).alloc (.loop (rec .ready none))
    rwa [World.size_alloc] at this
  refine ⟨w.heap.size + 1, [{ target := .collected w.heap.size, args := #[] }], W1, { target := .fn (.func gf) cap.toArray, args := #[.func (.yield (w.heap.size + 1)) #[] #[]] }, W1, gf,
    #[.func (.yield (w.heap.size + 1)) #[] #[]] ++ cap.toArray, W1, ?_, ?_, fun _ _ => trivial, ?_, fun hh => (by simp [Fence.wide] at hh), callsIn_wide.2 ?_⟩
  · rw [← hW1, hrec]; exact run_enterLoop_outer _ _ _ _ _
  · simp only [resolve, A.ev hg]
    simp [go_sem]
  · simp [invoke, go_sem, hf.h]
  · let JJ : List α → List Res := fun pre => ob (w.heap.size + 1) (.loop (rec .ready none)) :: ob w.heap.size (.deferred (some [])) :: J pre
    have H2 : St W1 W1 m ((Lit ++ JJ []) ++ Lf) := by
      refine H1.reset.perm ?_
      simp only [JJ, List.append_assoc, List.cons_append]
      refine List.Perm.trans ?_ (List.perm_middle (l₁ := Lit)).symm
      refine List.Perm.cons _ ?_
      exact (List.perm_middle (l₁ := Lit)).symm
    have C := S (w.heap.size + 1) JJ ?_ W1 Lf H2
    · have earr : (Value.func (.yield (w.heap.size + 1)) #[] #[] :: cap).toArray = #[.func (.yield (w.heap.size + 1)) #[] #[]] ++ cap.toArray := by simp
      rw [earr] at C
      refine Calls.mono C ?_
      rintro e w3 ⟨m', L', hm, ⟨rfl, rfl⟩, H3⟩
      have H4 : St w0 w3 m' (ob (w.heap.size + 1) (.loop (rec .ready none)) :: (ob w.heap.size (.deferred (some [])) :: (J xs ++ Lf))) := by
        have := H1.rebase H3
        simpa [JJ] using this
      have hl := H4.block
      refine ⟨none, _, run_endLoop hl (by rw [hrec]; simp) |>.trans (by rw [hrec]), ?_⟩
      refine k w.heap.size _ m' _ hm ⟨A.size, by simp [A.defers], A.at_⟩ ?_
      have H5 := H4.update (w' := w3.putObj (w.heap.size + 1) (.loop { rec .ready none with state := .exhausted })) (o1 := .loop { rec .ready none with state := .exhausted }) ⟨rfl, rfl, rfl, by simp⟩ (World.putObj_heap_same (Array.getElem?_eq_some_iff.1 hl).1) (fun j hj _ => World.putObj_heap_other hj)
      subst hrec
      exact H5.drop.perm List.perm_middle.symm
    · intro pre x m1 w1 W Lx hm1 hpre HW
      have hl := HW.block (L := ob w.heap.size (.deferred (some [])) :: J pre ++ Lx)
      have hy := run_yield (P := P) (args := #[enc x]) hl (by rw [hrec]; rfl)
      rw [hrec] at hy
      refine ⟨fn, _, assign, body, hy, roundIn_of_wpIn trivial ?_⟩
      refine hassign _ x _ _ _ ?_ fun a2 hB => ?_
      · have := A.put hp (enc x)
        refine ⟨by simpa [Act.put] using this.size, rfl, fun i v hv => ?_⟩
        simpa [Act.put] using this.at_ i v hv
      · refine ⟨_, run_beginRound hl (by rw [hrec]), ?_⟩
        have hlt := (Array.getElem?_eq_some_iff.1 hl).1
        have HB := HW.update (L := ob w.heap.size (.deferred (some [])) :: J pre ++ Lx) (w' := W.putObj (w.heap.size + 1) (.loop { rec .ready none with state := .busy })) (o1 := .loop { rec .ready none with state := .busy }) ⟨rfl, rfl, rfl, by simp⟩ (World.putObj_heap_same hlt) (fun j hj _ => World.putObj_heap_other hj)
        have HB2 : St w1 (W.putObj (w.heap.size + 1) (.loop { rec .ready none with state := .busy })) m1 (J pre ++ (ob (w.heap.size + 1) (.loop { rec .ready none with state := .busy }) :: ob w.heap.size (.deferred (some [])) :: Lx)) := by
          refine HB.perm ?_
          refine List.Perm.trans ?_ List.perm_middle.symm
          refine List.Perm.cons _ ?_
          exact List.perm_middle.symm
        refine wpIn_mono (hbody _ pre x a2 m1 w1 _ _ hm1 hpre hB HB2) ?_
        rintro e a3 W3 h3
        cases e with
        | normal =>
          obtain ⟨m2, hm2, H3⟩ := h3
          have H4 : St w1 W3 m2 (ob (w.heap.size + 1) (.loop { rec .ready none with state := .busy }) :: (J (pre ++ [x]) ++ (ob w.heap.size (.deferred (some [])) :: Lx))) := H3.perm List.perm_middle
          have hl3 := H4.block
          have hend := run_endRound (P := P) none hl3
          refine ⟨_, _, hend, rfl, m2, hm2, ?_⟩
          have H5 := H4.update (w' := W3.putObj (w.heap.size + 1) (.loop (rec .ready none))) (o1 := .loop (rec .ready none)) ⟨rfl, rfl, rfl, by simp⟩ (World.putObj_heap_same (Array.getElem?_eq_some_iff.1 hl3).1) (fun j hj _ => World.putObj_heap_other hj)
          have H6 := H5.perm (List.Perm.cons _ List.perm_middle)
          have e2 : ({ rec .ready none with state := .busy, pending := none } : Loop) = { rec .ready none with state := .busy } := by rw [hrec]
          subst hrec
          exact H6
        | _ => exact h3.elim
theorem endI {fn : Func} {m0 : Mem} {Lz : List Res} (A : Fr n a F []) (hr : fn.results = #[]) (hM : Le m0 m) (H : St w0 w m (Lz ++ Lf)) :
    bodyPost P fn (fun e w' => ∃ m' L', Le m0 m' ∧ (e = .returned (.tuple #[]) ∧ L' = Lz) ∧ St w0 w' m' (L' ++ Lf)) .normal a w := end_none A hr ⟨m, Lz, hM, ⟨rfl, rfl⟩, H⟩
/-- A function whose body holds a range over a function. -/
theorem Spec.enterM {f : FuncId} {fn : Func} {c : Code} {vs : List Value} {m : Mem} {Post : Mem → Ending → List Res → Prop} (hf : P.funcs[f]? = some fn) (hb : fn.body = some c)
    (n : Nat) (hn : fn.ntmps = n) (hle' : Nat.ble vs.length n = true)
    (h : ∀ a w Lf, Fr n a (args0 0 vs) [] → St w w m (L ++ Lf) → c.wp P (bodyPostM Fence.wide 0 P fn fun e w' => ∃ m' L', Le m m' ∧ Post m' e L' ∧ St w w' m' (L' ++ Lf)) a w) : Spec P f vs.toArray m L Post := by
  intro w Lf H
  have hle : vs.length ≤ n := Nat.le_of_ble_eq_true hle'
  refine callsIn_wide.1 (callsIn_of_wp_marks hf hb trivial (wpIn_wide.2 (h _ w Lf ⟨?_, rfl, fun i v hv => ?_⟩ H)))
  · simp; omega
  · obtain ⟨_, h2⟩ := lk_args0 vs 0 i v hv
    have hi : i < vs.length := (List.getElem?_eq_some_iff.1 h2).1
    simp only [Array.getElem?_append, List.size_toArray, hi, if_true]
    simpa using h2
/-- The return behind a range over a function. -/
theorem retFM {fn : Func} {s : Nat} {v : Value} {R : Mem → Value → Prop} {D : Nat} {m0 : Mem} {Lr : List Res} (A : Fr n a F [⟨.collected D, #[]⟩]) (hr : fn.results = #[.tmp s]) (hv : lk F s = some v) (hM : Le m0 m) (H : St w0 w m L) [hD : HasOb L D (.deferred (some [])) Lr] [SubH Lf Lr] (h : R m v) :
    bodyPostM Fence.wide 0 P fn (fun e w' => ∃ m' L', Le m0 m' ∧ RetF R m' e L' ∧ St w0 w' m' (L' ++ Lf)) .ret a w := by
  have H1 := H.perm hD.p
  have hk := H1.block
  have H2 := H1.update (w' := w.putObj D (.deferred none)) (o1 := .deferred none) ⟨rfl, rfl, rfl, by simp⟩ (World.putObj_heap_same (Array.getElem?_eq_some_iff.1 hk).1) (fun j hj _ => World.putObj_heap_other hj)
  show LeavesInM _ _ _ _ _ _ a.defers _ _
  rw [A.defers]
  refine ⟨by simp, .inl ⟨_, _, rfl, run_takeDeferred hk, ?_⟩⟩
  exact ⟨v, by rw [results_tmp hr]; simp [Array.getD_eq_getD_getElem?, A.at_ s v hv], m, [], hM, ⟨rfl, h⟩, St.sub (L' := Lf) H2.drop⟩
end
end Sl
end Go.Proofs.YtanhehbfbakdcaaGreatDoor
/- Unsigned words, conversions. Own work; nothing about a program stands here. -/
set_option linter.unusedVariables false
set_option linter.unusedSimpArgs false
namespace Go.Proofs.YtanhehbfbakdcaaGreatDoor
namespace Sl
open Go Go.RowKit
section
variable {P : Program} {n : Nat} {a : Act} {w : World} {F : List (Nat × Value)} {D : List Deferred} {x y : Operand} {t t' : Nat}
/-- a word -/
def u64 (x : UInt64) : Value := .int .u64 (x.toNat : Int)
def u8 (x : UInt8) : Value := .int .u8 (x.toNat : Int)
theorem wrap_u64 {q : Int} (h0 : 0 ≤ q) (h1 : q < 18446744073709551616) : IntKind.u64.wrap q = q := by
  simp only [IntKind.wrap, IntKind.bits, IntKind.signed, Bool.false_and, Bool.false_eq_true, if_false]
  omega
theorem wrap_u64_nat (q : Nat) : IntKind.u64.wrap (q : Int) = ((q % 18446744073709551616 : Nat) : Int) := by
  simp only [IntKind.wrap, IntKind.bits, IntKind.signed, Bool.false_and, Bool.false_eq_true, if_false]
  omega
theorem wrap_u8 {q : Int} (h0 : 0 ≤ q) (h1 : q < 256) : IntKind.u8.wrap q = q := by
  simp only [IntKind.wrap, IntKind.bits, IntKind.signed, Bool.false_and, Bool.false_eq_true, if_false]
  omega
theorem ofInt_u64 (p : UInt64) : BitVec.ofInt 64 (p.toNat : Int) = p.toBitVec := by
  rw [BitVec.ofInt_natCast]
  apply BitVec.eq_of_toNat_eq
  simp
theorem u64_lt (p : UInt64) : (p.toNat : Int) < 18446744073709551616 := by have := p.toNat_lt; omega
theorem bits_xor (p q : UInt64) : Op.intBits .xor .u64 (p.toNat : Int) (q.toNat : Int) = (Pure.pure (u64 (p ^^^ q)) : Sem Value) := by
  show (Pure.pure (.int .u64 (IntKind.u64.wrap ((BitVec.ofInt 64 (p.toNat : Int) ^^^ BitVec.ofInt 64 (q.toNat : Int) : BitVec 64).toNat : Int))) : Sem Value) = _
  rw [ofInt_u64, ofInt_u64, ← UInt64.toBitVec_xor, wrap_u64 (by omega) (by exact u64_lt (p ^^^ q))]
  rfl
theorem Runs.xor64 {p q : UInt64} (A : Fr n a F D) (hx : ev F x = some (u64 p)) (hy : ev F y = some (u64 q)) : Runs P a w (.binOp .xor t x y t') (u64 (p ^^^ q)) := by
  intro _ _ _ _ _
  have h : binOp .xor t (.int .u64 (p.toNat : Int)) (.int .u64 (q.toNat : Int)) = Op.intBits .xor .u64 (p.toNat : Int) (q.toNat : Int) := rfl
  simp [execOp, A.ev hx, A.ev hy, u64, eqGuard, h, bits_xor]
theorem bits_or (p q : UInt64) : Op.intBits .or .u64 (p.toNat : Int) (q.toNat : Int) = (Pure.pure (u64 (p ||| q)) : Sem Value) := by
  show (Pure.pure (.int .u64 (IntKind.u64.wrap ((BitVec.ofInt 64 (p.toNat : Int) ||| BitVec.ofInt 64 (q.toNat : Int) : BitVec 64).toNat : Int))) : Sem Value) = _
  rw [ofInt_u64, ofInt_u64, ← UInt64.toBitVec_or, wrap_u64 (by omega) (by exact u64_lt (p ||| q))]
  rfl
theorem Runs.or64 {p q : UInt64} (A : Fr n a F D) (hx : ev F x = some (u64 p)) (hy : ev F y = some (u64 q)) : Runs P a w (.binOp .or t x y t') (u64 (p ||| q)) := by
  intro _ _ _ _ _
  have h : binOp .or t (.int .u64 (p.toNat : Int)) (.int .u64 (q.toNat : Int)) = Op.intBits .or .u64 (p.toNat : Int) (q.toNat : Int) := rfl
  simp [execOp, A.ev hx, A.ev hy, u64, eqGuard, h, bits_or]
theorem Runs.mul64 {p q : UInt64} (A : Fr n a F D) (hx : ev F x = some (u64 p)) (hy : ev F y = some (u64 q)) : Runs P a w (.binOp .mul t x y t') (u64 (p * q)) := by
  intro d b c e f
  have := Runs.mulW (P := P) (w := w) (t := t) (t' := t') A hx hy d b c e f
  rw [this]
  unfold u64
  rw [show (p.toNat : Int) * (q.toNat : Int) = ((p.toNat * q.toNat : Nat) : Int) by simp, wrap_u64_nat, UInt64.toNat_mul]
theorem Runs.shr64 {p : UInt64} {k : Nat} {ik : IntKind} {qi : Int} (A : Fr n a F D) (hx : ev F x = some (u64 p)) (hy : ev F y = some (.int ik qi)) (hq : qi = (k : Int)) (hk : k < 64) : Runs P a w (.binOp .shr t x y t') (u64 (p >>> UInt64.ofNat k)) := by
  subst hq
  intro _ _ _ _ _
  have h1 : ¬ ((k : Int) < 0) := by omega
  have h2 : min ((k : Int).toNat) IntKind.u64.bits = k := by simp [IntKind.bits]; omega
  simp only [execOp, A.ev hx, A.ev hy, u64, Sem.run_bind, eqGuard, binOp, Op.shift, if_neg h1, h2, Sem.run_pure, Result.andThen_ok]
  congr 2
  rw [UInt64.toNat_shiftRight, UInt64.toNat_ofNat']
  rw [show k % 2 ^ 64 % 64 = k by omega, Nat.shiftRight_eq_div_pow]
  rw [Int.fdiv_eq_ediv_of_nonneg _ (by exact Int.le_of_lt (Int.pow_pos (by decide)))]
  simp
theorem Runs.shl64 {p : UInt64} {k : Nat} {ik : IntKind} {qi : Int} (A : Fr n a F D) (hx : ev F x = some (u64 p)) (hy : ev F y = some (.int ik qi)) (hq : qi = (k : Int)) (hk : k < 64) : Runs P a w (.binOp .shl t x y t') (u64 (p <<< UInt64.ofNat k)) := by
  subst hq
  intro _ _ _ _ _
  have h1 : ¬ ((k : Int) < 0) := by omega
  have h2 : min ((k : Int).toNat) IntKind.u64.bits = k := by simp [IntKind.bits]; omega
  simp only [execOp, A.ev hx, A.ev hy, u64, Sem.run_bind, eqGuard, binOp, Op.shift, if_neg h1, h2, Sem.run_pure, Result.andThen_ok]
  congr 2
  rw [UInt64.toNat_shiftLeft, UInt64.toNat_ofNat']
  rw [show k % 2 ^ 64 % 64 = k by omega, Nat.shiftLeft_eq]
  rw [show (p.toNat : Int) * 2 ^ k = ((p.toNat * 2 ^ k : Nat) : Int) by simp, wrap_u64_nat]
  rfl
theorem Runs.conv {k k' : IntKind} {src dst : Nat} {p : Int} [hs : IntC P src k'] [hd : IntC P dst k] (A : Fr n a F D) (hx : ev F x = some (.int k' p)) : Runs P a w (.convert src dst x) (.int k (k.wrap p)) := by
  intro _ _ _ _ _
  simp only [execOp, convert, A.ev hx, Sem.run_bind, run_underlying hs.h, run_underlying hd.h, Result.andThen_ok, Conv.intToInt, Sem.run_pure]
theorem Runs.convTo64 {k' : IntKind} {src dst : Nat} {pi : Int} {p : Nat} [hs : IntC P src k'] [hd : IntC P dst .u64] (A : Fr n a F D) (hx : ev F x = some (.int k' pi)) (hp : pi = (p : Int)) : Runs P a w (.convert src dst x) (u64 (UInt64.ofNat p)) := by
  subst hp
  intro d b c e f
  have := Runs.conv (P := P) (w := w) (src := src) (dst := dst) A hx d b c e f
  rw [this]
  unfold u64
  rw [wrap_u64_nat, UInt64.toNat_ofNat']
theorem Runs.convN {k k' : IntKind} {src dst : Nat} {p : Int} [hs : IntC P src k'] [hd : IntC P dst k] (A : Fr n a F D) (hx : ev F x = some (.int k' p)) (hw : k.wrap p = p) : Runs P a w (.convert src dst x) (.int k p) := by
  have := Runs.conv (P := P) (w := w) (src := src) (dst := dst) A hx
  rwa [hw] at this
theorem Runs.half {pi : Int} {p : Nat} {ik : IntKind} (A : Fr n a F D) (hx : ev F x = some (.int .u64 pi)) (hy : ev F y = some (.int ik 1)) (hp : pi = (p : Int)) : Runs P a w (.binOp .shr t x y t') (.int .u64 ((p / 2 : Nat) : Int)) := by
  subst hp
  intro _ _ _ _ _
  have h2 : min ((1 : Int).toNat) IntKind.u64.bits = 1 := by decide
  simp only [execOp, A.ev hx, A.ev hy, Sem.run_bind, eqGuard, binOp, Op.shift, show ¬ ((1 : Int) < 0) by omega, if_false, h2, Sem.run_pure, Result.andThen_ok]
  rw [Int.fdiv_eq_ediv_of_nonneg _ (by decide)]
  simp
theorem Runs.min2 {k : IntKind} {p q : Int} {tys : Array TypeId} (A : Fr n a F D) (hx : ev F x = some (.int k p)) (hy : ev F y = some (.int k q)) : Runs P a w (.call { callee := .builtin .min, args := #[x, y], argTypes := tys }) (.int k (if q < p then q else p)) := by
  intro _ _ _ _ _
  simp [execOp, resolve, invoke, builtin, A.ev hx, A.ev hy, Builtin.min_, Builtin.min2]
theorem cutAd_some {b o cap lo k : Nat} (h : lo < cap) : cutAd (some ⟨b, o, none⟩) cap lo k = some ⟨b, o + lo * k, none⟩ := by
  unfold cutAd
  simp [show ¬ (cap = lo) by omega, show ¬ (cap - lo = 0) by omega, addr_add]
end
/-! ### Cuts of slices that are read -/
theorem Slc.cut {m : Mem} {size n c : Nat} {ad : Option Addr} {xs : List Value} (h : Slc m size ad n c xs) {lo hi : Nat} (hlo : lo ≤ hi) (hhi : hi ≤ n) : Slc m size (cutAd ad c lo size) (hi - lo) (c - lo) ((xs.drop (lo * size)).take ((hi - lo) * size)) := by
  obtain ⟨h1, h2, h3, h4⟩ := h
  refine ⟨?_, by omega, by omega, fun hn => ?_⟩
  · rw [List.length_take, List.length_drop, h1, ← Nat.sub_mul]
    exact Nat.min_eq_left (Nat.mul_le_mul_right _ (by omega))
  · obtain ⟨b, off, cs, rfl, h5, h6⟩ := h4 (by omega)
    refine ⟨b, off + lo * size, cs, cutAd_some (by omega), h5, ?_⟩
    rw [← h6, List.drop_take, List.drop_drop, List.take_take]
    congr 1
    rw [← Nat.sub_mul]
    exact (Nat.min_eq_left (Nat.mul_le_mul_right _ (by omega))).symm
theorem Slc.lo {m : Mem} {size n c : Nat} {ad : Option Addr} {xs : List Value} (h : Slc m size ad n c xs) {lo : Nat} (hlo : lo ≤ n) : Slc m size (cutAd ad c lo size) (n - lo) (c - lo) (xs.drop (lo * size)) := by
  have := h.cut hlo (Nat.le_refl n)
  rwa [List.take_of_length_le (by rw [List.length_drop, h.1, Nat.sub_mul]; exact Nat.le_refl _)] at this
theorem Slc.hi {m : Mem} {size n c : Nat} {ad : Option Addr} {xs : List Value} (h : Slc m size ad n c xs) {hi : Nat} (hhi : hi ≤ n) : Slc m size (cutAd ad c 0 size) hi c (xs.take (hi * size)) := by
  have := h.cut (Nat.zero_le hi) hhi
  simpa using this
end Sl
end Go.Proofs.YtanhehbfbakdcaaGreatDoor
/- Digests as plain functions. Own work. -/
namespace Go.Proofs.YtanhehbfbakdcaaGreatDoor
namespace Sl
open Go
def stp1 (h w : UInt64) : UInt64 := (h ^^^ w) * (15485907386658061715 : UInt64)
def stp (h w : UInt64) : UInt64 := (stp1 h w ^^^ (stp1 h w >>> UInt64.ofNat 32)) * (11562461410679940143 : UInt64)
/-- the word of the first k bytes -/
def wrdN (l : List UInt8) : Nat → UInt64
  | 0 => 0
  | k + 1 => wrdN l k ||| (UInt64.ofNat (l.getD k 0).toNat <<< UInt64.ofNat (8 * k))
def grpN : Nat → List UInt8 → List UInt64
  | 0, _ => []
  | f + 1, l => if l.length = 0 then [] else wrdN l (min 8 l.length) :: grpN f (l.drop 8)
def grp (l : List UInt8) : List UInt64 := grpN l.length l
theorem grpN_fuel : ∀ (f g : Nat) (l : List UInt8), l.length ≤ f → l.length ≤ g → grpN f l = grpN g l
  | 0, g, l, h1, h2 => by
    have : l.length = 0 := by omega
    cases g <;> simp [grpN, this]
  | f + 1, 0, l, h1, h2 => by
    have : l.length = 0 := by omega
    simp [grpN, this]
  | f + 1, g + 1, l, h1, h2 => by
    simp only [grpN]
    split
    · rfl
    · rw [grpN_fuel f g (l.drop 8) (by simp; omega) (by simp; omega)]
theorem grp_nil {l : List UInt8} (h : l.length = 0) : grp l = [] := by rw [grp, h]; rfl
theorem grp_cons {l : List UInt8} (h : 0 < l.length) : grp l = wrdN l (min 8 l.length) :: grp (l.drop 8) := by
  obtain ⟨f, hf⟩ : ∃ f, l.length = f + 1 := ⟨l.length - 1, by omega⟩
  rw [grp, hf, grpN, if_neg (by omega), grp, grpN_fuel f (l.drop 8).length _ (by simp; omega) (Nat.le_refl _), hf]
def dig0 : UInt64 := 422944466291
def dig (l : List UInt8) : UInt64 := stp ((grp l).foldl stp dig0) (UInt64.ofNat l.length)
theorem u8_at {l : List UInt8} {i : Nat} (h : i < l.length) : (l.map u8)[i]? = some (u8 (l.getD i 0)) := by
  rw [List.getElem?_map, List.getElem?_eq_getElem h, Option.map_some, List.getD_eq_getElem?_getD, List.getElem?_eq_getElem h]; rfl
theorem wrdN_succ (l : List UInt8) (i k : Nat) : wrdN (l.drop i) (k + 1) = wrdN (l.drop i) k ||| (UInt64.ofNat (l.getD (i + k) 0).toNat <<< UInt64.ofNat (8 * k)) := by
  rw [wrdN, List.getD_eq_getElem?_getD, List.getElem?_drop, ← List.getD_eq_getElem?_getD]
theorem grp_step {l : List UInt8} {i : Nat} (h : i < l.length) (a : UInt64) : (grp (l.drop i)).foldl stp a = (grp (l.drop (i + 8))).foldl stp (stp a (wrdN (l.drop i) (min 8 (l.length - i)))) := by
  rw [grp_cons (l := l.drop i) (by rw [List.length_drop]; omega), List.foldl_cons, List.drop_drop, List.length_drop]
theorem Slc.len8 {m : Mem} {ad : Option Addr} {n c : Nat} {l : List UInt8} (h : Slc m 1 ad n c (l.map u8)) : l.length = n := by have := h.1; simpa using this
theorem drop_min (l : List UInt8) : l.drop (min 8 l.length) = l.drop 8 := by
  rcases Nat.le_total 8 l.length with h | h
  · rw [Nat.min_eq_left h]
  · rw [Nat.min_eq_right h, List.drop_eq_nil_of_le (Nat.le_refl _), List.drop_eq_nil_of_le h]
end Sl
end Go.Proofs.YtanhehbfbakdcaaGreatDoor
/- Stores of objects: what stands in memory. Own work. -/
namespace Go.Proofs.YtanhehbfbakdcaaGreatDoor
namespace Sl
open Go
structure Obj where
  id : UInt64
  data : List UInt8
  deriving DecidableEq
/-- The value v is a slice of bytes that is read. -/
def Dat (m : Mem) (v : Value) (d : List UInt8) : Prop := ∃ ad n c, v = .slice ad n c ∧ Slc m 1 ad n c (d.map u8) ∧ n ≤ 1000000000
theorem Dat.mono {m m' : Mem} {v : Value} {d : List UInt8} (h : Dat m v d) (k : Le m m') : Dat m' v d := by
  obtain ⟨ad, n, c, h1, h2, h3⟩ := h; exact ⟨ad, n, c, h1, h2.mono k, h3⟩
theorem Dat.nil (m : Mem) : Dat m (.slice none 0 0) [] := ⟨none, 0, 0, rfl, Slc.nil m 1 none 0 (by unfold maxLen; omega), by omega⟩
/-- The cells xs are those of the objects l. -/
def OR (m : Mem) : List Value → List Obj → Prop
  | [], [] => True
  | a :: v :: xs, o :: l => a = u64 o.id ∧ Dat m v o.data ∧ OR m xs l
  | _, _ => False
theorem OR.mono {m m' : Mem} (k : Le m m') : ∀ {xs : List Value} {l : List Obj}, OR m xs l → OR m' xs l
  | [], [], _ => trivial
  | [], _ :: _, h => h.elim
  | [_], _, h => (by cases h)
  | _ :: _ :: _, [], h => h.elim
  | a :: v :: xs, o :: l, ⟨h1, h2, h3⟩ => ⟨h1, h2.mono k, OR.mono k h3⟩
theorem OR.len {m : Mem} : ∀ {xs : List Value} {l : List Obj}, OR m xs l → xs.length = l.length * 2
  | [], [], _ => rfl
  | [], _ :: _, h => h.elim
  | [_], _, h => (by cases h)
  | _ :: _ :: _, [], h => h.elim
  | a :: v :: xs, o :: l, ⟨_, _, h⟩ => by simp [OR.len h]; omega
theorem OR.app {m : Mem} : ∀ {xs ys : List Value} {l k : List Obj}, OR m xs l → OR m ys k → OR m (xs ++ ys) (l ++ k)
  | [], _, [], _, _, h => h
  | [], _, _ :: _, _, h, _ => h.elim
  | [_], _, _, _, h, _ => (by cases h)
  | _ :: _ :: _, _, [], _, h, _ => h.elim
  | a :: v :: xs, ys, o :: l, k, ⟨h1, h2, h3⟩, h => ⟨h1, h2, OR.app h3 h⟩
theorem OR.at_ {m : Mem} : ∀ {xs : List Value} {l : List Obj} {i : Nat} {o : Obj}, OR m xs l → l[i]? = some o → ∃ v, xs[i * 2]? = some (u64 o.id) ∧ xs[i * 2 + 1]? = some v ∧ Dat m v o.data
  | [], [], i, o, _, h => by simp at h
  | [], _ :: _, _, _, h, _ => h.elim
  | [_], _, _, _, h, _ => (by cases h)
  | _ :: _ :: _, [], _, _, h, _ => h.elim
  | a :: v :: xs, o :: l, 0, o', ⟨h1, h2, h3⟩, h => by
    have : o = o' := by simpa using h
    subst this; exact ⟨v, by simp [h1], by simp, h2⟩
  | a :: v :: xs, o :: l, i + 1, o', ⟨h1, h2, h3⟩, h => by
    obtain ⟨u, g1, g2, g3⟩ := OR.at_ (i := i) h3 (by simpa using h)
    exact ⟨u, by rw [show (i + 1) * 2 = i * 2 + 1 + 1 by omega]; simpa using g1, by rw [show (i + 1) * 2 + 1 = i * 2 + 1 + 1 + 1 by omega]; simpa using g2, g3⟩
theorem OR.drop {m : Mem} : ∀ {xs : List Value} {l : List Obj} (i : Nat), OR m xs l → OR m (xs.drop (i * 2)) (l.drop i)
  | xs, l, 0, h => by simpa using h
  | [], [], i + 1, _ => by simp [OR]
  | [], _ :: _, _, h => h.elim
  | [_], _, _, h => (by cases h)
  | _ :: _ :: _, [], _, h => h.elim
  | a :: v :: xs, o :: l, i + 1, ⟨_, _, h⟩ => by rw [show (i + 1) * 2 = i * 2 + 1 + 1 by omega]; simpa using OR.drop i h
theorem OR.take {m : Mem} : ∀ {xs : List Value} {l : List Obj} (i : Nat), OR m xs l → OR m (xs.take (i * 2)) (l.take i)
  | xs, l, 0, h => by simp [OR]
  | [], [], i + 1, _ => by simp [OR]
  | [], _ :: _, _, h => h.elim
  | [_], _, _, h => (by cases h)
  | _ :: _ :: _, [], _, h => h.elim
  | a :: v :: xs, o :: l, i + 1, ⟨h1, h2, h⟩ => by rw [show (i + 1) * 2 = i * 2 + 1 + 1 by omega]; exact ⟨h1, h2, OR.take i h⟩
/-- A slice of objects that is read. -/
def Objs (m : Mem) (ad : Option Addr) (n c : Nat) (l : List Obj) : Prop := n = l.length ∧ ∃ xs, Slc m 2 ad n c xs ∧ OR m xs l
theorem Objs.mono {m m' : Mem} {ad : Option Addr} {n c : Nat} {l : List Obj} (h : Objs m ad n c l) (k : Le m m') : Objs m' ad n c l := by
  obtain ⟨h0, xs, h1, h2⟩ := h; exact ⟨h0, xs, h1.mono k, h2.mono k⟩
theorem Objs.nil (m : Mem) : Objs m none 0 0 [] := ⟨rfl, [], Slc.nil m 2 none 0 (by unfold maxLen; omega), trivial⟩
theorem Objs.cap {m : Mem} {ad : Option Addr} {n c : Nat} {l : List Obj} (h : Objs m ad n c l) : n ≤ c ∧ c ≤ maxLen := by
  obtain ⟨_, xs, h1, _⟩ := h; exact ⟨h1.2.1, h1.2.2.1⟩
theorem getN_two {cs : List Value} {o : Nat} {a v : Value} (h1 : cs[o]? = some a) (h2 : cs[o + 1]? = some v) : getN cs o 2 = some [a, v] := by
  induction cs generalizing o with
  | nil => simp at h1
  | cons c cs ih =>
    cases o with
    | zero =>
      cases cs with
      | nil => simp at h2
      | cons d cs =>
        have e1 : c = a := by simpa using h1
        have e2 : d = v := by simpa using h2
        subst e1; subst e2
        simp [getN, consO]
    | succ o => simpa [getN] using ih (o := o) (by simpa using h1) (by simpa using h2)
theorem Objs.at_ {m : Mem} {ad : Option Addr} {n c : Nat} {l : List Obj} (h : Objs m ad n c l) {i : Nat} {o : Obj} (ho : l[i]? = some o) :
    ∃ b off cs v, ad = some ⟨b, off, none⟩ ∧ Fz m b cs ∧ cs[off + i * 2]? = some (u64 o.id) ∧ cs[off + i * 2 + 1]? = some v ∧ getN cs (off + i * 2) 2 = some [u64 o.id, v] ∧ Dat m v o.data := by
  obtain ⟨h0, xs, h1, h2⟩ := h
  have hi : i < l.length := (List.getElem?_eq_some_iff.1 ho).1
  obtain ⟨b, off, cs, e, hf, hcs⟩ := h1.at_ (by omega)
  obtain ⟨v, g1, g2, g3⟩ := h2.at_ ho
  have k1 : cs[off + i * 2]? = some (u64 o.id) := by rw [hcs _ (by omega)]; exact g1
  have k2 : cs[off + i * 2 + 1]? = some v := by rw [Nat.add_assoc, hcs _ (by omega)]; exact g2
  exact ⟨b, off, cs, v, e, hf, k1, k2, getN_two k1 k2, g3⟩
theorem Objs.lo {m : Mem} {ad : Option Addr} {n c : Nat} {l : List Obj} (h : Objs m ad n c l) {i : Nat} (hi : i ≤ n) : Objs m (cutAd ad c i 2) (n - i) (c - i) (l.drop i) := by
  obtain ⟨h0, xs, h1, h2⟩ := h
  exact ⟨by simp [h0], _, h1.lo hi, h2.drop i⟩
theorem Objs.hi {m : Mem} {ad : Option Addr} {n c : Nat} {l : List Obj} (h : Objs m ad n c l) {i : Nat} (hi : i ≤ n) : Objs m (cutAd ad c 0 2) i c (l.take i) := by
  obtain ⟨h0, xs, h1, h2⟩ := h
  exact ⟨by simp; omega, _, h1.hi hi, h2.take i⟩
theorem Objs.all_ {m : Mem} {ad : Option Addr} {n c : Nat} {l : List Obj} (h : Objs m ad n c l) (hn : 0 < n) :
    ∃ b off cs, ad = some ⟨b, off, none⟩ ∧ Fz m b cs ∧ ∀ i o, l[i]? = some o → ∃ v, cs[off + i * 2]? = some (u64 o.id) ∧ cs[off + i * 2 + 1]? = some v ∧ getN cs (off + i * 2) 2 = some [u64 o.id, v] ∧ Dat m v o.data := by
  obtain ⟨h0, xs, h1, h2⟩ := h
  obtain ⟨b, off, cs, e, hf, hcs⟩ := h1.at_ hn
  refine ⟨b, off, cs, e, hf, fun i o ho => ?_⟩
  have hi : i < l.length := (List.getElem?_eq_some_iff.1 ho).1
  obtain ⟨v, g1, g2, g3⟩ := h2.at_ ho
  have k1 : cs[off + i * 2]? = some (u64 o.id) := by rw [hcs _ (by omega)]; exact g1
  have k2 : cs[off + i * 2 + 1]? = some v := by rw [Nat.add_assoc, hcs _ (by omega)]; exact g2
  exact ⟨v, k1, k2, getN_two k1 k2, g3⟩
theorem ex_at {α : Type} {l : List α} {i : Nat} (h : i < l.length) : ∃ o, l[i]? = some o := ⟨_, List.getElem?_eq_getElem h⟩
theorem dec64 (p q : UInt64) : decide ((p.toNat : Int) = q.toNat) = decide (p = q) := by
  rw [decide_eq_decide, ← UInt64.toNat_inj]; omega
def Srt (l : List Obj) : Prop := l.Pairwise fun a b => a.id < b.id
instance (l : List Obj) : Decidable (Srt l) := by unfold Srt; infer_instance
theorem Srt.lt {l : List Obj} (h : Srt l) {i j : Nat} {a b : Obj} (hi : l[i]? = some a) (hj : l[j]? = some b) (hij : i < j) : a.id < b.id := by
  obtain ⟨h1, e1⟩ := List.getElem?_eq_some_iff.1 hi
  obtain ⟨h2, e2⟩ := List.getElem?_eq_some_iff.1 hj
  have := List.pairwise_iff_getElem.1 h i j h1 h2 hij
  rwa [e1, e2] at this
theorem srt_of_adj : ∀ {l : List Obj}, (∀ (k : Nat) (a b : Obj), l[k]? = some a → l[k + 1]? = some b → a.id < b.id) → Srt l
  | [], _ => List.Pairwise.nil
  | a :: l, h => by
    have ih : Srt l := srt_of_adj fun k x y hx hy => h (k + 1) x y (by simpa using hx) (by simpa using hy)
    refine List.Pairwise.cons (fun x hx => ?_) ih
    cases l with
    | nil => simp at hx
    | cons b r =>
      have hab := h 0 a b rfl rfl
      rcases List.mem_cons.1 hx with rfl | hx
      · exact hab
      · exact UInt64.lt_trans hab ((List.pairwise_cons.1 ih).1 x hx)
/-- A slice of words that is read. -/
def Ws (m : Mem) (ad : Option Addr) (n c : Nat) (l : List UInt64) : Prop := Slc m 1 ad n c (l.map u64)
theorem Ws.mono {m m' : Mem} {ad : Option Addr} {n c : Nat} {l : List UInt64} (h : Ws m ad n c l) (k : Le m m') : Ws m' ad n c l := Slc.mono h k
theorem Ws.len {m : Mem} {ad : Option Addr} {n c : Nat} {l : List UInt64} (h : Ws m ad n c l) : n = l.length := by have := h.1; simpa using this.symm
theorem Ws.all_ {m : Mem} {ad : Option Addr} {n c : Nat} {l : List UInt64} (h : Ws m ad n c l) (hn : 0 < n) : ∃ b off cs, ad = some ⟨b, off, none⟩ ∧ Fz m b cs ∧ ∀ i o, l[i]? = some o → cs[off + i]? = some (u64 o) := by
  obtain ⟨b, off, cs, e, hf, hcs⟩ := Slc.at_ h hn
  refine ⟨b, off, cs, e, hf, fun i o ho => ?_⟩
  have hi : i < l.length := (List.getElem?_eq_some_iff.1 ho).1
  rw [hcs i (by have := h.len; omega), List.getElem?_map, ho]; rfl
theorem Slc.all8 {m : Mem} {ad : Option Addr} {n c : Nat} {l : List UInt8} (h : Slc m 1 ad n c (l.map u8)) (hn : 0 < n) : ∃ b off cs, ad = some ⟨b, off, none⟩ ∧ Fz m b cs ∧ ∀ i o, l[i]? = some o → cs[off + i]? = some (u8 o) := by
  obtain ⟨b, off, cs, e, hf, hcs⟩ := Slc.at_ h hn
  refine ⟨b, off, cs, e, hf, fun i o ho => ?_⟩
  have hi : i < l.length := (List.getElem?_eq_some_iff.1 ho).1
  rw [hcs i (by have := h.len8; omega), List.getElem?_map, ho]; rfl
def findP (l : List Obj) (id : UInt64) : Int := match l.findIdx? (fun o => o.id == id) with
  | some i => i
  | none => -1
theorem findP_some {l : List Obj} {id : UInt64} {i : Nat} {o : Obj} (ho : l[i]? = some o) (he : o.id = id) (hb : ∀ (k : Nat) (a : Obj), k < i → l[k]? = some a → a.id ≠ id) : findP l id = i := by
  obtain ⟨h1, e1⟩ := List.getElem?_eq_some_iff.1 ho
  have : l.findIdx? (fun o => o.id == id) = some i := List.findIdx?_eq_some_iff_getElem.2 ⟨h1, by simp [e1, he], fun j hj => by simpa using hb j _ hj (List.getElem?_eq_getElem (by omega))⟩
  rw [findP, this]
theorem findP_none {l : List Obj} {id : UInt64} (hb : ∀ (k : Nat) (a : Obj), l[k]? = some a → a.id ≠ id) : findP l id = -1 := by
  have : l.findIdx? (fun o => o.id == id) = none := List.findIdx?_eq_none_iff.2 fun x hx => by
    obtain ⟨k, hk⟩ := List.mem_iff_getElem?.1 hx
    simpa using hb k x hk
  rw [findP, this]
theorem not_mem_of {l : List UInt64} {id : UInt64} (h : ∀ (k : Nat) (a : UInt64), l[k]? = some a → a ≠ id) : id ∉ l := fun hm => by
  obtain ⟨k, hk⟩ := List.mem_iff_getElem?.1 hm
  exact h k id hk rfl
theorem lt_ext {α : Type} {P : Nat → α → Prop} {l : List α} {i : Nat} {o : α} (h : ∀ (k : Nat) (a : α), k < i → l[k]? = some a → P k a) (ho : l[i]? = some o) (hp : P i o) : ∀ (k : Nat) (a : α), k < i + 1 → l[k]? = some a → P k a := by
  intro k a hk ha
  rcases Nat.lt_succ_iff_lt_or_eq.1 hk with h1 | rfl
  · exact h k a h1 ha
  · rw [ho] at ha; cases ha; exact hp
theorem lt_all {α : Type} {P : Nat → α → Prop} {l : List α} {i : Nat} (h : ∀ (k : Nat) (a : α), k < i → l[k]? = some a → P k a) (hi : l.length ≤ i) : ∀ (k : Nat) (a : α), l[k]? = some a → P k a := fun k a ha =>
  h k a (by have := (List.getElem?_eq_some_iff.1 ha).1; omega) ha
def cmpP (a b : UInt64) : Int := if a < b then -1 else if b < a then 1 else 0
theorem cmpP_lt (a b : UInt64) : cmpP a b < 0 ↔ a < b := by
  unfold cmpP; split
  · rename_i h; exact ⟨fun _ => h, fun _ => by omega⟩
  · rename_i h; split
    · exact ⟨fun h => absurd h (by omega), fun h' => absurd h' h⟩
    · exact ⟨fun h => absurd h (by omega), fun h' => absurd h' h⟩
theorem cmpP_eq (a b : UInt64) : cmpP a b = 0 ↔ a = b := by
  unfold cmpP; split
  · rename_i h; exact ⟨fun h => absurd h (by omega), fun e => by subst e; exact absurd h (UInt64.lt_irrefl a)⟩
  · rename_i h; split
    · rename_i h2; exact ⟨fun h => absurd h (by omega), fun e => by subst e; exact absurd h2 (UInt64.lt_irrefl a)⟩
    · rename_i h2; exact ⟨fun _ => UInt64.le_antisymm (UInt64.not_lt.1 h2) (UInt64.not_lt.1 h), fun _ => rfl⟩
/-- Where an object is, or would be. -/
def lbP (l : List Obj) (id : UInt64) : Nat := (l.takeWhile fun o => decide (o.id < id)).length
def atP (l : List Obj) (id : UInt64) : Bool := (l[lbP l id]?).any fun o => decide (o.id = id)
theorem tw_len {α : Type} {l : List α} {p : α → Bool} : ∀ {n : Nat}, n ≤ l.length → (∀ (k : Nat) (x : α), k < n → l[k]? = some x → p x = true) → (∀ x, l[n]? = some x → p x = false) → (l.takeWhile p).length = n := by
  induction l with
  | nil => intro n h _ _; simp at h; simp [h]
  | cons c l ih =>
    intro n h h1 h2
    cases n with
    | zero => simp [h2 c rfl]
    | succ n =>
      rw [List.takeWhile_cons, if_pos (h1 0 c (by omega) rfl), List.length_cons, ih (n := n) (by simpa using h) (fun k x hk hx => h1 (k + 1) x (by omega) (by simpa using hx)) (fun x hx => h2 x (by simpa using hx))]
theorem lbP_of {l : List Obj} {id : UInt64} {i : Nat} (hi : i ≤ l.length) (h1 : ∀ (k : Nat) (x : Obj), k < i → l[k]? = some x → x.id < id) (h2 : ∀ (k : Nat) (x : Obj), i ≤ k → l[k]? = some x → ¬ x.id < id) : lbP l id = i :=
  tw_len hi (fun k x hk hx => decide_eq_true (h1 k x hk hx)) (fun x hx => decide_eq_false (h2 i x (Nat.le_refl _) hx))
theorem lbP_le (l : List Obj) (id : UInt64) : lbP l id ≤ l.length := (List.takeWhile_sublist _).length_le
def sndP (o : Obj) : Bool := decide (o.id = dig o.data)
end Sl
end Go.Proofs.YtanhehbfbakdcaaGreatDoor
/- Appends of slices that are read. Own work; nothing about a program stands here. -/
namespace Go.Proofs.YtanhehbfbakdcaaGreatDoor
namespace Sl
open Go Go.RowKit
section
variable {P : Program} {ops : Array Oper} {Q : Exit → Act → World → Prop} {n : Nat} {a : Act} {w w0 : World} {F : List (Nat × Value)} {D : List Deferred} {m : Mem} {L L' : List Res} {rest : List Oper}
variable {d t : Nat} {pos : String} {after : Array Edge} {x y : Operand}
theorem Runs.appendNil {e size k c cq : Nat} {ad : Option Addr} (A : Fr n a F D) (hx : ev F x = some (.slice ad k c)) (hy : ev F y = some (.slice none 0 cq)) [hs : SlC P t e size] (hkc : k ≤ c) :
    Runs P a w (.call { callee := .builtin .append, args := #[x, y], argTypes := #[t, t] }) (.slice ad k c) := by
  intro _ _ _ _ _
  obtain ⟨q, h2, h3, h4⟩ := slEl_spec hs.h
  cases ad <;> simp [execOp, resolve, invoke, builtin, A.ev hx, A.ev hy, Builtin.append_, run_underlying h2, sizeOf, typeInfo, h3, Builtin.lenOf, Builtin.firstCells, hkc, storeCells]
theorem step_appendR {e size k c by_ q cq ts : Nat} {ag : Bool} {zs xs news : List Value} {ad ad2 : Option Addr} (A : Fr n a F D) (H : St w0 w m L) (hx : ev F x = some (.slice ad k c)) (hy : ev F y = some (.slice ad2 q cq)) (hS : Slc m size ad2 q cq news) (h1 : news.all (·.oneCell') = true)
    [hr : HasRow L e size ad k c xs L'] [hs : SlC P t e size] [T : TyC P e ag size by_ zs] (hsz : 0 < size) (hby : (k + q) * by_ ≤ 140737488355328) (hln : k + q ≤ maxLen) (hzl : Nat.beq zs.length size = true) (hd : Nat.blt d n = true)
    (K : ∀ ad' c' a' w', Fr n a' ((d, .slice ad' (k + q) c') :: F) D → St w0 w' m (row e size ad' (k + q) c' (xs ++ news) :: L') → wpList P ops Q rest a' w') :
    wpList P ops Q (⟨some d, .call { callee := .builtin .append, args := #[x, y], argTypes := #[t, t] }, ts, pos, after, none⟩ :: rest) a w := by
  have HR : St w0 w m (row e size ad k c xs :: L') := H.perm hr.p
  cases ad2 with
  | none =>
    have hq : q = 0 := by
      rcases Nat.eq_zero_or_pos q with h | h
      · exact h
      · obtain ⟨b, off, cs, e1, _⟩ := hS.2.2.2 h; cases e1
    subst hq
    have hn : news = [] := List.eq_nil_of_length_eq_zero (by simpa using hS.1)
    subst hn
    refine stepW (Runs.appendNil A hx hy HR.row_len.2.1) A hd fun a' A' => ?_
    rw [List.append_nil] at K
    exact K ad c a' w A' HR
  | some ad2 =>
    obtain ⟨i, z, g1, g2, g3, g4, g5⟩ := T.h.info
    obtain ⟨q0, j1, j2, j3⟩ := slEl_spec hs.h
    have hcell : ∀ j u, news[j]? = some u → w.cell? (ad2.add j) = some u := by
      intro j u hj
      have hjl : j < news.length := (List.getElem?_eq_some_iff.1 hj).1
      have hq : 0 < q := by
        rcases Nat.eq_zero_or_pos q with h | h
        · subst h; have := hS.1; rw [Nat.zero_mul] at this; omega
        · exact h
      obtain ⟨b, off, cs, e1, hf, hcs⟩ := hS.at_ hq
      cases e1
      rw [addr_add, H.cell (Blk.fz hf.h)]
      rw [hcs j (by rw [← hS.1]; exact hjl)]
      exact hj
    refine wpList_append_own_at w rfl x y t rfl 0 e i z size by_ j1 g1 g4 g2 g3 (by have := Nat.eq_of_beq_eq_true hzl; rw [← this, ← g5]; simp) hsz _ k xs (A.ev hx) HR.row_owns ad2 q cq news (A.ev hy) hS.1 hcell (fun u hu => (List.all_eq_true.1 h1) u hu) hln hby (Nat.zero_le _) ?_
    intro v' w' ho hg _ hat
    obtain ⟨ad', c', rfl, H'⟩ := HR.row_grown ho hg hat
    exact K ad' c' _ w' (A.put hd _) H'
section
variable {f : Nat} {xs : List Operand} {vs : List Value} {tys : Array TypeId} {cap : List Value} {Lc Lf : List Res}
theorem step_cloF {R : Mem → Value → Prop} [hf : FnC P f] (A : Fr n a F D) (hc : ev F x = some (.func (.func f) #[] cap.toArray)) (hx : evs F xs = some vs) (hd : Nat.blt d n = true) (S : Spec P f (vs ++ cap).toArray m [] (RetF R)) (H : St w0 w m L)
    (k : ∀ v a' w' m', Le m m' → R m' v → Fr n a' ((d, v) :: F) D → St w0 w' m' L → wpList P ops Q rest a' w') :
    wpList P ops Q (⟨some d, .call { callee := .value x, args := xs.toArray, argTypes := tys }, t, pos, after, none⟩ :: rest) a w :=
  step_clo A hc hx hd S H fun v a' w' m' _ hm ⟨h1, h2⟩ A' H' => k v a' w' m' hm h2 A' (by subst h1; exact H')
theorem step_cloFG {R : Mem → Value → Prop} {j dj : Nat} {want b : Bool} [hf : FnC P f] (hj : (ops[j]?).bind (·.dst) = some dj) (hv : lk F dj = some (.bool b)) (hb : b = want) (A : Fr n a F D) (hc : ev F x = some (.func (.func f) #[] cap.toArray)) (hx : evs F xs = some vs) (hd : Nat.blt d n = true) (S : Spec P f (vs ++ cap).toArray m [] (RetF R)) (H : St w0 w m L)
    (k : ∀ v a' w' m', Le m m' → R m' v → Fr n a' ((d, v) :: F) D → St w0 w' m' L → wpList P ops Q rest a' w') :
    wpList P ops Q (⟨some d, .call { callee := .value x, args := xs.toArray, argTypes := tys }, t, pos, after, some (j, want)⟩ :: rest) a w := by
  refine wpList_step fun K hK => ?_
  rw [if_pos (by rw [wanted_of (ops := ops) rfl A hj hv, hb]; simp)]
  exact oper_call (clo_runs A hc hx _ _ _ _ _) rfl S H fun v w' m' L' hm ⟨h1, h2⟩ H' => hK _ _ (k v _ w' m' hm h2 (A.put hd v) (by subst h1; exact H'))
end
theorem OR.one {m : Mem} : ∀ {xs : List Value} {l : List Obj}, OR m xs l → xs.all (·.oneCell') = true
  | [], _, _ => rfl
  | [_], _, h => (by cases h)
  | _ :: _ :: _, [], h => h.elim
  | a :: v :: xs, o :: l, ⟨h1, h2, h3⟩ => by
    obtain ⟨ad, n, c, h4, _⟩ := h2
    subst h1; subst h4
    simp only [List.all_cons, OR.one h3, Bool.and_true]
    rfl
theorem u8_one (l : List UInt8) : (l.map u8).all (·.oneCell') = true := by simp [u8, Value.oneCell']
theorem St.row_objs {e n c : Nat} {ad : Option Addr} {xs : List Value} {l : List Obj} (H : St w0 w m (row e 2 ad n c xs :: L)) (h : OR m xs l) : ∃ m', Le m m' ∧ Objs m' ad l.length c l ∧ St w0 w m' L := by
  have hl := H.row_len
  have h2 := h.len
  have hn : n = l.length := by omega
  subst hn
  obtain ⟨m', h3, h4, h5⟩ := H.row_freeze
  exact ⟨m', h3, ⟨rfl, xs, h4, h.mono h3⟩, h5⟩
end
end Sl
end Go.Proofs.YtanhehbfbakdcaaGreatDoor
/- copy, append of zeros, overlaps. Own work; nothing about a program stands here. -/
set_option linter.unusedVariables false
set_option linter.unusedSimpArgs false
namespace Go.Proofs.YtanhehbfbakdcaaGreatDoor
namespace Sl
open Go Go.RowKit
theorem getN_of {cs : List Value} {o k : Nat} (h : o + k ≤ cs.length) : getN cs o k = some ((cs.drop o).take k) := by
  induction cs generalizing o k with
  | nil =>
    obtain ⟨rfl, rfl⟩ : o = 0 ∧ k = 0 := by simpa using h
    rfl
  | cons c cs ih =>
    cases o with
    | zero =>
      cases k with
      | zero => rfl
      | succ k => simp only [getN, ih (o := 0) (k := k) (by simp at h ⊢; omega)]; simp [consO]
    | succ o => simpa [getN] using ih (o := o) (k := k) (by simp at h ⊢; omega)
theorem setN_put {cs vs : List Value} {o : Nat} (h : o + vs.length ≤ cs.length) : setN cs o vs = some (cs.take o ++ vs ++ cs.drop (o + vs.length)) := by
  induction cs generalizing o vs with
  | nil =>
    obtain ⟨rfl, rfl⟩ : o = 0 ∧ vs = [] := by simpa using h
    simp [setN]
  | cons c cs ih =>
    cases o with
    | zero =>
      cases vs with
      | nil => simp [setN]
      | cons v vs =>
        have := ih (o := 0) (vs := vs) (by simp at *; omega)
        simp only [setN, this]
        simp [consO]
    | succ o =>
      have := ih (o := o) (vs := vs) (by simp at *; omega)
      have e : setN (c :: cs) (o + 1) vs = consO c (setN cs o vs) := by cases vs <;> rfl
      rw [e, this]
      simp [consO, Nat.add_right_comm]
section
variable {P : Program} {ops : Array Oper} {Q : Exit → Act → World → Prop} {n : Nat} {a : Act} {w w0 : World} {F : List (Nat × Value)} {D : List Deferred} {m : Mem} {L L' : List Res} {rest : List Oper}
variable {d t : Nat} {pos : String} {after : Array Edge} {x y : Operand}
theorem ofInt_u8 (p : UInt8) : BitVec.ofInt 8 (p.toNat : Int) = p.toBitVec := by
  rw [BitVec.ofInt_natCast]
  apply BitVec.eq_of_toNat_eq
  simp
theorem u8_lt (p : UInt8) : (p.toNat : Int) < 256 := by have := p.toNat_lt; omega
theorem bits8_xor (p q : UInt8) : Op.intBits .xor .u8 (p.toNat : Int) (q.toNat : Int) = (Pure.pure (u8 (p ^^^ q)) : Sem Value) := by
  show (Pure.pure (.int .u8 (IntKind.u8.wrap ((BitVec.ofInt 8 (p.toNat : Int) ^^^ BitVec.ofInt 8 (q.toNat : Int) : BitVec 8).toNat : Int))) : Sem Value) = _
  rw [ofInt_u8, ofInt_u8, ← UInt8.toBitVec_xor, wrap_u8 (by omega) (by exact u8_lt (p ^^^ q))]
  rfl
theorem Runs.xor8 {t t' : Nat} {p q : UInt8} (A : Fr n a F D) (hx : ev F x = some (u8 p)) (hy : ev F y = some (u8 q)) : Runs P a w (.binOp .xor t x y t') (u8 (p ^^^ q)) := by
  intro _ _ _ _ _
  have h : binOp .xor t (.int .u8 (p.toNat : Int)) (.int .u8 (q.toNat : Int)) = Op.intBits .xor .u8 (p.toNat : Int) (q.toNat : Int) := rfl
  simp [execOp, A.ev hx, A.ev hy, u8, eqGuard, h, bits8_xor]
theorem wrap_u8_nat (q : Nat) : IntKind.u8.wrap (q : Int) = ((q % 256 : Nat) : Int) := by
  simp only [IntKind.wrap, IntKind.bits, IntKind.signed, Bool.false_and, Bool.false_eq_true, if_false]
  omega
theorem Runs.shl8 {t t' : Nat} {p : UInt8} {k : Nat} {ik : IntKind} {qi : Int} (A : Fr n a F D) (hx : ev F x = some (u8 p)) (hy : ev F y = some (.int ik qi)) (hq : qi = (k : Int)) (hk : k < 8) : Runs P a w (.binOp .shl t x y t') (u8 (p <<< UInt8.ofNat k)) := by
  subst hq
  intro _ _ _ _ _
  have h1 : ¬ ((k : Int) < 0) := by omega
  have h2 : min ((k : Int).toNat) IntKind.u8.bits = k := by simp [IntKind.bits]; omega
  simp only [execOp, A.ev hx, A.ev hy, u8, Sem.run_bind, eqGuard, binOp, Op.shift, if_neg h1, h2, Sem.run_pure, Result.andThen_ok]
  congr 2
  rw [UInt8.toNat_shiftLeft, UInt8.toNat_ofNat']
  rw [show k % 2 ^ 8 % 8 = k by omega, Nat.shiftLeft_eq]
  rw [show (p.toNat : Int) * 2 ^ k = ((p.toNat * 2 ^ k : Nat) : Int) by simp, wrap_u8_nat]
  rfl
theorem St.ne {b c : Nat} {o o' : Go.Obj} (H : St w0 w m (ob b o :: ob c o' :: L)) : b ≠ c := by
  obtain ⟨_, _, h, ⟨h1, h2, rfl, ⟨h3, h4, rfl, _, _, u'⟩, z, _⟩, _⟩ := H
  rintro rfl
  rcases z b with q | q
  · simp [single] at q
  · rw [u'] at q; simp [single] at q
theorem Runs.isNilL {t' e k l c n' c' : Nat} {ad : Option Addr} (A : Fr n a F D) (hx : ev F x = some (.slice ad l c)) (hy : ev F y = some (.slice none n' c')) [hs : SlC P t e k] : Runs P a w (.binOp .eql t x y t') (.bool ad.isNone) := by
  intro _ _ _ _ _
  obtain ⟨q, h2, h3, h4⟩ := slEl_spec hs.h
  have := Lib.run_eql_slice_nil (P := P) w t e ad l c n' c' h2
  simp only [execOp, A.ev hx, A.ev hy, Sem.run_bind, eqGuard]
  cases ad <;> simp [this]
theorem step_copy {e size ts tb g o dl dc b o2 sl sc q : Nat} {cs cs2 cs' vs : List Value} {tt : Nat} (A : Fr n a F D) (H : St w0 w m L) (hx : ev F x = some (.slice (some ⟨g, o, none⟩) dl dc)) (hy : ev F y = some (.slice (some ⟨b, o2, none⟩) sl sc))
    [hs : SlC P t e size] [hp : HasPt L g cs tb L'] [hb : BlkC m L b cs2] (hq : Nat.min sl dl = q) (hv : getN cs2 o2 (q * size) = some vs) (h1 : vs.all (·.oneCell') = true) (hw : setN cs o vs = some cs') (hd : Nat.blt d n = true)
    (K : ∀ a' w', Fr n a' ((d, .int .i64 q) :: F) D → St w0 w' m (pt g cs' tb :: L') → wpList P ops Q rest a' w') :
    wpList P ops Q (⟨some d, .call { callee := .builtin .copy, args := #[x, y], argTypes := #[t, tt] }, ts, pos, after, none⟩ :: rest) a w := by
  have H' : St w0 w m (pt g cs tb :: L') := H.perm hp.p
  have hg := H'.block
  obtain ⟨q0, j1, j2, j3⟩ := slEl_spec hs.h
  obtain ⟨v1, v2⟩ := getN_some hv
  obtain ⟨s1, s2⟩ := setN_some hw
  have hlen : vs.length = q * size := by rw [v2, List.length_take, List.length_drop]; omega
  have hl : (loadCells ⟨b, o2, none⟩ (q * size)).run P w = .ok vs.toArray w := by
    rw [← hlen]
    refine run_loadCells_list (P := P) w ⟨b, o2, none⟩ vs fun j v hj => ?_
    rw [addr_add, H.cell hb.h]
    rw [v2, List.getElem?_take] at hj
    split at hj
    · rwa [List.getElem?_drop] at hj
    · cases hj
  have hst : (storeCells ⟨g, o, none⟩ vs 0).run P w = .ok () (w.setRow g cs'.toArray) := by
    have := run_storeCells_at (P := P) g o tb vs 0 cs.toArray w hg (by simpa using s1) (by simpa using h1)
    rw [this, s2]; simp
  have hrun : (execOp a.eval ⟨some d, .call { callee := .builtin .copy, args := #[x, y], argTypes := #[t, tt] }, ts, pos, after, none⟩).run P w = .ok (.value (.int .i64 q)) (w.setRow g cs'.toArray) := by
    simp [execOp, resolve, invoke, builtin, A.ev hx, A.ev hy, Builtin.copy_, run_underlying j1, Builtin.lenOf, Builtin.firstCells, sizeOf, typeInfo, j2, j3, hq, hl, hst, goInt]
  refine wpList_plain rfl fun K' hK => ?_
  unfold Oper.wp
  rw [hrun]
  exact hK _ _ (K _ _ (A.put hd _) (H'.update ⟨rfl, rfl, rfl, by simp⟩ (setRow_heap w g _ _ _ _ hg) fun j hj _ => setRow_other w g j _ hj))
theorem step_appendZ {e size by_ ts t2 b off k c z : Nat} {ag : Bool} {ik : IntKind} {zs cs old : List Value} (A : Fr n a F D) (H : St w0 w m L) (hx : ev F x = some (.slice (some ⟨b, off, none⟩) k c)) (hy : ev F y = some (.int .i64 z))
    [hs : SlC P t e size] [T : TyC P e ag size by_ zs] [hi2 : IntC P t2 ik] [hb : BlkC m L b cs] (hv : getN cs off (k * size) = some old) (hc : c < k + z) (hz : 0 < z) (hsz : 0 < size) (hzl : Nat.beq zs.length size = true) (hln : k + z ≤ maxLen) (hby : (k + z) * by_ ≤ 140737488355328) (hd : Nat.blt d n = true)
    (K : ∀ g c' rst a' w', k + z ≤ c' → c' ≤ maxLen → rst.length = (c' - k) * size → Fr n a' ((d, .slice (some ⟨g, 0, none⟩) (k + z) c') :: F) D → St w0 w' m (pt g (old ++ rst) e :: L) → wpList P ops Q rest a' w') :
    wpList P ops Q (⟨some d, .call { callee := .builtin .append, args := #[x, y], argTypes := #[t, t2] }, ts, pos, after, none⟩ :: rest) a w := by
  obtain ⟨i, z0, g1, g2, g3, g4, g5⟩ := T.h.info
  obtain ⟨q0, j1, j2, j3⟩ := slEl_spec hs.h
  obtain ⟨v1, v2⟩ := getN_some hv
  have hzs : z0.cells.size = size := by have := Nat.eq_of_beq_eq_true hzl; rw [← this, ← g5]; simp
  have hlen : old.length = k * size := by rw [v2, List.length_take, List.length_drop]; omega
  have hl : (loadCells ⟨b, off, none⟩ (k * size)).run P w.drew = .ok old.toArray w.drew := by
    rw [← hlen]
    refine run_loadCells_list (P := P) w.drew ⟨b, off, none⟩ old fun j v hj => ?_
    have hcell : w.drew.cell? ⟨b, off + j, none⟩ = w.cell? ⟨b, off + j, none⟩ := rfl
    rw [addr_add, hcell, H.cell hb.h]
    rw [v2, List.getElem?_take] at hj
    split at hj
    · rwa [List.getElem?_drop] at hj
    · cases hj
  have hneed : ¬ (k + z ≤ c) := by omega
  have hln' : k + z ≤ 9223372036854775807 := hln
  have hw : IntKind.i64.wrap (z : Int) = z := by rw [IntKind.wrap_i64]; omega
  have hneg : ¬ ((z : Int) < 0) := by omega
  have hns : ¬ (z * size = 0) := Nat.mul_ne_zero (by omega) (by omega)
  have hfit : Builtin.nextslicecap (k + z) c * by_ ≤ 281474976710656 := by
    have h1 := Nat.mul_le_mul_right by_ (Go.Room.nextslicecap_le' hc)
    have h2 : 2 * (k + z) * by_ = 2 * ((k + z) * by_) := Nat.mul_assoc _ _ _
    omega
  have h48' : ¬ (281474976710656 < Builtin.nextslicecap (k + z) c * by_) := by omega
  have hzb : z * by_ ≤ (k + z) * by_ := Nat.mul_le_mul_right _ (by omega)
  have h48i : ¬ (281474976710656 < (z : Int) * (by_ : Int)) := by rw [← Int.natCast_mul]; omega
  have h63' : ¬ (9223372036854775807 < ((k : Int) + (z : Int))) := by omega
  have hge := grownCap_ge w (k + z) c e
  have hcm := grownCap_le_maxLen w (k + z) c e hln
  have hrun : (execOp a.eval ⟨some d, .call { callee := .builtin .append, args := #[x, y], argTypes := #[t, t2] }, ts, pos, after, none⟩).run P w =
      .ok (.value (.slice (some ⟨w.heap.size, 0, none⟩) (k + z) (grownCap w (k + z) c e))) (w.drew.alloc (.cells (old.toArray ++ (Builtin.zeroCells z0.cells z ++ Builtin.zeroCells z0.cells (grownCap w (k + z) c e - (k + z)))) e)) := by
    simp [execOp, resolve, invoke, builtin, A.ev hx, A.ev hy, Builtin.append_, run_underlying j1, run_underlying hi2.h, sizeOf, typeInfo, zeroValue, g1, g2, g3, g4, asInt, asIntOf, hw, hneg, hneed, hns, h48', h48i, h63', Builtin.firstCells, hl, Question.forced, newRow, grownCap]
  refine wpList_plain rfl fun K' hK => ?_
  unfold Oper.wp
  rw [hrun]
  refine hK _ _ (K w.heap.size (grownCap w (k + z) c e) (Builtin.zeroCells z0.cells z ++ Builtin.zeroCells z0.cells (grownCap w (k + z) c e - (k + z))).toList _ _ hge hcm ?_ (A.put hd _) ?_)
  · simp only [Array.toList_append, List.length_append, Array.length_toList, size_zeroCells, hzs, ← Nat.add_mul]
    congr 1; omega
  · have H2 : St w0 w.drew m L := H.drewN _
    have H3 := H2.alloc (.cells (old.toArray ++ (Builtin.zeroCells z0.cells z ++ Builtin.zeroCells z0.cells (grownCap w (k + z) c e - (k + z)))) e)
    have e1 : (old ++ (Builtin.zeroCells z0.cells z ++ Builtin.zeroCells z0.cells (grownCap w (k + z) c e - (k + z))).toList).toArray = old.toArray ++ (Builtin.zeroCells z0.cells z ++ Builtin.zeroCells z0.cells (grownCap w (k + z) c e - (k + z))) := by
      apply Array.ext'; simp
    unfold pt
    rw [e1]
    exact H3
/-- overlaps of two slices in two blocks of one's own -/
theorem step_overlaps {e size f ts tR b off n1 c1 g o n2 c2 tb tg : Nat} {fn : Func} {cs cg : List Value} {tys : Array TypeId} {L1 L2 : List Res} (A : Fr n a F D) (H : St w0 w m L) (hx : ev F x = some (.slice (some ⟨b, off, none⟩) n1 c1)) (hy : ev F y = some (.slice (some ⟨g, o, none⟩) n2 c2))
    [hs : SlC P t e size] [h1 : HasPt L b cs tb L1] [h2 : HasPt L1 g cg tg L2] (hf : P.funcs[f]? = some fn) (hname : (fn.name == "runtime.NumGoroutine") = false) (hb : fn.body.isNone = true) (hn : Extern.findNext fn = none) (he : Extern.find fn = some (Extern.SlicesOverlaps.overlaps #[t, t] #[tR])) (hcg : 0 < cg.length) (hd : Nat.blt d n = true)
    (K : ∀ a', Fr n a' ((d, .bool false) :: F) D → wpList P ops Q rest a' w) :
    wpList P ops Q (⟨some d, .call { callee := .value (.func f), args := #[x, y], argTypes := tys }, ts, pos, after, none⟩ :: rest) a w := by
  have Hb := H.perm h1.p
  have HH := H.perm (h1.p.trans (h2.p.cons _))
  have hne := HH.ne
  have hbb := Hb.block
  have hgg : w.heap[g]? = some (.cells cg.toArray tg (0, 0)) := (H.perm (h1.p.trans ((h2.p.cons _).trans (List.Perm.swap _ _ _)))).block
  obtain ⟨q0, j1, j2, j3⟩ := slEl_spec hs.h
  have hsz : ∀ w, (Go.sizeOf e).run P w = .ok size w := fun w => by simp [sizeOf, typeInfo, j2, j3]
  have hr := Lib.run_overlaps_apart w t tR e j1 size hsz ⟨b, off, none⟩ ⟨g, o, none⟩ n1 c1 n2 c2 hne tb tg cs.length cg.length (by simp [World.shape?, hbb]) (by simp [World.shape?, hgg]) (by omega) (by simp [World.frozen?, hbb]) (by simp [World.frozen?, hbb])
  have hrun : (execOp a.eval ⟨some d, .call { callee := .value (.func f), args := #[x, y], argTypes := tys }, ts, pos, after, none⟩).run P w = .ok (.value (.bool false)) w := by
    simp only [execOp, resolve, Act.eval, Deferred.ofValue]
    simp [invoke, Sem.run_bind, run_callFunc_extern hf hname hb hn he, A.ev hx, A.ev hy, hr]
  refine wpList_plain rfl fun K' hK => ?_
  unfold Oper.wp
  rw [hrun]
  exact hK _ _ (K _ (A.put hd _))
/-! ### rows, seen as blocks -/
theorem St.row_block {e size k c : Nat} {ad : Option Addr} {xs : List Value} (H : St w0 w m (row e size ad k c xs :: L)) (hk : 0 < c) : ∃ g cur, ad = some ⟨g, 0, none⟩ ∧ xs.length = k * size ∧ k ≤ c ∧ c ≤ maxLen ∧ cur.length = c * size ∧ cur.take (k * size) = xs ∧ St w0 w m (pt g cur e :: L) := by
  obtain ⟨a, b, h, ⟨k1, k2, ⟨h1, hx⟩, y, z, u⟩, d⟩ := H
  rcases hx with ⟨rfl, rfl, rfl, _⟩ | ⟨g, cur, rfl, e3, e4, e5, e6, rfl⟩
  · omega
  · exact ⟨g, cur.toList, rfl, h1, e3, e4, by simpa using e5, e6, a, b, h, ⟨_, k2, rfl, y, z, u⟩, d⟩
theorem St.block_row {e size k c g : Nat} {cur xs : List Value} (H : St w0 w m (pt g cur e :: L)) (h1 : xs.length = k * size) (h2 : k ≤ c) (h3 : c ≤ maxLen) (h4 : cur.length = c * size) (h5 : cur.take (k * size) = xs) : St w0 w m (row e size (some ⟨g, 0, none⟩) k c xs :: L) :=
  H.mapHead fun h hh => ⟨h1, .inr ⟨g, cur.toArray, rfl, h2, h3, by simpa using h4, by simpa using h5, hh⟩⟩
end
end Sl
end Go.Proofs.YtanhehbfbakdcaaGreatDoor
/- What describes a store: lists of data, lists of triples of bytes. Own work. -/
set_option linter.unusedVariables false
set_option linter.unusedSimpArgs false
namespace Go.Proofs.YtanhehbfbakdcaaGreatDoor
namespace Sl
open Go
/-- The cells xs are slices of bytes: the data ls. -/
def DR (m : Mem) : List Value → List (List UInt8) → Prop
  | [], [] => True
  | v :: xs, d :: ls => Dat m v d ∧ DR m xs ls
  | _, _ => False
theorem DR.mono {m m' : Mem} (k : Le m m') : ∀ {xs : List Value} {ls : List (List UInt8)}, DR m xs ls → DR m' xs ls
  | [], [], _ => trivial
  | [], _ :: _, h => h.elim
  | _ :: _, [], h => h.elim
  | v :: xs, d :: ls, ⟨h1, h2⟩ => ⟨h1.mono k, DR.mono k h2⟩
theorem DR.len {m : Mem} : ∀ {xs : List Value} {ls : List (List UInt8)}, DR m xs ls → xs.length = ls.length
  | [], [], _ => rfl
  | [], _ :: _, h => h.elim
  | _ :: _, [], h => h.elim
  | v :: xs, d :: ls, ⟨_, h2⟩ => by simp [DR.len h2]
theorem DR.at_ {m : Mem} : ∀ {xs : List Value} {ls : List (List UInt8)} {i : Nat} {d : List UInt8}, DR m xs ls → ls[i]? = some d → ∃ v, xs[i]? = some v ∧ Dat m v d
  | [], [], _, _, _, h => by simp at h
  | [], _ :: _, _, _, h, _ => h.elim
  | _ :: _, [], _, _, h, _ => h.elim
  | v :: xs, d :: ls, 0, e, ⟨h1, _⟩, h => ⟨v, rfl, by have : d = e := by simpa using h
                                                      subst this; exact h1⟩
  | v :: xs, d :: ls, i + 1, e, ⟨_, h2⟩, h => by simpa using DR.at_ (i := i) h2 (by simpa using h)
/-- A slice of slices of bytes that is read. -/
def Dats (m : Mem) (ad : Option Addr) (n c : Nat) (ls : List (List UInt8)) : Prop := n = ls.length ∧ ∃ xs, Slc m 1 ad n c xs ∧ DR m xs ls
theorem Dats.mono {m m' : Mem} {ad : Option Addr} {n c : Nat} {ls : List (List UInt8)} (h : Dats m ad n c ls) (k : Le m m') : Dats m' ad n c ls := by
  obtain ⟨h0, xs, h1, h2⟩ := h; exact ⟨h0, xs, h1.mono k, h2.mono k⟩
theorem Dats.all_ {m : Mem} {ad : Option Addr} {n c : Nat} {ls : List (List UInt8)} (h : Dats m ad n c ls) (hn : 0 < n) :
    ∃ b off cs, ad = some ⟨b, off, none⟩ ∧ Fz m b cs ∧ ∀ i d, ls[i]? = some d → ∃ v, cs[off + i]? = some v ∧ Dat m v d := by
  obtain ⟨h0, xs, h1, h2⟩ := h
  obtain ⟨b, off, cs, e, hf, hcs⟩ := h1.at_ hn
  refine ⟨b, off, cs, e, hf, fun i d hd => ?_⟩
  have hi : i < ls.length := (List.getElem?_eq_some_iff.1 hd).1
  obtain ⟨v, g1, g2⟩ := h2.at_ hd
  exact ⟨v, by rw [hcs i (by omega)]; exact g1, g2⟩
def triC (t : UInt8 × UInt8 × UInt8) : List Value := [u8 t.1, u8 t.2.1, u8 t.2.2]
/-- A slice of triples of bytes that is read. -/
def Tris (m : Mem) (ad : Option Addr) (n c : Nat) (ts : List (UInt8 × UInt8 × UInt8)) : Prop := n = ts.length ∧ Slc m 3 ad n c (ts.flatMap triC)
theorem Tris.mono {m m' : Mem} {ad : Option Addr} {n c : Nat} {ts : List (UInt8 × UInt8 × UInt8)} (h : Tris m ad n c ts) (k : Le m m') : Tris m' ad n c ts := ⟨h.1, Slc.mono h.2 k⟩
theorem tri_at {ts : List (UInt8 × UInt8 × UInt8)} {i j : Nat} {t : UInt8 × UInt8 × UInt8} (h : ts[i]? = some t) (hj : j < 3) : (ts.flatMap triC)[i * 3 + j]? = (triC t)[j]? := by
  induction ts generalizing i with
  | nil => simp at h
  | cons u ts ih =>
    simp only [List.flatMap_cons]
    cases i with
    | zero =>
      have : u = t := by simpa using h
      subst this
      rw [Nat.zero_mul, Nat.zero_add, List.getElem?_append_left (by simp [triC]; omega)]
    | succ i =>
      rw [List.getElem?_append_right (by simp [triC]; omega), show (i + 1) * 3 + j - (triC u).length = i * 3 + j by simp [triC]; omega]
      exact ih (by simpa using h)
theorem Tris.all_ {m : Mem} {ad : Option Addr} {n c : Nat} {ts : List (UInt8 × UInt8 × UInt8)} (h : Tris m ad n c ts) (hn : 0 < n) :
    ∃ b off cs, ad = some ⟨b, off, none⟩ ∧ Fz m b cs ∧ ∀ i t, ts[i]? = some t → cs[off + i * 3]? = some (u8 t.1) ∧ cs[off + i * 3 + 1]? = some (u8 t.2.1) ∧ cs[off + i * 3 + 2]? = some (u8 t.2.2) := by
  obtain ⟨h0, h1⟩ := h
  obtain ⟨b, off, cs, e, hf, hcs⟩ := h1.at_ hn
  refine ⟨b, off, cs, e, hf, fun i t ht => ?_⟩
  have hi : i < ts.length := (List.getElem?_eq_some_iff.1 ht).1
  refine ⟨?_, ?_, ?_⟩
  · have := tri_at (j := 0) ht (by omega); rw [hcs _ (by omega)]; simpa [triC] using this
  · have := tri_at (j := 1) ht (by omega); rw [Nat.add_assoc, hcs _ (by omega)]; simpa [triC] using this
  · have := tri_at (j := 2) ht (by omega); rw [Nat.add_assoc, hcs _ (by omega)]; simpa [triC] using this
theorem Runs.shrK {P : Program} {n : Nat} {a : Act} {w : World} {F : List (Nat × Value)} {D : List Deferred} {x y : Operand} {t t' : Nat} {k k' : IntKind} {p q : Int} (A : Fr n a F D) (hx : ev F x = some (.int k p)) (hy : ev F y = some (.int k' q)) (h : 0 ≤ q) :
    Runs P a w (.binOp .shr t x y t') (.int k (p.fdiv (2 ^ (min q.toNat k.bits)))) := by
  intro _ _ _ _ _
  have h1 : ¬ (q < 0) := by omega
  simp only [execOp, A.ev hx, A.ev hy, Sem.run_bind, eqGuard, binOp, Op.shift, if_neg h1, Sem.run_pure, Result.andThen_ok]
  rfl
theorem Runs.andK {P : Program} {n : Nat} {a : Act} {w : World} {F : List (Nat × Value)} {D : List Deferred} {x y : Operand} {t t' : Nat} {k : IntKind} {p q : Int} (A : Fr n a F D) (hx : ev F x = some (.int k p)) (hy : ev F y = some (.int k q)) :
    Runs P a w (.binOp .and t x y t') (.int k (k.wrap ((BitVec.ofInt k.bits p &&& BitVec.ofInt k.bits q).toNat))) := by
  intro _ _ _ _ _
  have h : binOp .and t (.int k p) (.int k q) = Op.intBits .and k p q := by simp [binOp]
  have h2 : Op.intBits .and k p q = (Pure.pure (.int k (k.wrap ((BitVec.ofInt k.bits p &&& BitVec.ofInt k.bits q).toNat))) : Sem Value) := rfl
  simp [execOp, A.ev hx, A.ev hy, eqGuard, h, h2]
end Sl
end Go.Proofs.YtanhehbfbakdcaaGreatDoor
/- From what a reading (DataW.trod) says to what my logic asks: slices of bytes, slices of them, triples. Own work. -/
set_option linter.unusedSimpArgs false
set_option linter.unusedVariables false
namespace Go.Proofs.YtanhehbfbakdcaaGreatDoor
namespace Sl
open Go Go.RowKit Go.ChangeShapes Go.WideShapes Go.Deep

/-! ### 1. Bulk -/
theorem bulk_pos {H : Type} (d : DataW H) : 1 ≤ Rows.uptoBulk d := by
  cases d with
  | lit l => cases l <;> simp [Rows.uptoBulk]
  | nil => simp [Rows.uptoBulk]
  | ptr d => simp [Rows.uptoBulk]
  | slice elems spare => simp [Rows.uptoBulk]
  | agg parts => simp [Rows.uptoBulk]
  | iface t d => simp [Rows.uptoBulk]
  | map entries => simp [Rows.uptoBulk]
  | held h => simp [Rows.uptoBulk]
theorem bulk_mem {H : Type} {d : DataW H} {l : List (DataW H)} (h : d ∈ l) : Rows.uptoBulk d ≤ Rows.uptoBulkAll l := by
  induction l with
  | nil => cases h
  | cons x r ih =>
    simp only [Rows.uptoBulkAll]
    rcases List.mem_cons.1 h with e | e
    · subst e; omega
    · have := ih e; omega
theorem bulk_len {H : Type} (l : List (DataW H)) : l.length ≤ Rows.uptoBulkAll l := by
  induction l with
  | nil => simp [Rows.uptoBulkAll]
  | cons x r ih => have := bulk_pos x; simp only [Rows.uptoBulkAll, List.length_cons]; omega
theorem bulk_slice {H : Type} (a b : List (DataW H)) : a.length ≤ Rows.uptoBulk (.slice a b) := by
  have := bulk_len a
  simp only [Rows.uptoBulk]; omega
theorem bulk_part {H : Type} {d : DataW H} {a b : List (DataW H)} (h : d ∈ a) : Rows.uptoBulk d ≤ Rows.uptoBulk (.slice a b) := by
  have := bulk_mem h
  simp only [Rows.uptoBulk]; omega

/-! ### 2. A world as frozen memory -/
def all (w : World) : Mem := fun b => w.heap[b]?
theorem St.start (w : World) : St w w (all w) [] := ⟨Kep.refl w, fun _ _ h => h, fun _ => none, fun _ => rfl, fun _ _ h => by cases h⟩
theorem St.below_all {w w' : World} {m' : Mem} {L : List Res} (H : St w w' m' L) (k : Le (all w) m') : Below w.heap.size w w' :=
  ⟨H.io.os, H.io.tape, H.io.output, H.io.size, fun j hj => by
    have h := k j _ (show all w j = some w.heap[j] from Array.getElem?_eq_getElem hj)
    rw [H.frz _ _ h, Array.getElem?_eq_getElem hj]⟩
theorem cell_at {w : World} {a : Addr} {v : Value} (h : w.cell? a = some v) : a.spot = none ∧ ∃ c e fr, w.heap[a.block]? = some (.cells c e fr) ∧ c[a.off]? = some v := by
  unfold World.cell? at h
  split at h
  · rename_i c e fr hh
    split at h
    · cases h
    · rename_i hs
      exact ⟨by simpa using hs, c, e, fr, hh, h⟩
  · cases h
theorem slc_of_cells {w : World} {a : Addr} {size n c : Nat} {V : Nat → Value} (hn : n ≤ c) (hc : c ≤ maxLen) (hs : 0 < size) (h : ∀ i, i < n * size → w.cell? (a.add i) = some (V i)) :
    Slc (all w) size (some a) n c ((List.range (n * size)).map V) := by
  refine ⟨by simp, hn, hc, fun hp => ?_⟩
  have hp' : 0 < n * size := Nat.mul_pos hp hs
  have h0 := h 0 hp'
  rw [show a.add 0 = a by simp [Addr.add]] at h0
  obtain ⟨hspot, cs, e, fr, hb, _⟩ := cell_at h0
  obtain ⟨b, off, spot⟩ := a
  simp only at hspot hb
  subst hspot
  refine ⟨b, off, cs.toList, rfl, ⟨e, fr, by simpa [all] using hb⟩, ?_⟩
  have key : ∀ i, i < n * size → cs[off + i]? = some (V i) := by
    intro i hi
    obtain ⟨_, c2, e2, fr2, hb2, hv⟩ := cell_at (h i hi)
    have hblk : (Addr.add ⟨b, off, none⟩ i).block = b := by unfold Addr.add; split <;> rfl
    have hoff : (Addr.add ⟨b, off, none⟩ i).off = off + i := by unfold Addr.add; split <;> simp_all
    rw [hblk, hb] at hb2
    rw [hoff] at hv
    cases hb2
    exact hv
  apply List.ext_getElem?
  intro i
  by_cases hi : i < n * size
  · rw [List.getElem?_take_of_lt hi, List.getElem?_drop, Array.getElem?_toList, key i hi]
    simp [hi]
  · rw [List.getElem?_take_eq_none (by omega), List.getElem?_eq_none (by simp; omega)]

/-! ### 3. Slices of bytes -/
def byteOf (z : Int) : UInt8 := z.toNat.toUInt8
theorem u8_byteOf {z : Int} (h : (Lit.int .u8 z).wf = true) : Value.int .u8 z = u8 (byteOf z) := by
  simp only [Lit.wf, Bool.and_eq_true, decide_eq_true_eq] at h
  have h1 : 0 ≤ z := by simpa [IntKind.min, IntKind.signed] using h.1
  have h2 : z ≤ 255 := by simpa [IntKind.max, IntKind.signed, IntKind.bits] using h.2
  obtain ⟨n, rfl⟩ := Int.eq_ofNat_of_zero_le h1
  have : n < 256 := by omega
  simp [u8, byteOf, Nat.mod_eq_of_lt this]
section
variable {H : Type} {enc : TypeId × Value → H} {P : Program} {w : World} {held : Bool}
theorem open_bytes {t e fuel : Nat} {cs : List Value} {x : DataW H × List MemPlace} (ht : P.underlying t = some (.slice e)) (he : P.underlying e = some (.int .u8)) (hc : P.cellsOf e = 1)
    (h : DataW.trod enc P w 0 (fun _ => true) held fuel t cs = some x) :
    ∃ ad n c d, cs = [.slice ad n c] ∧ Slc (all w) 1 ad n c (List.map u8 d) ∧ n ≤ Rows.uptoBulk x.1 := by
  rcases open_ints ht he hc h with ⟨rfl, rfl⟩ | ⟨a, len, cap, zs, rfl, _, hl, hm, hz, rfl, hcell, hw⟩
  · exact ⟨none, 0, 0, [], rfl, Slc.nil _ _ _ _ (by unfold maxLen; omega), Nat.zero_le _⟩
  · simp only [if_true] at hz
    refine ⟨some a, len, cap, (zs.take len).map byteOf, rfl, ?_, ?_⟩
    · have := slc_of_cells (w := w) (a := a) (size := 1) (n := len) (c := cap) (V := fun i => u8 (byteOf (zs.getD i 0))) hl hm (by omega) (fun i hi => by
        have hi' : i < zs.length := by omega
        rw [hcell i hi', u8_byteOf (hw _ (by simp [List.getD, hi']))])
      have e : (List.range (len * 1)).map (fun i => u8 (byteOf (zs.getD i 0))) = List.map u8 ((zs.take len).map byteOf) := by
        apply List.ext_getElem?
        intro i
        by_cases hi : i < len
        · have hi' : i < zs.length := by omega
          simp [hi, hi', List.getD]
        · rw [List.getElem?_eq_none (by simp; omega), List.getElem?_eq_none (by simp; omega)]
      rwa [e] at this
    · have := bulk_slice (H := H) (lits .u8 (zs.take len)) (lits .u8 (zs.drop len))
      have e : (lits (H := H) .u8 (zs.take len)).length = len := by simp [lits]; omega
      rw [e] at this; exact this

/-! ### 4. Slices of slices of bytes -/
theorem dr_of {m : Mem} {n : Nat} {V : Nat → Value} {d : Nat → List UInt8} (h : ∀ i, i < n → Dat m (V i) (d i)) : DR m ((List.range n).map V) ((List.range n).map d) := by
  have gen : ∀ l : List Nat, (∀ i ∈ l, i < n) → DR m (l.map V) (l.map d) := by
    intro l
    induction l with
    | nil => intro _; trivial
    | cons i l ih => intro hl; exact ⟨h i (hl i (by simp)), ih fun j hj => hl j (by simp [hj])⟩
  exact gen _ fun i hi => List.mem_range.1 hi
theorem open_dats {t e q fuel : Nat} {cs : List Value} {x : DataW H × List MemPlace} (ht : P.underlying t = some (.slice e)) (hc1 : P.cellsOf e = 1) (he : P.underlying e = some (.slice q)) (hq : P.underlying q = some (.int .u8)) (hcq : P.cellsOf q = 1)
    (h : DataW.trod enc P w 0 (fun _ => true) held fuel t cs = some x) (hb : Rows.uptoBulk x.1 ≤ 1048576) :
    ∃ ad n c ls, cs = [.slice ad n c] ∧ Dats (all w) ad n c ls ∧ n ≤ Rows.uptoBulk x.1 := by
  rcases open_slice1 ht hc1 h with ⟨rfl, rfl⟩ | ⟨a, len, cap, m, n, V, D, Pl, rfl, _, hl, hm, hmm, rfl, hx⟩
  · exact ⟨none, 0, 0, [], rfl, ⟨rfl, [], Slc.nil _ _ _ _ (by unfold maxLen; omega), trivial⟩, Nat.zero_le _⟩
  · simp only [if_true] at hmm
    subst hmm
    have each : ∀ i, i < len → ∃ d, Dat (all w) (V i) d := by
      intro i hi
      obtain ⟨_, h2⟩ := hx i (by omega)
      obtain ⟨ad, n', c', d, e1, e2, e3⟩ := open_bytes he hq hcq h2
      have : V i = .slice ad n' c' := by simpa using e1
      have hp : Rows.uptoBulk (D i) ≤ Rows.uptoBulk (DataW.slice ((List.range len).map D) ((List.range (m - len)).map fun j => D (len + j))) := bulk_part (List.mem_map.2 ⟨i, List.mem_range.2 hi, rfl⟩)
      simp only at e3 hb
      exact ⟨d, ad, n', c', this, e2, by omega⟩
    obtain ⟨d, hd⟩ := choose_lt (α := List UInt8) each
    refine ⟨some a, len, m, (List.range len).map d, rfl, ⟨by simp, (List.range len).map V, ?_, dr_of hd⟩, ?_⟩
    · have := slc_of_cells (w := w) (a := a) (size := 1) (n := len) (c := m) (V := V) hl hm (by omega) (fun i hi => (hx i (by omega)).1)
      rwa [Nat.mul_one] at this
    · have := bulk_slice (H := H) ((List.range len).map D) ((List.range (m - len)).map fun j => D (len + j))
      simpa using this

/-! ### 5. Slices of triples of bytes -/
theorem open_tri {e q fuel : Nat} {cs : List Value} {x : DataW H × List MemPlace} (he : P.underlying e = some (.array 3 q)) (hce : P.cellsOf e = 3) (hq : P.underlying q = some (.int .u8)) (hcq : P.cellsOf q = 1)
    (h : DataW.trod enc P w 0 (fun _ => true) held fuel e cs = some x) : ∃ t, cs = triC t := by
  obtain ⟨xs, m, _, rfl, hl, hxl, hx⟩ := DataW.trod_array he h
  rw [hce] at hl
  match cs, hl with
  | [v0, v1, v2], _ =>
    have g : ∀ i, i < 3 → ∃ y, DataW.trod enc P w 0 (fun _ => true) held m q (([v0, v1, v2].drop i).take 1) = some y := by
      intro i hi
      have := hx i hi
      rw [hcq, Nat.mul_one] at this
      rw [this]
      exact ⟨_, List.getElem?_eq_getElem (by omega)⟩
    obtain ⟨y0, g0⟩ := g 0 (by omega)
    obtain ⟨y1, g1⟩ := g 1 (by omega)
    obtain ⟨y2, g2⟩ := g 2 (by omega)
    obtain ⟨z0, e0, _, w0⟩ := DataW.trod_int hq g0
    obtain ⟨z1, e1, _, w1⟩ := DataW.trod_int hq g1
    obtain ⟨z2, e2, _, w2⟩ := DataW.trod_int hq g2
    simp at e0 e1 e2
    subst e0 e1 e2
    exact ⟨(byteOf z0, byteOf z1, byteOf z2), by simp only [triC, u8_byteOf w0, u8_byteOf w1, u8_byteOf w2]⟩
theorem add_addr (a : Addr) (i j : Nat) : (a.add i).add j = a.add (i + j) := Deep.add_add a i j
theorem range_tri {n : Nat} {T : Nat → UInt8 × UInt8 × UInt8} {V : Nat → Value} (h : ∀ i, i < n → ∀ j, j < 3 → some (V (i * 3 + j)) = (triC (T i))[j]?) : (List.range (n * 3)).map V = ((List.range n).map T).flatMap triC := by
  apply List.ext_getElem?
  intro k
  by_cases hk : k < n * 3
  · have hi : k / 3 < n := by omega
    have hj : k % 3 < 3 := by omega
    have e : k = k / 3 * 3 + k % 3 := by omega
    have h1 := h (k / 3) hi (k % 3) hj
    rw [← e] at h1
    have h2 : ((List.range n).map T)[k / 3]? = some (T (k / 3)) := by simp [hi]
    have h3 := tri_at h2 hj
    rw [← e] at h3
    rw [h3, ← h1]
    simp [hk]
  · rw [List.getElem?_eq_none (by simp; omega), List.getElem?_eq_none]
    have : ∀ l : List (UInt8 × UInt8 × UInt8), (l.flatMap triC).length = l.length * 3 := by
      intro l
      induction l with
      | nil => rfl
      | cons t l ih => simp [List.flatMap_cons, ih, triC]; omega
    rw [this]; simp; omega
theorem open_tris {t e q fuel : Nat} {cs : List Value} {x : DataW H × List MemPlace} (ht : P.underlying t = some (.slice e)) (he : P.underlying e = some (.array 3 q)) (hce : P.cellsOf e = 3) (hq : P.underlying q = some (.int .u8)) (hcq : P.cellsOf q = 1)
    (h : DataW.trod enc P w 0 (fun _ => true) held fuel t cs = some x) :
    ∃ ad n c ts, cs = [.slice ad n c] ∧ Tris (all w) ad n c ts ∧ n ≤ Rows.uptoBulk x.1 := by
  rcases open_slice ht h with ⟨rfl, rfl⟩ | ⟨a, len, cap, m, n, D, Pl, rfl, _, hl, hm, hmm, rfl, hx⟩
  · exact ⟨none, 0, 0, [], rfl, ⟨rfl, Slc.nil _ _ _ _ (by unfold maxLen; omega)⟩, Nat.zero_le _⟩
  · simp only [if_true] at hmm
    subst hmm
    rw [hce] at hx
    obtain ⟨T, hT⟩ := choose_lt (α := UInt8 × UInt8 × UInt8) (n := len) (p := fun i t => w.cells? 0 (a.add (i * 3)) 3 = some (triC t)) (fun i hi => by
      obtain ⟨cs', h1, h2⟩ := hx i (by omega)
      obtain ⟨t, rfl⟩ := open_tri he hce hq hcq h2
      exact ⟨t, h1⟩)
    have cell : ∀ i, i < len → ∀ j, j < 3 → w.cell? (a.add (i * 3 + j)) = (triC (T i))[j]? := fun i hi j hj => by
      have := (World.cells?_some (hT i hi)).2.2 j hj
      rwa [add_addr] at this
    let V : Nat → Value := fun k => ((triC (T (k / 3)))[k % 3]?).getD (.bool false)
    have hV : ∀ i, i < len → ∀ j, j < 3 → some (V (i * 3 + j)) = (triC (T i))[j]? := by
      intro i hi j hj
      have e1 : (i * 3 + j) / 3 = i := by omega
      have e2 : (i * 3 + j) % 3 = j := by omega
      simp only [V, e1, e2]
      have : j < (triC (T i)).length := by simp [triC]; omega
      simp [this]
    refine ⟨some a, len, m, (List.range len).map T, rfl, ⟨by simp, ?_⟩, ?_⟩
    · have := slc_of_cells (w := w) (a := a) (size := 3) (n := len) (c := m) (V := V) hl hm (by omega) (fun k hk => by
        have e : k = k / 3 * 3 + k % 3 := by omega
        have h1 := cell (k / 3) (by omega) (k % 3) (by omega)
        have h2 := hV (k / 3) (by omega) (k % 3) (by omega)
        rw [← e] at h1 h2
        rw [h1, h2])
      rwa [range_tri hV] at this
    · have := bulk_slice (H := H) ((List.range len).map D) ((List.range (m - len)).map fun j => D (len + j))
      simpa using this
end
end Sl
end Go.Proofs.YtanhehbfbakdcaaGreatDoor
/- Facts on the types and functions of the loaded program, each a closed fact of the kernel's. Printed by my gen.py. -/
namespace Go.Proofs.YtanhehbfbakdcaaGreatDoor
namespace Sl
open Go
instance : TyC Tryz.prog 3 false 1 8 [.int .i64 0] := ⟨⟨by kernel_rfl, by kernel_rfl⟩⟩
instance : IntC Tryz.prog 3 .i64 := ⟨by kernel_rfl⟩
instance : TyC Tryz.prog 4 false 1 1 [.bool false] := ⟨⟨by kernel_rfl, by kernel_rfl⟩⟩
instance : TyC Tryz.prog 5 false 1 1 [.int .u8 0] := ⟨⟨by kernel_rfl, by kernel_rfl⟩⟩
instance : IntC Tryz.prog 5 .u8 := ⟨by kernel_rfl⟩
instance : TyC Tryz.prog 9 false 1 16 [.string ⟨#[]⟩] := ⟨⟨by kernel_rfl, by kernel_rfl⟩⟩
instance : StrC Tryz.prog 9 := ⟨by kernel_rfl⟩
instance : TyC Tryz.prog 22 false 1 24 [.slice none 0 0] := ⟨⟨by kernel_rfl, by kernel_rfl⟩⟩
instance : SlC Tryz.prog 22 28 1 := ⟨by kernel_rfl⟩
instance : TyC Tryz.prog 23 false 1 24 [.slice none 0 0] := ⟨⟨by kernel_rfl, by kernel_rfl⟩⟩
instance : SlC Tryz.prog 23 84 3 := ⟨by kernel_rfl⟩
instance : TyC Tryz.prog 25 true 2 48 [.slice none 0 0, .slice none 0 0] := ⟨⟨by kernel_rfl, by kernel_rfl⟩⟩
instance : FldC Tryz.prog 25 0 0 := ⟨by kernel_rfl⟩
instance : FldC Tryz.prog 25 1 1 := ⟨by kernel_rfl⟩
instance : TyC Tryz.prog 28 false 1 24 [.slice none 0 0] := ⟨⟨by kernel_rfl, by kernel_rfl⟩⟩
instance : SlC Tryz.prog 28 5 1 := ⟨by kernel_rfl⟩
instance : TyC Tryz.prog 29 false 1 8 [.int .u64 0] := ⟨⟨by kernel_rfl, by kernel_rfl⟩⟩
instance : IntC Tryz.prog 29 .u64 := ⟨by kernel_rfl⟩
instance : TyC Tryz.prog 31 false 1 24 [.slice none 0 0] := ⟨⟨by kernel_rfl, by kernel_rfl⟩⟩
instance : SlC Tryz.prog 31 66 2 := ⟨by kernel_rfl⟩
instance : TyC Tryz.prog 36 false 1 24 [.slice none 0 0] := ⟨⟨by kernel_rfl, by kernel_rfl⟩⟩
instance : SlC Tryz.prog 36 83 4 := ⟨by kernel_rfl⟩
instance : TyC Tryz.prog 38 true 1 24 [.slice none 0 0] := ⟨⟨by kernel_rfl, by kernel_rfl⟩⟩
instance : FldC Tryz.prog 38 0 0 := ⟨by kernel_rfl⟩
instance : BdC Tryz.prog 38 [.slice none 0 0] [(0, 1)] := ⟨⟨by kernel_rfl, by kernel_rfl⟩⟩
instance : TyC Tryz.prog 40 false 1 8 [.int .i64 0] := ⟨⟨by kernel_rfl, by kernel_rfl⟩⟩
instance : TyC Tryz.prog 42 true 3 40 [.slice none 0 0, .int .u64 0, .int .i64 0] := ⟨⟨by kernel_rfl, by kernel_rfl⟩⟩
instance : FldC Tryz.prog 42 0 0 := ⟨by kernel_rfl⟩
instance : FldC Tryz.prog 42 1 1 := ⟨by kernel_rfl⟩
instance : FldC Tryz.prog 42 2 2 := ⟨by kernel_rfl⟩
instance : BdC Tryz.prog 42 [.slice none 0 0, .int .u64 0, .int .i64 0] [(0, 1), (1, 1), (2, 1)] := ⟨⟨by kernel_rfl, by kernel_rfl⟩⟩
instance : SlC Tryz.prog 48 29 1 := ⟨by kernel_rfl⟩
instance : TyC Tryz.prog 55 true 2 32 [.slice none 0 0, .int .i64 0] := ⟨⟨by kernel_rfl, by kernel_rfl⟩⟩
instance : FldC Tryz.prog 55 1 1 := ⟨by kernel_rfl⟩
instance : BdC Tryz.prog 55 [.slice none 0 0, .int .i64 0] [(0, 1), (1, 1)] := ⟨⟨by kernel_rfl, by kernel_rfl⟩⟩
instance : TyC Tryz.prog 59 true 2 32 [.slice none 0 0, .int .i64 0] := ⟨⟨by kernel_rfl, by kernel_rfl⟩⟩
instance : FldC Tryz.prog 59 0 0 := ⟨by kernel_rfl⟩
instance : FldC Tryz.prog 59 1 1 := ⟨by kernel_rfl⟩
instance : BdC Tryz.prog 59 [.slice none 0 0, .int .i64 0] [(0, 1), (1, 1)] := ⟨⟨by kernel_rfl, by kernel_rfl⟩⟩
instance : TyC Tryz.prog 66 true 2 32 [.int .u64 0, .slice none 0 0] := ⟨⟨by kernel_rfl, by kernel_rfl⟩⟩
instance : FldC Tryz.prog 66 0 0 := ⟨by kernel_rfl⟩
instance : FldC Tryz.prog 66 1 1 := ⟨by kernel_rfl⟩
instance : BdC Tryz.prog 66 [.int .u64 0, .slice none 0 0] [(0, 1), (1, 1)] := ⟨⟨by kernel_rfl, by kernel_rfl⟩⟩
instance : TyC Tryz.prog 68 true 2 2 [.int .u8 0, .int .u8 0] := ⟨⟨by kernel_rfl, by kernel_rfl⟩⟩
instance : ArrC Tryz.prog 68 2 5 1 := ⟨by kernel_rfl, by kernel_rfl⟩
instance : TyC Tryz.prog 80 false 1 24 [.slice none 0 0] := ⟨⟨by kernel_rfl, by kernel_rfl⟩⟩
instance : SlC Tryz.prog 80 9 1 := ⟨by kernel_rfl⟩
instance : TyC Tryz.prog 81 false 1 24 [.slice none 0 0] := ⟨⟨by kernel_rfl, by kernel_rfl⟩⟩
instance : SlC Tryz.prog 81 134 35 := ⟨by kernel_rfl⟩
instance : TyC Tryz.prog 83 true 4 80 [.string ⟨#[]⟩, .string ⟨#[]⟩, .slice none 0 0, .slice none 0 0] := ⟨⟨by kernel_rfl, by kernel_rfl⟩⟩
instance : FldC Tryz.prog 83 0 0 := ⟨by kernel_rfl⟩
instance : FldC Tryz.prog 83 1 1 := ⟨by kernel_rfl⟩
instance : FldC Tryz.prog 83 2 2 := ⟨by kernel_rfl⟩
instance : FldC Tryz.prog 83 3 3 := ⟨by kernel_rfl⟩
instance : BdC Tryz.prog 83 [.string ⟨#[]⟩, .string ⟨#[]⟩, .slice none 0 0, .slice none 0 0] [(0, 1), (1, 1), (2, 1), (3, 1)] := ⟨⟨by kernel_rfl, by kernel_rfl⟩⟩
instance : ArrC Tryz.prog 84 3 5 1 := ⟨by kernel_rfl, by kernel_rfl⟩
instance : IntC Tryz.prog 98 .u64 := ⟨by kernel_rfl⟩
instance : TyC Tryz.prog 107 false 1 8 [.int .u64 0] := ⟨⟨by kernel_rfl, by kernel_rfl⟩⟩
instance : TyC Tryz.prog 112 false 1 8 [.pointer none] := ⟨⟨by kernel_rfl, by kernel_rfl⟩⟩
instance : TyC Tryz.prog 113 false 1 8 [.pointer none] := ⟨⟨by kernel_rfl, by kernel_rfl⟩⟩
instance : FldC Tryz.prog 115 0 0 := ⟨by kernel_rfl⟩
instance : FldC Tryz.prog 115 1 1 := ⟨by kernel_rfl⟩
instance : FldC Tryz.prog 117 0 0 := ⟨by kernel_rfl⟩
instance : FldC Tryz.prog 117 1 2 := ⟨by kernel_rfl⟩
instance : BdC Tryz.prog 117 [.pointer none, .slice none 0 0, .bool false] [(0, 2), (2, 1)] := ⟨⟨by kernel_rfl, by kernel_rfl⟩⟩
instance : TyC Tryz.prog 125 true 2 24 [.int .i64 0, .string ⟨#[]⟩] := ⟨⟨by kernel_rfl, by kernel_rfl⟩⟩
instance : FldC Tryz.prog 125 0 0 := ⟨by kernel_rfl⟩
instance : FldC Tryz.prog 125 1 1 := ⟨by kernel_rfl⟩
instance : BdC Tryz.prog 125 [.int .i64 0, .string ⟨#[]⟩] [(0, 1), (1, 1)] := ⟨⟨by kernel_rfl, by kernel_rfl⟩⟩
instance : TyC Tryz.prog 126 false 1 24 [.slice none 0 0] := ⟨⟨by kernel_rfl, by kernel_rfl⟩⟩
instance : SlC Tryz.prog 126 128 7 := ⟨by kernel_rfl⟩
instance : TyC Tryz.prog 128 true 7 96 [.int .i64 0, .string ⟨#[]⟩, .int .i64 0, .string ⟨#[]⟩, .int .i64 0, .string ⟨#[]⟩, .slice none 0 0] := ⟨⟨by kernel_rfl, by kernel_rfl⟩⟩
instance : FldC Tryz.prog 128 0 0 := ⟨by kernel_rfl⟩
instance : FldC Tryz.prog 128 1 1 := ⟨by kernel_rfl⟩
instance : FldC Tryz.prog 128 2 2 := ⟨by kernel_rfl⟩
instance : FldC Tryz.prog 128 3 4 := ⟨by kernel_rfl⟩
instance : FldC Tryz.prog 128 4 6 := ⟨by kernel_rfl⟩
instance : TyC Tryz.prog 130 true 3 32 [.int .i64 0, .string ⟨#[]⟩, .int .i64 0] := ⟨⟨by kernel_rfl, by kernel_rfl⟩⟩
instance : FldC Tryz.prog 130 0 0 := ⟨by kernel_rfl⟩
instance : FldC Tryz.prog 130 1 1 := ⟨by kernel_rfl⟩
instance : FldC Tryz.prog 130 2 2 := ⟨by kernel_rfl⟩
instance : BdC Tryz.prog 130 [.int .i64 0, .string ⟨#[]⟩, .int .i64 0] [(0, 1), (1, 1), (2, 1)] := ⟨⟨by kernel_rfl, by kernel_rfl⟩⟩
instance : TyC Tryz.prog 131 false 1 24 [.slice none 0 0] := ⟨⟨by kernel_rfl, by kernel_rfl⟩⟩
instance : SlC Tryz.prog 131 125 2 := ⟨by kernel_rfl⟩
instance : TyC Tryz.prog 132 false 1 24 [.slice none 0 0] := ⟨⟨by kernel_rfl, by kernel_rfl⟩⟩
instance : SlC Tryz.prog 132 185 2 := ⟨by kernel_rfl⟩
instance : TyC Tryz.prog 134 true 35 480 [.int .i64 0, .string ⟨#[]⟩, .int .i64 0, .string ⟨#[]⟩, .int .i64 0, .string ⟨#[]⟩, .int .i64 0, .string ⟨#[]⟩, .int .i64 0, .string ⟨#[]⟩, .int .i64 0, .string ⟨#[]⟩, .int .i64 0, .string ⟨#[]⟩, .slice none 0 0, .int .i64 0, .string ⟨#[]⟩, .int .i64 0, .string ⟨#[]⟩, .int .i64 0, .string ⟨#[]⟩, .slice none 0 0, .int .i64 0, .string ⟨#[]⟩, .int .i64 0, .string ⟨#[]⟩, .int .i64 0, .string ⟨#[]⟩, .slice none 0 0, .int .i64 0, .string ⟨#[]⟩, .int .i64 0, .string ⟨#[]⟩, .slice none 0 0, .slice none 0 0] := ⟨⟨by kernel_rfl, by kernel_rfl⟩⟩
instance : FldC Tryz.prog 134 0 0 := ⟨by kernel_rfl⟩
instance : FldC Tryz.prog 134 1 1 := ⟨by kernel_rfl⟩
instance : FldC Tryz.prog 134 2 2 := ⟨by kernel_rfl⟩
instance : FldC Tryz.prog 134 3 4 := ⟨by kernel_rfl⟩
instance : FldC Tryz.prog 134 4 6 := ⟨by kernel_rfl⟩
instance : FldC Tryz.prog 134 5 8 := ⟨by kernel_rfl⟩
instance : FldC Tryz.prog 134 6 15 := ⟨by kernel_rfl⟩
instance : FldC Tryz.prog 134 7 22 := ⟨by kernel_rfl⟩
instance : FldC Tryz.prog 134 8 29 := ⟨by kernel_rfl⟩
instance : FldC Tryz.prog 134 9 32 := ⟨by kernel_rfl⟩
instance : FldC Tryz.prog 134 10 33 := ⟨by kernel_rfl⟩
instance : FldC Tryz.prog 134 11 34 := ⟨by kernel_rfl⟩
instance : TyC Tryz.prog 159 false 1 24 [.slice none 0 0] := ⟨⟨by kernel_rfl, by kernel_rfl⟩⟩
instance : SlC Tryz.prog 159 170 3 := ⟨by kernel_rfl⟩
instance : TyC Tryz.prog 170 true 3 32 [.int .i64 0, .string ⟨#[]⟩, .int .i64 0] := ⟨⟨by kernel_rfl, by kernel_rfl⟩⟩
instance : FldC Tryz.prog 170 0 0 := ⟨by kernel_rfl⟩
instance : BdC Tryz.prog 170 [.int .i64 0, .string ⟨#[]⟩, .int .i64 0] [(0, 1), (1, 1), (2, 1)] := ⟨⟨by kernel_rfl, by kernel_rfl⟩⟩
instance : TyC Tryz.prog 185 true 2 32 [.string ⟨#[]⟩, .string ⟨#[]⟩] := ⟨⟨by kernel_rfl, by kernel_rfl⟩⟩
instance : FldC Tryz.prog 185 0 0 := ⟨by kernel_rfl⟩
instance : FldC Tryz.prog 185 1 1 := ⟨by kernel_rfl⟩
instance : TyC Tryz.prog 224 false 1 8 [.map none] := ⟨⟨by kernel_rfl, by kernel_rfl⟩⟩
instance : SlC Tryz.prog 225 4 1 := ⟨by kernel_rfl⟩
instance : TyC Tryz.prog 241 true 256 256 (List.replicate 256 (.int .u8 0)) := ⟨⟨by kernel_rfl, by kernel_rfl⟩⟩
instance : ArrC Tryz.prog 241 256 5 1 := ⟨by kernel_rfl, by kernel_rfl⟩
instance : FldC Tryz.prog 244 0 0 := ⟨by kernel_rfl⟩
instance : FldC Tryz.prog 244 1 1 := ⟨by kernel_rfl⟩
instance : FldC Tryz.prog 244 2 2 := ⟨by kernel_rfl⟩
instance : FldC Tryz.prog 244 3 258 := ⟨by kernel_rfl⟩
instance : BdC Tryz.prog 244 [.string ⟨#[]⟩, .int .i64 0, .int .u8 0, .int .u8 0, .int .u8 0, .int .u8 0, .int .u8 0, .int .u8 0, .int .u8 0, .int .u8 0, .int .u8 0, .int .u8 0, .int .u8 0, .int .u8 0, .int .u8 0, .int .u8 0, .int .u8 0, .int .u8 0, .int .u8 0, .int .u8 0, .int .u8 0, .int .u8 0, .int .u8 0, .int .u8 0, .int .u8 0, .int .u8 0, .int .u8 0, .int .u8 0, .int .u8 0, .int .u8 0, .int .u8 0, .int .u8 0, .int .u8 0, .int .u8 0, .int .u8 0, .int .u8 0, .int .u8 0, .int .u8 0, .int .u8 0, .int .u8 0, .int .u8 0, .int .u8 0, .int .u8 0, .int .u8 0, .int .u8 0, .int .u8 0, .int .u8 0, .int .u8 0, .int .u8 0, .int .u8 0, .int .u8 0, .int .u8 0, .int .u8 0, .int .u8 0, .int .u8 0, .int .u8 0, .int .u8 0, .int .u8 0, .int .u8 0, .int .u8 0, .int .u8 0, .int .u8 0, .int .u8 0, .int .u8 0, .int .u8 0, .int .u8 0, .int .u8 0, .int .u8 0, .int .u8 0, .int .u8 0, .int .u8 0, .int .u8 0, .int .u8 0, .int .u8 0, .int .u8 0, .int .u8 0, .int .u8 0, .int .u8 0, .int .u8 0, .int .u8 0, .int .u8 0, .int .u8 0, .int .u8 0, .int .u8 0, .int .u8 0, .int .u8 0, .int .u8 0, .int .u8 0, .int .u8 0, .int .u8 0, .int .u8 0, .int .u8 0, .int .u8 0, .int .u8 0, .int .u8 0, .int .u8 0, .int .u8 0, .int .u8 0, .int .u8 0, .int .u8 0, .int .u8 0, .int .u8 0, .int .u8 0, .int .u8 0, .int .u8 0, .int .u8 0, .int .u8 0, .int .u8 0, .int .u8 0, .int .u8 0, .int .u8 0, .int .u8 0, .int .u8 0, .int .u8 0, .int .u8 0, .int .u8 0, .int .u8 0, .int .u8 0, .int .u8 0, .int .u8 0, .int .u8 0, .int .u8 0, .int .u8 0, .int .u8 0, .int .u8 0, .int .u8 0, .int .u8 0, .int .u8 0, .int .u8 0, .int .u8 0, .int .u8 0, .int .u8 0, .int .u8 0, .int .u8 0, .int .u8 0, .int .u8 0, .int .u8 0, .int .u8 0, .int .u8 0, .int .u8 0, .int .u8 0, .int .u8 0, .int .u8 0, .int .u8 0, .int .u8 0, .int .u8 0, .int .u8 0, .int .u8 0, .int .u8 0, .int .u8 0, .int .u8 0, .int .u8 0, .int .u8 0, .int .u8 0, .int .u8 0, .int .u8 0, .int .u8 0, .int .u8 0, .int .u8 0, .int .u8 0, .int .u8 0, .int .u8 0, .int .u8 0, .int .u8 0, .int .u8 0, .int .u8 0, .int .u8 0, .int .u8 0, .int .u8 0, .int .u8 0, .int .u8 0, .int .u8 0, .int .u8 0, .int .u8 0, .int .u8 0, .int .u8 0, .int .u8 0, .int .u8 0, .int .u8 0, .int .u8 0, .int .u8 0, .int .u8 0, .int .u8 0, .int .u8 0, .int .u8 0, .int .u8 0, .int .u8 0, .int .u8 0, .int .u8 0, .int .u8 0, .int .u8 0, .int .u8 0, .int .u8 0, .int .u8 0, .int .u8 0, .int .u8 0, .int .u8 0, .int .u8 0, .int .u8 0, .int .u8 0, .int .u8 0, .int .u8 0, .int .u8 0, .int .u8 0, .int .u8 0, .int .u8 0, .int .u8 0, .int .u8 0, .int .u8 0, .int .u8 0, .int .u8 0, .int .u8 0, .int .u8 0, .int .u8 0, .int .u8 0, .int .u8 0, .int .u8 0, .int .u8 0, .int .u8 0, .int .u8 0, .int .u8 0, .int .u8 0, .int .u8 0, .int .u8 0, .int .u8 0, .int .u8 0, .int .u8 0, .int .u8 0, .int .u8 0, .int .u8 0, .int .u8 0, .int .u8 0, .int .u8 0, .int .u8 0, .int .u8 0, .int .u8 0, .int .u8 0, .int .u8 0, .int .u8 0, .int .u8 0, .int .u8 0, .int .u8 0, .int .u8 0, .int .u8 0, .int .u8 0, .int .u8 0, .int .u8 0, .int .u8 0, .int .u8 0, .int .u8 0, .int .u8 0, .int .u8 0, .int .u8 0, .int .u8 0, .int .u8 0, .int .u8 0, .int .u8 0, .int .u8 0, .slice none 0 0] [(0, 1), (1, 1), (2, 256), (258, 1)] := ⟨⟨by kernel_rfl, by kernel_rfl⟩⟩
instance : TyC Tryz.prog 245 false 1 8 [.nilFunc] := ⟨⟨by kernel_rfl, by kernel_rfl⟩⟩
instance : TyC Tryz.prog 246 true 3 24 [.nilFunc, .nilFunc, .nilFunc] := ⟨⟨by kernel_rfl, by kernel_rfl⟩⟩
instance : ArrC Tryz.prog 246 3 245 1 := ⟨by kernel_rfl, by kernel_rfl⟩
instance : TyC Tryz.prog 261 true 2 16 [.nilFunc, .nilFunc] := ⟨⟨by kernel_rfl, by kernel_rfl⟩⟩
instance : ArrC Tryz.prog 261 2 245 1 := ⟨by kernel_rfl, by kernel_rfl⟩
instance : TyC Tryz.prog 262 false 1 8 [.map none] := ⟨⟨by kernel_rfl, by kernel_rfl⟩⟩
instance : FnC Tryz.prog 9 := FnC.mk' Tryz.func9 (by kernel_rfl) (by kernel_rfl)
instance : FnC Tryz.prog 10 := FnC.mk' Tryz.func10 (by kernel_rfl) (by kernel_rfl)
instance : FnC Tryz.prog 12 := FnC.mk' Tryz.func12 (by kernel_rfl) (by kernel_rfl)
instance : FnC Tryz.prog 14 := FnC.mk' Tryz.func14 (by kernel_rfl) (by kernel_rfl)
instance : FnC Tryz.prog 15 := FnC.mk' Tryz.func15 (by kernel_rfl) (by kernel_rfl)
instance : FnC Tryz.prog 17 := FnC.mk' Tryz.func17 (by kernel_rfl) (by kernel_rfl)
instance : FnC Tryz.prog 18 := FnC.mk' Tryz.func18 (by kernel_rfl) (by kernel_rfl)
instance : FnC Tryz.prog 19 := FnC.mk' Tryz.func19 (by kernel_rfl) (by kernel_rfl)
instance : FnC Tryz.prog 20 := FnC.mk' Tryz.func20 (by kernel_rfl) (by kernel_rfl)
instance : FnC Tryz.prog 22 := FnC.mk' Tryz.func22 (by kernel_rfl) (by kernel_rfl)
instance : FnC Tryz.prog 23 := FnC.mk' Tryz.func23 (by kernel_rfl) (by kernel_rfl)
instance : FnC Tryz.prog 25 := FnC.mk' Tryz.func25 (by kernel_rfl) (by kernel_rfl)
instance : FnC Tryz.prog 26 := FnC.mk' Tryz.func26 (by kernel_rfl) (by kernel_rfl)
instance : FnC Tryz.prog 28 := FnC.mk' Tryz.func28 (by kernel_rfl) (by kernel_rfl)
instance : FnC Tryz.prog 29 := FnC.mk' Tryz.func29 (by kernel_rfl) (by kernel_rfl)
instance : FnC Tryz.prog 31 := FnC.mk' Tryz.func31 (by kernel_rfl) (by kernel_rfl)
instance : FnC Tryz.prog 32 := FnC.mk' Tryz.func32 (by kernel_rfl) (by kernel_rfl)
instance : FnC Tryz.prog 35 := FnC.mk' Tryz.func35 (by kernel_rfl) (by kernel_rfl)
instance : FnC Tryz.prog 36 := FnC.mk' Tryz.func36 (by kernel_rfl) (by kernel_rfl)
instance : FnC Tryz.prog 37 := FnC.mk' Tryz.func37 (by kernel_rfl) (by kernel_rfl)
instance : FnC Tryz.prog 38 := FnC.mk' Tryz.func38 (by kernel_rfl) (by kernel_rfl)
instance : FnC Tryz.prog 39 := FnC.mk' Tryz.func39 (by kernel_rfl) (by kernel_rfl)
instance : FnC Tryz.prog 40 := FnC.mk' Tryz.func40 (by kernel_rfl) (by kernel_rfl)
instance : FnC Tryz.prog 43 := FnC.mk' Tryz.func43 (by kernel_rfl) (by kernel_rfl)
instance : FnC Tryz.prog 44 := FnC.mk' Tryz.func44 (by kernel_rfl) (by kernel_rfl)
instance : FnC Tryz.prog 45 := FnC.mk' Tryz.func45 (by kernel_rfl) (by kernel_rfl)
instance : FnC Tryz.prog 47 := FnC.mk' Tryz.func47 (by kernel_rfl) (by kernel_rfl)
instance : FnC Tryz.prog 48 := FnC.mk' Tryz.func48 (by kernel_rfl) (by kernel_rfl)
instance : FnC Tryz.prog 49 := FnC.mk' Tryz.func49 (by kernel_rfl) (by kernel_rfl)
instance : FnC Tryz.prog 50 := FnC.mk' Tryz.func50 (by kernel_rfl) (by kernel_rfl)
instance : FnC Tryz.prog 51 := FnC.mk' Tryz.func51 (by kernel_rfl) (by kernel_rfl)
instance : FnC Tryz.prog 52 := FnC.mk' Tryz.func52 (by kernel_rfl) (by kernel_rfl)
instance : FnC Tryz.prog 53 := FnC.mk' Tryz.func53 (by kernel_rfl) (by kernel_rfl)
instance : FnC Tryz.prog 54 := FnC.mk' Tryz.func54 (by kernel_rfl) (by kernel_rfl)
instance : FnC Tryz.prog 56 := FnC.mk' Tryz.func56 (by kernel_rfl) (by kernel_rfl)
instance : FnC Tryz.prog 58 := FnC.mk' Tryz.func58 (by kernel_rfl) (by kernel_rfl)
instance : FnC Tryz.prog 59 := FnC.mk' Tryz.func59 (by kernel_rfl) (by kernel_rfl)
instance : FnC Tryz.prog 60 := FnC.mk' Tryz.func60 (by kernel_rfl) (by kernel_rfl)
instance : FnC Tryz.prog 61 := FnC.mk' Tryz.func61 (by kernel_rfl) (by kernel_rfl)
instance : FnC Tryz.prog 62 := FnC.mk' Tryz.func62 (by kernel_rfl) (by kernel_rfl)
instance : FnC Tryz.prog 63 := FnC.mk' Tryz.func63 (by kernel_rfl) (by kernel_rfl)
instance : FnC Tryz.prog 64 := FnC.mk' Tryz.func64 (by kernel_rfl) (by kernel_rfl)
instance : FnC Tryz.prog 65 := FnC.mk' Tryz.func65 (by kernel_rfl) (by kernel_rfl)
instance : FnC Tryz.prog 72 := FnC.mk' Tryz.func72 (by kernel_rfl) (by kernel_rfl)
instance : FnC Tryz.prog 75 := FnC.mk' Tryz.func75 (by kernel_rfl) (by kernel_rfl)
instance : FnC Tryz.prog 76 := FnC.mk' Tryz.func76 (by kernel_rfl) (by kernel_rfl)
instance : FnC Tryz.prog 77 := FnC.mk' Tryz.func77 (by kernel_rfl) (by kernel_rfl)
instance : FnC Tryz.prog 78 := FnC.mk' Tryz.func78 (by kernel_rfl) (by kernel_rfl)
instance : FnC Tryz.prog 79 := FnC.mk' Tryz.func79 (by kernel_rfl) (by kernel_rfl)
instance : FnC Tryz.prog 80 := FnC.mk' Tryz.func80 (by kernel_rfl) (by kernel_rfl)
instance : FnC Tryz.prog 81 := FnC.mk' Tryz.func81 (by kernel_rfl) (by kernel_rfl)
instance : FnC Tryz.prog 87 := FnC.mk' Tryz.func87 (by kernel_rfl) (by kernel_rfl)
instance : FnC Tryz.prog 88 := FnC.mk' Tryz.func88 (by kernel_rfl) (by kernel_rfl)
instance : FnC Tryz.prog 89 := FnC.mk' Tryz.func89 (by kernel_rfl) (by kernel_rfl)
instance : FnC Tryz.prog 90 := FnC.mk' Tryz.func90 (by kernel_rfl) (by kernel_rfl)
instance : FnC Tryz.prog 91 := FnC.mk' Tryz.func91 (by kernel_rfl) (by kernel_rfl)
instance : FnC Tryz.prog 92 := FnC.mk' Tryz.func92 (by kernel_rfl) (by kernel_rfl)
instance : FnC Tryz.prog 93 := FnC.mk' Tryz.func93 (by kernel_rfl) (by kernel_rfl)
instance : FnC Tryz.prog 94 := FnC.mk' Tryz.func94 (by kernel_rfl) (by kernel_rfl)
instance : FnC Tryz.prog 95 := FnC.mk' Tryz.func95 (by kernel_rfl) (by kernel_rfl)
instance : FnC Tryz.prog 96 := FnC.mk' Tryz.func96 (by kernel_rfl) (by kernel_rfl)
instance : FnC Tryz.prog 97 := FnC.mk' Tryz.func97 (by kernel_rfl) (by kernel_rfl)
instance : FnC Tryz.prog 98 := FnC.mk' Tryz.func98 (by kernel_rfl) (by kernel_rfl)
instance : FnC Tryz.prog 99 := FnC.mk' Tryz.func99 (by kernel_rfl) (by kernel_rfl)
instance : FnC Tryz.prog 110 := FnC.mk' Tryz.func110 (by kernel_rfl) (by kernel_rfl)
instance : FnC Tryz.prog 111 := FnC.mk' Tryz.func111 (by kernel_rfl) (by kernel_rfl)
instance : FnC Tryz.prog 114 := FnC.mk' Tryz.func114 (by kernel_rfl) (by kernel_rfl)
instance : FnC Tryz.prog 115 := FnC.mk' Tryz.func115 (by kernel_rfl) (by kernel_rfl)
instance : FnC Tryz.prog 129 := FnC.mk' Tryz.func129 (by kernel_rfl) (by kernel_rfl)
instance : FnC Tryz.prog 130 := FnC.mk' Tryz.func130 (by kernel_rfl) (by kernel_rfl)
instance : FnC Tryz.prog 131 := FnC.mk' Tryz.func131 (by kernel_rfl) (by kernel_rfl)
instance : FnC Tryz.prog 132 := FnC.mk' Tryz.func132 (by kernel_rfl) (by kernel_rfl)
instance : FnC Tryz.prog 133 := FnC.mk' Tryz.func133 (by kernel_rfl) (by kernel_rfl)
instance : FnC Tryz.prog 146 := FnC.mk' Tryz.func146 (by kernel_rfl) (by kernel_rfl)
instance : FnC Tryz.prog 147 := FnC.mk' Tryz.func147 (by kernel_rfl) (by kernel_rfl)
instance : FnC Tryz.prog 148 := FnC.mk' Tryz.func148 (by kernel_rfl) (by kernel_rfl)
instance : FnC Tryz.prog 149 := FnC.mk' Tryz.func149 (by kernel_rfl) (by kernel_rfl)
instance : FnC Tryz.prog 150 := FnC.mk' Tryz.func150 (by kernel_rfl) (by kernel_rfl)
instance : FnC Tryz.prog 171 := FnC.mk' Tryz.func171 (by kernel_rfl) (by kernel_rfl)
instance : FnC Tryz.prog 179 := FnC.mk' Tryz.func179 (by kernel_rfl) (by kernel_rfl)
instance : FnC Tryz.prog 180 := FnC.mk' Tryz.func180 (by kernel_rfl) (by kernel_rfl)
instance : FnC Tryz.prog 181 := FnC.mk' Tryz.func181 (by kernel_rfl) (by kernel_rfl)
instance : FnC Tryz.prog 182 := FnC.mk' Tryz.func182 (by kernel_rfl) (by kernel_rfl)
instance : FnC Tryz.prog 199 := FnC.mk' Tryz.func199 (by kernel_rfl) (by kernel_rfl)
end Sl
end Go.Proofs.YtanhehbfbakdcaaGreatDoor
/- DERIVED: THE SHELF's CONTRACTS AT THIS DUMP, IN PLAIN WORDS (tools/lay-plain.mjs out of 'TryzShelf.lean', which tools/lay-shelf.mjs wrote): THE SAME DECLARATIONS UNDER THE SAME NAMES: 'import', 'namespace', 'open', 'def', 'theorem' AND NOTHING ELSE: no command of the shelf's: FOR A HAND-IN. Each laying: the table of numbers ('.._ren') and one theorem, a field a fact of the dump's own or the kernel's comparison; each contract: ONE APPLICATION. -/
namespace Go.Proofs
open Go.Shelf
open Go.RowKit in
open Go.RowKit in
open Go.RowKit in
open Go.RowKit in
def Tryz.lays137_ren : Go.Shelf.Ren := ⟨fun | 137 => 181 | 217 => 198 | 266 => 208 | n => n, fun | 9 => 9 | 5 => 5 | 3 => 3 | n => n, fun | n => n⟩
theorem Tryz.lays137 : Go.Proofs.Lays.n137 Tryz.prog Tryz.lays137_ren := {
  mixed := by kernel_rfl
  f137 := Tryz.func181.trans (congrArg some (by kernel_rfl))
  f217 := Tryz.func198.trans (congrArg some (by kernel_rfl))
  f266 := Tryz.func208.trans (congrArg some (by kernel_rfl))
  t3 := Tryz.underlying3
  a3 := Tryz.isAgg3
  z3 := Tryz.sizeOf3
  v3 := Tryz.zeroValue3
  t5 := Tryz.underlying5
  a5 := Tryz.isAgg5
  z5 := Tryz.sizeOf5
  v5 := Tryz.zeroValue5
  t9 := Tryz.underlying9
  a9 := Tryz.isAgg9
  z9 := Tryz.sizeOf9
  v9 := Tryz.zeroValue9 }
open Go.RowKit in
/-- strings.IndexByte: "IndexByte returns the index of the first instance of c in s, or -1 if c is not present in s.": IT RETURNS 'Lib.indexByte s c'; the world is as it was. (LAID: no walk: one application.) -/
theorem Tryz.strings_IndexByte (s : ByteArray) (c : Int) (w : World) :
    Calls Tryz.prog 181 #[.string s, .int .u8 c] w fun e w' => e = .returned (.int .i64 (Lib.indexByte s.data.toList c.toNat.toUInt8)) ∧ w' = w := Any.strings_IndexByte Tryz.lays137 s c w
open Go.RowKit in
open Go.RowKit in
open Go.RowKit in
open Go.RowKit in
open Go.RowKit in
open Go.RowKit in
open Go.RowKit in
open Go.RowKit in
def Tryz.lays172_ren : Go.Shelf.Ren := ⟨fun | 172 => 199 | 244 => 209 | 245 => 210 | 247 => 219 | 279 => 220 | 280 => 221 | 281 => 222 | 282 => 223 | 287 => 229 | 316 => 230 | 171 => 171 | 205 => 231 | 321 => 234 | 322 => 235 | 243 => 196 | 246 => 207 | 283 => 215 | 284 => 216 | 285 => 217 | 286 => 218 | 129 => 225 | 317 => 224 | 318 => 226 | 319 => 227 | 320 => 228 | 337 => 232 | 338 => 233 | n => n, fun | 9 => 9 | 3 => 3 | 75 => 119 | 76 => 120 | 4 => 4 | 5 => 5 | 167 => 293 | 37 => 28 | 0 => 0 | 85 => 294 | 2 => 2 | 168 => 296 | 53 => 29 | 175 => 304 | 46 => 98 | 210 => 308 | 127 => 188 | 145 => 314 | 143 => 312 | 21 => 21 | 171 => 288 | 173 => 291 | 212 => 300 | 51 => 301 | 20 => 20 | 213 => 302 | 232 => 315 | 233 => 316 | 80 => 137 | n => n, fun | 15 => 4 | 16 => 5 | 17 => 3 | 18 => 6 | 19 => 7 | n => n⟩
open Go.RowKit in
open Go.Lib in
open Go.Lib in
open Go.Lib in
open Go.Lib in
open Go.RowKit Go.Sort Go.Lib in
def Tryz.laysM246_ren : Go.Shelf.Ren := ⟨fun | 246 => 207 | 283 => 215 | 284 => 216 | 285 => 217 | 286 => 218 | 129 => 225 | 317 => 224 | 318 => 226 | 319 => 227 | 320 => 228 | 337 => 232 | 338 => 233 | n => n, fun | 2 => 2 | 3 => 3 | 9 => 9 | 4 => 4 | 171 => 288 | 0 => 0 | 53 => 29 | 37 => 28 | 5 => 5 | 173 => 291 | 212 => 300 | 51 => 301 | 20 => 20 | 213 => 302 | 46 => 98 | 232 => 315 | 233 => 316 | n => n, fun | 17 => 3 | 18 => 6 | 19 => 7 | n => n⟩
open Go.RowKit Go.Sort Go.Lib in
open Go.RowKit Go.Sort Go.Lib in
def Tryz.laysM243_ren : Go.Shelf.Ren := ⟨fun | 243 => 196 | 246 => 207 | 283 => 215 | 284 => 216 | 285 => 217 | 286 => 218 | 129 => 225 | 317 => 224 | 318 => 226 | 319 => 227 | 320 => 228 | 337 => 232 | 338 => 233 | n => n, fun | 3 => 3 | 9 => 9 | 2 => 2 | 4 => 4 | 171 => 288 | 0 => 0 | 53 => 29 | 37 => 28 | 5 => 5 | 173 => 291 | 212 => 300 | 51 => 301 | 20 => 20 | 213 => 302 | 46 => 98 | 232 => 315 | 233 => 316 | n => n, fun | 17 => 3 | 18 => 6 | 19 => 7 | n => n⟩
open Go.RowKit Go.Sort Go.Lib in
open Go.RowKit Go.Sort Go.Lib in
def Tryz.laysM171_ren : Go.Shelf.Ren := ⟨fun | 171 => 171 | 243 => 196 | 246 => 207 | 283 => 215 | 284 => 216 | 285 => 217 | 286 => 218 | 129 => 225 | 317 => 224 | 318 => 226 | 319 => 227 | 320 => 228 | 337 => 232 | 338 => 233 | n => n, fun | 3 => 3 | 9 => 9 | 2 => 2 | 4 => 4 | 171 => 288 | 0 => 0 | 53 => 29 | 37 => 28 | 5 => 5 | 173 => 291 | 212 => 300 | 51 => 301 | 20 => 20 | 213 => 302 | 46 => 98 | 232 => 315 | 233 => 316 | n => n, fun | 17 => 3 | 18 => 6 | 19 => 7 | n => n⟩
theorem Tryz.laysM171 : Go.Proofs.LaysM.n171 Tryz.prog Tryz.laysM171_ren := {
  mixed := by kernel_rfl
  f129 := Tryz.func225.trans (congrArg some (by kernel_rfl))
  f171 := Tryz.func171.trans (congrArg some (by kernel_rfl))
  f243 := Tryz.func196.trans (congrArg some (by kernel_rfl))
  f246 := Tryz.func207.trans (congrArg some (by kernel_rfl))
  f283 := Tryz.func215.trans (congrArg some (by kernel_rfl))
  f284 := Tryz.func216.trans (congrArg some (by kernel_rfl))
  f285 := Tryz.func217.trans (congrArg some (by kernel_rfl))
  f286 := Tryz.func218.trans (congrArg some (by kernel_rfl))
  f317 := Tryz.func224.trans (congrArg some (by kernel_rfl))
  f318 := Tryz.func226.trans (congrArg some (by kernel_rfl))
  f319 := Tryz.func227.trans (congrArg some (by kernel_rfl))
  f320 := Tryz.func228.trans (congrArg some (by kernel_rfl))
  f337 := Tryz.func232.trans (congrArg some (by kernel_rfl))
  f338 := Tryz.func233.trans (congrArg some (by kernel_rfl))
  t0 := Tryz.underlying0
  a0 := Tryz.isAgg0
  z0 := Tryz.sizeOf0
  v0 := Tryz.zeroValue0
  t2 := Tryz.underlying2
  a2 := Tryz.isAgg2
  z2 := Tryz.sizeOf2
  v2 := Tryz.zeroValue2
  t3 := Tryz.underlying3
  a3 := Tryz.isAgg3
  z3 := Tryz.sizeOf3
  v3 := Tryz.zeroValue3
  t4 := Tryz.underlying4
  a4 := Tryz.isAgg4
  z4 := Tryz.sizeOf4
  v4 := Tryz.zeroValue4
  t5 := Tryz.underlying5
  a5 := Tryz.isAgg5
  z5 := Tryz.sizeOf5
  v5 := Tryz.zeroValue5
  t9 := Tryz.underlying9
  a9 := Tryz.isAgg9
  z9 := Tryz.sizeOf9
  v9 := Tryz.zeroValue9
  t20 := Tryz.underlying20
  a20 := Tryz.isAgg20
  z20 := Tryz.sizeOf20
  v20 := Tryz.zeroValue20
  t37 := Tryz.underlying28
  a37 := Tryz.isAgg28
  z37 := Tryz.sizeOf28
  v37 := Tryz.zeroValue28
  t46 := Tryz.underlying98
  a46 := Tryz.isAgg98
  z46 := Tryz.sizeOf98
  v46 := Tryz.zeroValue98
  t51 := Tryz.underlying301
  a51 := Tryz.isAgg301
  z51 := Tryz.sizeOf301
  v51 := Tryz.zeroValue301
  t53 := Tryz.underlying29
  a53 := Tryz.isAgg29
  z53 := Tryz.sizeOf29
  v53 := Tryz.zeroValue29
  t171 := Tryz.underlying288
  a171 := Tryz.isAgg288
  z171 := Tryz.sizeOf288
  v171 := Tryz.zeroValue288
  t173 := Tryz.underlying291
  a173 := Tryz.isAgg291
  z173 := Tryz.sizeOf291
  v173 := Tryz.zeroValue291
  t212 := Tryz.underlying300
  a212 := Tryz.isAgg300
  z212 := Tryz.sizeOf300
  v212 := Tryz.zeroValue300
  t213 := Tryz.underlying302
  a213 := Tryz.isAgg302
  z213 := Tryz.sizeOf302
  t232 := Tryz.underlying315
  a232 := Tryz.isAgg315
  z232 := Tryz.sizeOf315
  v232 := Tryz.zeroValue315
  t233 := Tryz.underlying316
  a233 := Tryz.isAgg316
  z233 := Tryz.sizeOf316
  v233 := Tryz.zeroValue316
  g17 := by kernel_rfl
  g18 := by kernel_rfl
  g19 := by kernel_rfl
  i0 := by kernel_rfl
  i2 := by kernel_rfl
  i3 := by kernel_rfl
  i4 := by kernel_rfl
  i5 := by kernel_rfl
  i9 := by kernel_rfl
  i20 := by kernel_rfl
  i37 := by kernel_rfl
  i46 := by kernel_rfl
  i51 := by kernel_rfl
  i53 := by kernel_rfl
  i171 := by kernel_rfl
  i173 := by kernel_rfl
  i212 := by kernel_rfl
  i232 := by kernel_rfl
  i233 := by kernel_rfl
  m17 := by kernel_rfl
  m18 := by kernel_rfl
  m19 := by kernel_rfl }
open Go.RowKit Go.Sort Go.Lib in
/-- strconv.Itoa: "Itoa is equivalent to FormatInt(int64(i), 10).": i's DECIMAL NUMERAL ('Lib.itoa': a '-' where i is negative, then the digits), FOR EVERY int. The world behind the call: the world before it, new blocks behind the heap (the library's 'var a [24]byte'), draws. (LAID: no walk: one application.) -/
theorem Tryz.strconv_Itoa (n : Int) (h0 : -9223372036854775808 ≤ n) (h1 : n ≤ 9223372036854775807) (w : World) (htab : Lib.TabIs Tryz.prog w "internal/strconv.uint64pow10" .u64 Lib.pow10Tab) :
    Calls Tryz.prog 171 #[.int .i64 n] w fun e w' => e = .returned (.string ⟨(Lib.itoa n).toArray⟩) ∧ ∃ k os, w' = grow (w.drewN k) os := Any.strconv_Itoa Tryz.laysM171 n h0 h1 w htab
open Go.RowKit Go.Sort Go.Lib in
open Go.RowKit in
open Go.RowKit in
open Go.RowKit in
open Go.RowKit in
open Go.RowKit in
open Go.RowKit in
open Go.RowKit in
def Tryz.laysC172_ren : Go.Shelf.Ren := ⟨fun | 172 => 199 | 244 => 209 | 245 => 210 | 247 => 219 | 279 => 220 | 280 => 221 | 281 => 222 | 282 => 223 | 287 => 229 | 316 => 230 | 171 => 171 | 205 => 231 | 321 => 234 | 322 => 235 | 243 => 196 | 246 => 207 | 283 => 215 | 284 => 216 | 285 => 217 | 286 => 218 | 129 => 225 | 317 => 224 | 318 => 226 | 319 => 227 | 320 => 228 | 337 => 232 | 338 => 233 | n => n, fun | 9 => 9 | 3 => 3 | 75 => 119 | 76 => 120 | 4 => 4 | 5 => 5 | 167 => 293 | 37 => 28 | 0 => 0 | 85 => 294 | 2 => 2 | 168 => 296 | 53 => 29 | 175 => 304 | 46 => 98 | 210 => 308 | 127 => 188 | 145 => 314 | 143 => 312 | 21 => 21 | 171 => 288 | 173 => 291 | 212 => 300 | 51 => 301 | 20 => 20 | 213 => 302 | 232 => 315 | 233 => 316 | 80 => 137 | n => n, fun | 15 => 4 | 16 => 5 | 17 => 3 | 18 => 6 | 19 => 7 | n => n⟩
theorem Tryz.laysC172 : Go.Proofs.LaysC.n172 Tryz.prog Tryz.laysC172_ren := {
  mixed := by kernel_rfl
  f129 := Tryz.func225.trans (congrArg some (by kernel_rfl))
  f171 := Tryz.func171.trans (congrArg some (by kernel_rfl))
  f172 := Tryz.func199.trans (congrArg some (by kernel_rfl))
  f205 := Tryz.func231.trans (congrArg some (by kernel_rfl))
  f243 := Tryz.func196.trans (congrArg some (by kernel_rfl))
  f244 := Tryz.func209.trans (congrArg some (by kernel_rfl))
  f245 := Tryz.func210.trans (congrArg some (by kernel_rfl))
  f246 := Tryz.func207.trans (congrArg some (by kernel_rfl))
  f247 := Tryz.func219.trans (congrArg some (by kernel_rfl))
  f279 := Tryz.func220.trans (congrArg some (by kernel_rfl))
  f280 := Tryz.func221.trans (congrArg some (by kernel_rfl))
  f281 := Tryz.func222.trans (congrArg some (by kernel_rfl))
  f282 := Tryz.func223.trans (congrArg some (by kernel_rfl))
  f283 := Tryz.func215.trans (congrArg some (by kernel_rfl))
  f284 := Tryz.func216.trans (congrArg some (by kernel_rfl))
  f285 := Tryz.func217.trans (congrArg some (by kernel_rfl))
  f286 := Tryz.func218.trans (congrArg some (by kernel_rfl))
  f287 := Tryz.func229.trans (congrArg some (by kernel_rfl))
  f316 := Tryz.func230.trans (congrArg some (by kernel_rfl))
  f317 := Tryz.func224.trans (congrArg some (by kernel_rfl))
  f318 := Tryz.func226.trans (congrArg some (by kernel_rfl))
  f319 := Tryz.func227.trans (congrArg some (by kernel_rfl))
  f320 := Tryz.func228.trans (congrArg some (by kernel_rfl))
  f321 := Tryz.func234.trans (congrArg some (by kernel_rfl))
  f322 := Tryz.func235.trans (congrArg some (by kernel_rfl))
  f337 := Tryz.func232.trans (congrArg some (by kernel_rfl))
  f338 := Tryz.func233.trans (congrArg some (by kernel_rfl))
  t0 := Tryz.underlying0
  a0 := Tryz.isAgg0
  z0 := Tryz.sizeOf0
  v0 := Tryz.zeroValue0
  t2 := Tryz.underlying2
  a2 := Tryz.isAgg2
  z2 := Tryz.sizeOf2
  v2 := Tryz.zeroValue2
  t3 := Tryz.underlying3
  a3 := Tryz.isAgg3
  z3 := Tryz.sizeOf3
  v3 := Tryz.zeroValue3
  t4 := Tryz.underlying4
  a4 := Tryz.isAgg4
  z4 := Tryz.sizeOf4
  v4 := Tryz.zeroValue4
  t5 := Tryz.underlying5
  a5 := Tryz.isAgg5
  z5 := Tryz.sizeOf5
  v5 := Tryz.zeroValue5
  t9 := Tryz.underlying9
  a9 := Tryz.isAgg9
  z9 := Tryz.sizeOf9
  v9 := Tryz.zeroValue9
  t20 := Tryz.underlying20
  a20 := Tryz.isAgg20
  z20 := Tryz.sizeOf20
  v20 := Tryz.zeroValue20
  t21 := Tryz.underlying21
  a21 := Tryz.isAgg21
  z21 := Tryz.sizeOf21
  v21 := Tryz.zeroValue21
  t37 := Tryz.underlying28
  a37 := Tryz.isAgg28
  z37 := Tryz.sizeOf28
  v37 := Tryz.zeroValue28
  t46 := Tryz.underlying98
  a46 := Tryz.isAgg98
  z46 := Tryz.sizeOf98
  v46 := Tryz.zeroValue98
  t51 := Tryz.underlying301
  a51 := Tryz.isAgg301
  z51 := Tryz.sizeOf301
  v51 := Tryz.zeroValue301
  t53 := Tryz.underlying29
  a53 := Tryz.isAgg29
  z53 := Tryz.sizeOf29
  v53 := Tryz.zeroValue29
  t75 := Tryz.underlying119
  a75 := Tryz.isAgg119
  z75 := Tryz.sizeOf119
  v75 := Tryz.zeroValue119
  t76 := Tryz.underlying120
  a76 := Tryz.isAgg120
  z76 := Tryz.sizeOf120
  v76 := Tryz.zeroValue120
  t85 := Tryz.underlying294
  a85 := Tryz.isAgg294
  z85 := Tryz.sizeOf294
  v85 := Tryz.zeroValue294
  t127 := Tryz.underlying188
  a127 := Tryz.isAgg188
  z127 := Tryz.sizeOf188
  v127 := Tryz.zeroValue188
  t143 := Tryz.underlying312
  a143 := Tryz.isAgg312
  z143 := Tryz.sizeOf312
  v143 := Tryz.zeroValue312
  t145 := Tryz.underlying314
  a145 := Tryz.isAgg314
  z145 := Tryz.sizeOf314
  v145 := Tryz.zeroValue314
  t167 := Tryz.underlying293
  a167 := Tryz.isAgg293
  z167 := Tryz.sizeOf293
  v167 := Tryz.zeroValue293
  t168 := Tryz.underlying296
  a168 := Tryz.isAgg296
  z168 := Tryz.sizeOf296
  v168 := Tryz.zeroValue296
  t171 := Tryz.underlying288
  a171 := Tryz.isAgg288
  z171 := Tryz.sizeOf288
  v171 := Tryz.zeroValue288
  t173 := Tryz.underlying291
  a173 := Tryz.isAgg291
  z173 := Tryz.sizeOf291
  v173 := Tryz.zeroValue291
  t175 := Tryz.underlying304
  a175 := Tryz.isAgg304
  z175 := Tryz.sizeOf304
  v175 := Tryz.zeroValue304
  t210 := Tryz.underlying308
  a210 := Tryz.isAgg308
  z210 := Tryz.sizeOf308
  v210 := Tryz.zeroValue308
  t212 := Tryz.underlying300
  a212 := Tryz.isAgg300
  z212 := Tryz.sizeOf300
  v212 := Tryz.zeroValue300
  t213 := Tryz.underlying302
  a213 := Tryz.isAgg302
  z213 := Tryz.sizeOf302
  t232 := Tryz.underlying315
  a232 := Tryz.isAgg315
  z232 := Tryz.sizeOf315
  v232 := Tryz.zeroValue315
  t233 := Tryz.underlying316
  a233 := Tryz.isAgg316
  z233 := Tryz.sizeOf316
  v233 := Tryz.zeroValue316
  g15 := by kernel_rfl
  g16 := by kernel_rfl
  g17 := by kernel_rfl
  g18 := by kernel_rfl
  g19 := by kernel_rfl
  t80 := Tryz.underlying137
  a80 := Tryz.isAgg137
  z80 := Tryz.sizeOf137
  v80 := Tryz.zeroValue137
  i0 := by kernel_rfl
  i2 := by kernel_rfl
  i3 := by kernel_rfl
  i4 := by kernel_rfl
  i5 := by kernel_rfl
  i9 := by kernel_rfl
  i20 := by kernel_rfl
  i21 := by kernel_rfl
  i37 := by kernel_rfl
  i46 := by kernel_rfl
  i51 := by kernel_rfl
  i53 := by kernel_rfl
  i75 := by kernel_rfl
  i76 := by kernel_rfl
  i80 := by kernel_rfl
  i85 := by kernel_rfl
  i127 := by kernel_rfl
  i143 := by kernel_rfl
  i145 := by kernel_rfl
  i167 := by kernel_rfl
  i168 := by kernel_rfl
  i171 := by kernel_rfl
  i173 := by kernel_rfl
  i175 := by kernel_rfl
  i210 := by kernel_rfl
  i212 := by kernel_rfl
  i232 := by kernel_rfl
  i233 := by kernel_rfl
  m15 := by kernel_rfl
  m16 := by kernel_rfl
  m17 := by kernel_rfl
  m18 := by kernel_rfl
  m19 := by kernel_rfl
  c0 := by kernel_rfl
  c2 := by kernel_rfl
  c3 := by kernel_rfl
  c4 := by kernel_rfl
  c5 := by kernel_rfl
  c9 := by kernel_rfl
  c20 := by kernel_rfl
  c21 := by kernel_rfl
  c37 := by kernel_rfl
  c46 := by kernel_rfl
  c51 := by kernel_rfl
  c53 := by kernel_rfl
  c75 := by kernel_rfl
  c76 := by kernel_rfl
  c80 := by kernel_rfl
  c85 := by kernel_rfl
  c127 := by kernel_rfl
  c143 := by kernel_rfl
  c145 := by kernel_rfl
  c167 := by kernel_rfl
  c168 := by kernel_rfl
  c171 := by kernel_rfl
  c173 := by kernel_rfl
  c175 := by kernel_rfl
  c210 := by kernel_rfl
  c212 := by kernel_rfl
  c213 := by kernel_rfl
  c232 := by kernel_rfl
  c233 := by kernel_rfl }
open Go.RowKit in
open Go.RowKit in
open Go.RowKit in
open Go.RowKit in
open Go.RowKit in
open Go.RowKit in
open Go.RowKit in
open Go.RowKit in
open Go.RowKit in
open Go.RowKit in
open Go.RowKit in
open Go.RowKit in
/-- strconv.Atoi, AT EVERY STRING THAT SPELLS AN int ('Lib.atoiAll .. = .ok v'; of whatever length: leading zeros count): v, AND NO ERROR. The world: as it was, or with the one new row that '[]byte(..)' lays. (LAID: no walk: one application.) -/
theorem Tryz.strconv_Atoi_ok (s : ByteArray) (hmax : s.size ≤ 9223372036854775806) (v : Int) (h : Lib.atoiAll s.data.toList = .ok v) (w : World) :
    Calls Tryz.prog 199 #[.string s] w fun e w' => e = .returned (.tuple #[.int .i64 v, .nilIface]) ∧ (w' = w ∨ ∃ t, w' = Lib.bytesWorld w 5 t) := Any.strconv_Atoi_ok Tryz.laysC172 s hmax v h w
open Go.RowKit in
open Go.RowKit in
open Go.RowKit in
theorem Tryz.strconv_Atoi_syntax_var (s : ByteArray) (hlim : s.size ≤ 281474976710656) (h : Lib.atoiAll s.data.toList = Lib.NumEnd.syntax) (tp : TypeId) (p : Value) (w : World) (hvar : w.var? Tryz.prog "strconv.ErrSyntax" = some #[.iface tp p]) :
    Calls Tryz.prog 199 #[.string s] w fun e w' => ∃ N, e = .returned (.tuple #[.int .i64 0, .iface 296 (.pointer (some ⟨N, 0, none⟩))]) ∧ w.heap.size ≤ N ∧ w'.heap[N]? = some (.cells #[.string ⟨#[65, 116, 111, 105]⟩, .string s, .iface tp p] 308 (0, 0)) ∧ Below w.heap.size w w' := Any.strconv_Atoi_syntax_var Tryz.laysC172 s hlim h tp p w hvar
open Go.RowKit in
theorem Tryz.strconv_Atoi_range_var (s : ByteArray) (hlim : s.size ≤ 281474976710656) (h : Lib.atoiAll s.data.toList = .range) (tp : TypeId) (p : Value) (w : World) (hvar : w.var? Tryz.prog "strconv.ErrRange" = some #[.iface tp p]) :
    Calls Tryz.prog 199 #[.string s] w fun e w' => ∃ N, e = .returned (.tuple #[.int .i64 (Lib.atoiSat s.data.toList), .iface 296 (.pointer (some ⟨N, 0, none⟩))]) ∧ w.heap.size ≤ N ∧ w'.heap[N]? = some (.cells #[.string ⟨#[65, 116, 111, 105]⟩, .string s, .iface tp p] 308 (0, 0)) ∧ Below w.heap.size w w' := Any.strconv_Atoi_range_var Tryz.laysC172 s hlim h tp p w hvar
open Go.RowKit in
open Go.RowKit in
open Go.RowKit in
open Go.RowKit in
open Go.RowKit in
open Go.RowKit in
open Go.RowKit in
open Go.RowKit in
open Go.RowKit in
open Go.RowKit in
open Go.RowKit in
open Go.RowKit in
open Go.RowKit in
open Go.RowKit in
open Go.RowKit in
open Go.RowKit in
open Go.RowKit in
open Go.RowKit in
open Go.RowKit in
open Go.RowKit Go.Lib in
def Tryz.lays206_ren : Go.Shelf.Ren := ⟨fun | 206 => 197 | n => n, fun | 9 => 9 | 4 => 4 | 3 => 3 | n => n, fun | n => n⟩
open Go.RowKit Go.Lib in
def Tryz.lays99_ren : Go.Shelf.Ren := ⟨fun | 99 => 180 | 206 => 197 | n => n, fun | 9 => 9 | 4 => 4 | 3 => 3 | n => n, fun | n => n⟩
theorem Tryz.lays99 : Go.Proofs.Lays.n99 Tryz.prog Tryz.lays99_ren := {
  mixed := by kernel_rfl
  f99 := Tryz.func180.trans (congrArg some (by kernel_rfl))
  f206 := Tryz.func197.trans (congrArg some (by kernel_rfl))
  t3 := Tryz.underlying3
  a3 := Tryz.isAgg3
  z3 := Tryz.sizeOf3
  v3 := Tryz.zeroValue3
  t4 := Tryz.underlying4
  a4 := Tryz.isAgg4
  z4 := Tryz.sizeOf4
  v4 := Tryz.zeroValue4
  t9 := Tryz.underlying9
  a9 := Tryz.isAgg9
  z9 := Tryz.sizeOf9
  v9 := Tryz.zeroValue9 }
open Go.RowKit Go.Lib in
/-- strings.HasPrefix: "HasPrefix reports whether the string s begins with prefix.": IT RETURNS 'Lib.hasPrefix s prefix'; the world is as it was. (LAID: no walk: one application.) -/
theorem Tryz.strings_HasPrefix (s p : ByteArray) (w : World) :
    Calls Tryz.prog 180 #[.string s, .string p] w fun e w' => e = .returned (.bool (Lib.hasPrefix s.data.toList p.data.toList)) ∧ w' = w := Any.strings_HasPrefix Tryz.lays99 s p w
end Go.Proofs
/- The library's contracts in the words of the separation logic, and what the package-level variables hold. Own work over the shelf's contracts. -/
set_option linter.unusedSimpArgs false
set_option linter.unusedVariables false
namespace Go.Proofs.YtanhehbfbakdcaaGreatDoor
namespace Sl
open Go Go.RowKit

/-! ### 1. From a contract on worlds -/
theorem St.below {w0 w w' : World} {m : Mem} {L : List Res} (H : St w0 w m L) (h : Below w.heap.size w w') : St w0 w' m L :=
  H.same ⟨h.os, h.tape, h.output, h.size⟩ fun k hk => h.block k hk
theorem Spec.ofBelow {P : Program} {f : FuncId} {args : Array Value} {m : Mem} {R : Value → Prop} (h : ∀ w Lf, St w w m Lf → Calls P f args w fun e w' => ∃ v, e = .returned v ∧ R v ∧ Below w.heap.size w w') : Spec P f args m [] (RetF fun _ v => R v) := by
  intro w Lf H
  refine Calls.mono (h w Lf H) ?_
  rintro e w' ⟨v, rfl, hr, hb⟩
  exact ⟨m, [], Le.refl m, ⟨rfl, hr⟩, H.below hb⟩
theorem below_grow0 (w : World) (k : Nat) (os : Array Go.Obj) : Below w.heap.size w (Go.Sort.grow (w.drewN k) os) :=
  ⟨rfl, rfl, rfl, by simp [Go.Sort.grow], fun j hj => by
    show ((w.drewN k).heap ++ os)[j]? = _
    rw [show (w.drewN k).heap = w.heap from rfl, Array.getElem?_append_left hj]⟩

/-! ### 2. The package-level variables -/
/-- Block 'r' is a map whose entries are, in some order, those of 'l'. -/
def MapIs (m : Mem) (r : Nat) (l : List (Value × Value)) : Prop := ∃ es c, m r = some (.map es c) ∧ (es.toList.map fun e => (e.key, e.val)).Perm l ∧ (es.toList.map (·.born)).Nodup ∧ ∀ e ∈ es.toList, e.born < c
theorem MapIs.mono {m m' : Mem} {r : Nat} {l : List (Value × Value)} (h : MapIs m r l) (k : Le m m') : MapIs m' r l := by
  obtain ⟨es, c, h1, h2, h3, h4⟩ := h
  exact ⟨es, c, k _ _ h1, h2, h3, h4⟩
def ment (l : List (ByteArray × Value)) : List (Value × Value) := l.map fun p => (.string p.1, p.2)
def reservedL : List ByteArray := [⟨#[97, 100, 100]⟩, ⟨#[97, 116]⟩, ⟨#[99, 104, 97, 110]⟩, ⟨#[99, 111, 112, 121]⟩, ⟨#[105, 102]⟩, ⟨#[105, 110]⟩, ⟨#[105, 110, 105, 116]⟩, ⟨#[105, 110, 115, 116]⟩, ⟨#[107, 101, 101, 112]⟩, ⟨#[109, 101, 109]⟩, ⟨#[109, 111, 100, 117, 108, 101]⟩, ⟨#[111, 117, 116]⟩, ⟨#[112, 117, 116]⟩, ⟨#[114, 101, 103]⟩, ⟨#[116, 97, 107, 101]⟩, ⟨#[119, 105, 114, 101]⟩]
def opsL : List (ByteArray × Int) := [(⟨#[38]⟩, 3), (⟨#[43]⟩, 6), (⟨#[45]⟩, 7), (⟨#[46]⟩, 11), (⟨#[60]⟩, 9), (⟨#[61, 61]⟩, 8), (⟨#[94]⟩, 5), (⟨#[124]⟩, 4)]
def resV : List (ByteArray × Value) := reservedL.map fun k => (k, .bool true)
def opsV : List (ByteArray × Value) := opsL.map fun p => (p.1, .int .i64 p.2)
/-- What the variables that the code reads hold: two errors, the table of powers, two maps. -/
structure Glob (m : Mem) : Prop where
  errS : ∃ t p e fr, m 4 = some (.cells #[.iface t p] e fr)
  errR : ∃ t p e fr, m 5 = some (.cells #[.iface t p] e fr)
  pow : ∃ e fr, m 3 = some (.cells (Lib.pow10Tab.map fun z => Value.int .u64 z).toArray e fr)
  res : ∃ e fr r, m 0 = some (.cells #[.map (some r)] e fr) ∧ MapIs m r (ment resV)
  ops : ∃ e fr r, m 1 = some (.cells #[.map (some r)] e fr) ∧ MapIs m r (ment opsV)
theorem Glob.mono {m m' : Mem} (h : Glob m) (k : Le m m') : Glob m' where
  errS := by obtain ⟨t, p, e, fr, h1⟩ := h.errS; exact ⟨t, p, e, fr, k _ _ h1⟩
  errR := by obtain ⟨t, p, e, fr, h1⟩ := h.errR; exact ⟨t, p, e, fr, k _ _ h1⟩
  pow := by obtain ⟨e, fr, h1⟩ := h.pow; exact ⟨e, fr, k _ _ h1⟩
  res := by obtain ⟨e, fr, r, h1, h2⟩ := h.res; exact ⟨e, fr, r, k _ _ h1, h2.mono k⟩
  ops := by obtain ⟨e, fr, r, h1, h2⟩ := h.ops; exact ⟨e, fr, r, k _ _ h1, h2.mono k⟩
theorem globals_at : Tryz.prog.globalNamed "strconv.ErrSyntax" = some 4 ∧ Tryz.prog.globalNamed "strconv.ErrRange" = some 5 ∧ Tryz.prog.globalNamed "internal/strconv.uint64pow10" = some 3 := ⟨by kernel_rfl, by kernel_rfl, by kernel_rfl⟩
theorem St.tab {w0 w : World} {m : Mem} {L : List Res} (H : St w0 w m L) (G : Glob m) : Lib.TabIs Tryz.prog w "internal/strconv.uint64pow10" .u64 Lib.pow10Tab := by
  obtain ⟨e, fr, h⟩ := G.pow
  simp [Lib.TabIs, World.var?, globals_at.2.2, H.frz _ _ h]
theorem St.varS {w0 w : World} {m : Mem} {L : List Res} (H : St w0 w m L) (G : Glob m) : ∃ t p, w.var? Tryz.prog "strconv.ErrSyntax" = some #[.iface t p] := by
  obtain ⟨t, p, e, fr, h⟩ := G.errS
  exact ⟨t, p, by simp [World.var?, globals_at.1, H.frz _ _ h]⟩
theorem St.varR {w0 w : World} {m : Mem} {L : List Res} (H : St w0 w m L) (G : Glob m) : ∃ t p, w.var? Tryz.prog "strconv.ErrRange" = some #[.iface t p] := by
  obtain ⟨t, p, e, fr, h⟩ := G.errR
  exact ⟨t, p, by simp [World.var?, globals_at.2.1, H.frz _ _ h]⟩

/-! ### 3. Functions of the library -/
theorem c_HasPrefix {s p : ByteArray} {m : Mem} : Spec Tryz.prog 180 #[.string s, .string p] m [] (RetE (.bool (Lib.hasPrefix s.data.toList p.data.toList))) :=
  Spec.ofBelow fun w _ _ => (Tryz.strings_HasPrefix s p w).mono fun _ _ ⟨h1, h2⟩ => ⟨_, h1, rfl, h2 ▸ Below.refl _ _⟩
theorem c_IndexByte {s : ByteArray} {c : Int} {m : Mem} : Spec Tryz.prog 181 #[.string s, .int .u8 c] m [] (RetE (.int .i64 (Lib.indexByte s.data.toList c.toNat.toUInt8))) :=
  Spec.ofBelow fun w _ _ => (Tryz.strings_IndexByte s c w).mono fun _ _ ⟨h1, h2⟩ => ⟨_, h1, rfl, h2 ▸ Below.refl _ _⟩
theorem c_Itoa {n : Int} {m : Mem} (G : Glob m) (h0 : -9223372036854775808 ≤ n) (h1 : n ≤ 9223372036854775807) : Spec Tryz.prog 171 #[.int .i64 n] m [] (RetE (.string ⟨(Lib.itoa n).toArray⟩)) :=
  Spec.ofBelow fun w _ H => (Tryz.strconv_Itoa n h0 h1 w (H.tab G)).mono fun _ _ ⟨h1, k, os, h2⟩ => ⟨_, h1, rfl, h2 ▸ below_grow0 w k os⟩
/-- How Atoi ends: a number and no error, or an error. -/
def AtoiR (l : List UInt8) (v : Value) : Prop := (∃ n : Int, Lib.atoiAll l = .ok n ∧ v = .tuple #[.int .i64 n, .nilIface]) ∨ ((∀ n, Lib.atoiAll l ≠ .ok n) ∧ ∃ n t p, v = .tuple #[.int .i64 n, .iface t p])
theorem c_Atoi {s : ByteArray} {m : Mem} (G : Glob m) (hl : s.size ≤ 281474976710656) : Spec Tryz.prog 199 #[.string s] m [] (RetF fun _ v => AtoiR s.data.toList v) :=
  Spec.ofBelow fun w _ H => by
    cases h : Lib.atoiAll s.data.toList with
    | ok n =>
      refine (Tryz.strconv_Atoi_ok s (by omega) n h w).mono ?_
      rintro e w' ⟨h1, h2⟩
      refine ⟨_, h1, .inl ⟨n, h, rfl⟩, ?_⟩
      rcases h2 with rfl | ⟨t, rfl⟩
      · exact Below.refl _ _
      · exact Lib.bytesWorld_below w _ t
    | range =>
      obtain ⟨t, p, hv⟩ := H.varR G
      refine (Tryz.strconv_Atoi_range_var s hl h t p w hv).mono ?_
      rintro e w' ⟨N, h1, _, _, h2⟩
      exact ⟨_, h1, .inr ⟨fun n hn => (by rw [h] at hn; cases hn), _, _, _, rfl⟩, h2⟩
    | _ =>
      obtain ⟨t, p, hv⟩ := H.varS G
      refine (Tryz.strconv_Atoi_syntax_var s hl h t p w hv).mono ?_
      rintro e w' ⟨N, h1, _, _, h2⟩
      exact ⟨_, h1, .inr ⟨fun n hn => (by rw [h] at hn; cases hn), _, _, _, rfl⟩, h2⟩
section
variable {P : Program} {n : Nat} {a : Act} {F : List (Nat × Value)} {D : List Deferred} {w : World} {x y : Operand} {t t' : Nat}
theorem eval_const {a : Act} {v : Value} : a.eval (.const v) = v := rfl
theorem equal_nils {ms : Array (String × TypeId)} (hu : P.underlying t = some (.interface ms)) : (Op.equal t .nilIface .nilIface).run P w = .ok true w := by
  unfold Op.equal
  rw [show Op.maxDepth = 9999 + 1 from rfl]
  generalize 9999 = dd
  simp only [Op.equalIn, Sem.run_bind, run_underlying hu, Result.andThen_ok, Sem.run_pure]
theorem equal_some {ms : Array (String × TypeId)} {q : Nat} {v : Value} (hu : P.underlying t = some (.interface ms)) : (Op.equal t (.iface q v) .nilIface).run P w = .ok false w := by
  unfold Op.equal
  rw [show Op.maxDepth = 9999 + 1 from rfl]
  generalize 9999 = dd
  simp only [Op.equalIn, Sem.run_bind, run_underlying hu, Result.andThen_ok, Sem.run_pure]
def ifaceT (P : Program) (t : Nat) : Bool := (P.underlying t).map (fun d => match d with | .interface _ => true | _ => false) == some true
theorem ifaceT_spec (h : ifaceT P t = true) : ∃ ms, P.underlying t = some (.interface ms) := by
  unfold ifaceT at h
  cases hu : P.underlying t with
  | none => simp [hu] at h
  | some d => cases d <;> simp [hu] at h; exact ⟨_, rfl⟩
theorem Runs.nilErr (A : Fr n a F D) (hx : ev F x = some .nilIface) (ht : ifaceT P t = true) : Runs P a w (.binOp .neq t x (.const .nilIface) t') (.bool false) := by
  intro _ _ _ _ _
  obtain ⟨ms, hu⟩ := ifaceT_spec ht
  have e := equal_nils (w := w) hu
  have g : (eqGuard .neq t x (.const .nilIface) .nilIface .nilIface).run P w = .ok () w := by simp [eqGuard]
  simp only [execOp, A.ev hx, eval_const, Sem.run_bind, g, Result.andThen_ok, binOp, e, Sem.run_pure, Bool.not_true]
theorem Runs.someErr {q : Nat} {v : Value} (A : Fr n a F D) (hx : ev F x = some (.iface q v)) (ht : ifaceT P t = true) : Runs P a w (.binOp .neq t x (.const .nilIface) t') (.bool true) := by
  intro _ _ _ _ _
  obtain ⟨ms, hu⟩ := ifaceT_spec ht
  have e := equal_some (w := w) (q := q) (v := v) hu
  have g : (eqGuard .neq t x (.const .nilIface) (.iface q v) .nilIface).run P w = .ok () w := by simp [eqGuard]
  simp only [execOp, A.ev hx, eval_const, Sem.run_bind, g, Result.andThen_ok, binOp, e, Sem.run_pure, Bool.not_false]
end
end Sl
end Go.Proofs.YtanhehbfbakdcaaGreatDoor
/- From the row's listed variables to Glob. Own work. -/
set_option linter.unusedSimpArgs false
set_option linter.unusedVariables false
namespace Go.Proofs.YtanhehbfbakdcaaGreatDoor
namespace Sl
open Go Go.RowKit Go.ChangeShapes Go.WideShapes Go.Deep
section
variable {H : Type} {enc : TypeId × Value → H} {P : Program} {w : World} {base : Nat} {sp : Nat → Bool} {held : Bool}
theorem iface_cell {t fuel : Nat} {cs : List Value} {nm : String} {d : DataW H} {p : List MemPlace} {ms : Array (String × TypeId)} (ht : P.underlying t = some (.interface ms))
    (h : DataW.trod enc P w base sp held fuel t cs = some (.iface nm d, p)) : ∃ u v, cs = [.iface u v] := by
  cases fuel with
  | zero => simp [DataW.trod] at h
  | succ n =>
    rw [DataW.trod_step] at h
    unfold DataW.trodStep at h
    rw [ht] at h
    split at h <;> simp_all
theorem mapM_pair {α β γ : Type} {f : α → Option β} {g : α → γ} {k : β → γ} : ∀ {l : List α} {r : List β}, l.mapM f = some r → (∀ x ∈ l, ∀ y, f x = some y → g x = k y) → l.map g = r.map k := by
  intro l
  induction l with
  | nil => intro r h _; simp at h; subst h; rfl
  | cons a l ih =>
    intro r h hx
    rw [List.mapM_cons] at h
    cases ha : f a with
    | none => simp [ha] at h
    | some y =>
      cases hl : l.mapM f with
      | none => simp [ha, hl] at h
      | some ys =>
        simp [ha, hl] at h
        subst h
        rw [List.map_cons, List.map_cons, hx a (by simp) y ha, ih hl fun x hm => hx x (by simp [hm])]
def decL : Lit → Value
  | .string l => .string ⟨l.toArray⟩
  | .bool b => .bool b
  | .int k z => .int k z
  | _ => .nilIface
def dec (p : Lit × DataW H) : Value × Value := (decL p.1, match p.2 with | .lit l => decL l | _ => .nilIface)
def strMap (P : Program) (t : Nat) : Bool := match P.underlying t with
  | some (.map k e) => (match P.underlying k with | some .string => true | _ => false) && (match P.underlying e with | some .bool => true | some (.int _) => true | _ => false)
  | _ => false
theorem strMap_spec {t : Nat} (h : strMap P t = true) : ∃ k e, P.underlying t = some (.map k e) ∧ P.underlying k = some .string ∧ (P.underlying e = some .bool ∨ ∃ kd, P.underlying e = some (.int kd)) := by
  unfold strMap at h
  split at h
  · rename_i k e hu
    simp only [Bool.and_eq_true] at h
    refine ⟨k, e, hu, ?_, ?_⟩
    · have := h.1
      split at this
      · assumption
      · cases this
    · have := h.2
      split at this
      · exact .inl (by assumption)
      · exact .inr ⟨_, by assumption⟩
      · cases this
  · cases h
theorem key_of {k : Nat} (hk : P.underlying k = some .string) {v : Value} {l : Lit} (h : keyOf P k v = some l) : v = decL l := by
  rw [keyOf_string hk] at h
  unfold mapKey at h
  rw [hk] at h
  split at h <;> simp_all [decL]
  obtain ⟨_, rfl⟩ := h
  rfl
theorem val_of {e fuel : Nat} (he : P.underlying e = some .bool ∨ ∃ kd, P.underlying e = some (.int kd)) {v : Value} {y : DataW H × List MemPlace} (hf : v.formed P e = true)
    (h : DataW.trod enc P w base sp held fuel e v.cells.toList = some y) : v = (match y.1 with | .lit l => decL l | _ => .nilIface) := by
  have one : ∀ x, v.cells.toList = [x] → v = x := by
    intro x hx
    cases v <;> simp_all [Value.cells]
    rcases he with he | ⟨kd, he⟩ <;> simp [Value.formed, he] at hf
  rcases he with he | ⟨kd, he⟩
  · obtain ⟨b, h1, rfl⟩ := DataW.trod_bool he h
    exact one _ h1
  · obtain ⟨n, h1, rfl, _⟩ := DataW.trod_int he h
    exact one _ h1
theorem open_mapS {t fuel : Nat} {cs : List Value} {l : List (Lit × DataW H)} {p : List MemPlace} (ht : strMap P t = true)
    (h : DataW.trod enc P w base sp held fuel t cs = some (.map l, p)) :
    ∃ r es c, cs = [.map (some r)] ∧ w.heap[r]? = some (.map es c) ∧ (es.toList.map fun e => (e.key, e.val)).Perm (l.map dec) ∧ (es.toList.map (·.born)).Nodup ∧ ∀ e ∈ es.toList, e.born < c := by
  obtain ⟨k, e, ht, hk, he⟩ := strMap_spec ht
  cases fuel with
  | zero => simp [DataW.trod] at h
  | succ n =>
    rw [DataW.trod_step] at h
    unfold DataW.trodStep at h
    rw [ht] at h
    match cs, h with
    | [.map (some b)], h =>
      cases hb : w.heap[b]? with
      | none => simp [hb] at h
      | some o =>
        cases o with
        | map es clock =>
          simp only [hb] at h
          split at h
          · rename_i hc
            obtain ⟨c1, c2, c3, c4⟩ := hc
            simp only [Option.bind_eq_some_iff] at h
            obtain ⟨E, hE, h3⟩ := h
            split at h3
            · have hl : (E.map (·.1)).foldr DataW.insert [] = l := by simpa using congrArg (fun o => o.map (·.1)) h3
              refine ⟨b, es, clock, rfl, hb, ?_, ChangeMaps.nodup_of_eraseDups _ (by rw [c4]; simp), fun y hy => ?_⟩
              · have e1 : es.toList.map (fun e => (e.key, e.val)) = E.map (fun q => dec q.1) := mapM_pair hE fun x _ y hy => by
                  obtain ⟨key, h1, h2⟩ := Option.bind_eq_some_iff.1 hy
                  split at h2
                  · rename_i hfm
                    obtain ⟨z, hz, rfl⟩ := Option.map_eq_some_iff.1 h2
                    simp only [dec]
                    rw [key_of hk h1, ← val_of he hfm hz]
                  · cases h2
                rw [e1, ← hl, show E.map (fun q => dec q.1) = (E.map (·.1)).map dec by simp]
                exact ((sorted_perm _).map dec).symm
              · rw [← Array.all_toList] at c3
                simpa using List.all_eq_true.1 c3 y hy
            · cases h3
          · cases h
        | _ => simp [hb] at h
    | [.map none], h => simp at h
end
section
variable {P : Program} {w : World}
theorem laid_at {n : String} {d : DataW Unit} : ∀ {l : List (String × DataW Unit)} {ps : List MemPlace}, (n, d) ∈ l → DataW.LaidVars P w l ps →
    ∃ g t cs fuel p, P.globalNamed n = some g ∧ (P.globals[g]?).map (·.type) = some t ∧ w.var? P n = some cs ∧ DataW.trod (fun _ => ()) P w 0 (fun _ => true) false fuel t cs.toList = some (d, p)
  | [], _, h, _ => by cases h
  | (n', d') :: r, _, h, hv => by
    obtain ⟨g, t, cs, fuel, p, q, h1, h2, h3, h4, hq, rfl⟩ := hv
    rcases List.mem_cons.1 h with e | e
    · cases e; exact ⟨g, t, cs, fuel, p, h1, h2, h3, h4⟩
    · exact laid_at e hq
theorem var_cells {n : String} {g : Nat} {cs : Array Value} (hg : P.globalNamed n = some g) (h : w.var? P n = some cs) : ∃ e fr, w.heap[g]? = some (.cells cs e fr) := by
  unfold World.var? at h
  simp only [hg, Option.bind_some] at h
  cases hh : w.heap[g]? with
  | none => simp [hh] at h
  | some o => cases o <;> simp [hh] at h; subst h; exact ⟨_, _, rfl⟩
def gType (P : Program) (n : String) (f : Nat → Bool) : Bool := match P.globalNamed n with
  | some g => (match (P.globals[g]?).map (·.type) with | some t => f t | none => false)
  | none => false
theorem gType_spec {n : String} {f : Nat → Bool} {g t : Nat} (h : gType P n f = true) (hg : P.globalNamed n = some g) (ht : (P.globals[g]?).map (·.type) = some t) : f t = true := by
  unfold gType at h
  simpa [hg, ht] using h
theorem laid_err {n nm : String} {d : DataW Unit} {l : List (String × DataW Unit)} {ps : List MemPlace} {g : Nat} (hg : P.globalNamed n = some g) (hT : gType P n (ifaceT P) = true) (hm : (n, .iface nm d) ∈ l) (hV : DataW.LaidVars P w l ps) :
    ∃ t p e fr, all w g = some (.cells #[.iface t p] e fr) := by
  obtain ⟨g', t, cs, fuel, p, h1, h2, h3, h4⟩ := laid_at hm hV
  obtain rfl := Option.some.inj (hg.symm.trans h1)
  obtain ⟨ms, hu⟩ := ifaceT_spec (gType_spec hT h1 h2)
  obtain ⟨u, v, hcs⟩ := iface_cell hu h4
  obtain ⟨e, fr, hh⟩ := var_cells h1 h3
  have : cs = #[.iface u v] := by cases cs; simp_all
  subst this
  exact ⟨u, v, e, fr, hh⟩
theorem laid_map {n : String} {q : List (Lit × DataW Unit)} {l : List (String × DataW Unit)} {ps : List MemPlace} {g : Nat} {vs : List (Value × Value)} (hg : P.globalNamed n = some g) (hT : gType P n (strMap P) = true) (hm : (n, .map q) ∈ l) (hV : DataW.LaidVars P w l ps) (hq : q.map dec = vs) :
    ∃ e fr r, all w g = some (.cells #[.map (some r)] e fr) ∧ MapIs (all w) r vs := by
  obtain ⟨g', t, cs, fuel, p, h1, h2, h3, h4⟩ := laid_at hm hV
  obtain rfl := Option.some.inj (hg.symm.trans h1)
  obtain ⟨r, es, c, hcs, hr, hp, hnd, hbc⟩ := open_mapS (gType_spec hT h1 h2) h4
  obtain ⟨e, fr, hh⟩ := var_cells h1 h3
  have : cs = #[.map (some r)] := by cases cs; simp_all
  subst this
  exact ⟨e, fr, r, hh, es, c, hr, hq ▸ hp, hnd, hbc⟩
def arrT (P : Program) (n : Nat) (t : Nat) : Bool := match P.underlying t with
  | some (.array m e) => m == n && (match P.underlying e with | some (.int .u64) => true | _ => false) && P.cellsOf e == 1 && P.cellsOf t == n
  | _ => false
theorem laid_pow {n : String} {zs : List Int} {l : List (String × DataW Unit)} {ps : List MemPlace} {g : Nat} {d : DataW Unit} (hg : P.globalNamed n = some g) (hT : gType P n (arrT P zs.length) = true) (hm : (n, d) ∈ l) (hV : DataW.LaidVars P w l ps) (hd : d = Lib.tabData .u64 zs) :
    ∃ e fr, all w g = some (.cells (zs.map fun z => Value.int .u64 z).toArray e fr) := by
  subst hd
  obtain ⟨g', t, cs, fuel, p, h1, h2, h3, h4⟩ := laid_at hm hV
  obtain rfl := Option.some.inj (hg.symm.trans h1)
  have hT' := gType_spec hT h1 h2
  unfold arrT at hT'
  split at hT'
  · rename_i m e hu
    simp only [Bool.and_eq_true, beq_iff_eq] at hT'
    obtain ⟨⟨⟨rfl, a2⟩, a3⟩, a4⟩ := hT'
    have a2' : P.underlying e = some (.int .u64) := by
      split at a2
      · assumption
      · cases a2
    have := Lib.cells_of_tab hu a2' a3 a4 h4
    obtain ⟨e, fr, hh⟩ := var_cells h1 h3
    refine ⟨e, fr, ?_⟩
    have : cs = (zs.map fun z => Value.int .u64 z).toArray := by cases cs; simp_all
    rw [← this]; exact hh
  · cases hT'
end

/-! ### The program's own -/
def lRow : List (String × DataW Unit) := [("math/bits.deBruijn32tab", Rows.laid_math_bits_deBruijn32tab), ("math/bits.deBruijn64tab", Rows.laid_math_bits_deBruijn64tab), ("internal/strconv.uint64pow10", Rows.laid_internal_strconv_uint64pow10), ("strconv.ErrRange", Rows.laid_strconv_ErrRange), ("strconv.ErrSyntax", Rows.laid_strconv_ErrSyntax), ("wireloom/syntax.reserved", Rows.laid_wireloom_syntax_reserved), ("wireloom/syntax.operators", Rows.laid_wireloom_syntax_operators)]
theorem pow_data : (Rows.laid_internal_strconv_uint64pow10 : DataW Unit) = Lib.tabData .u64 Lib.pow10Tab := by kernel_rfl
theorem glob_of_laid {W : World} (h : laidMetH Tryz.prog lRow W) : Glob (all W) := by
  rw [MakeChecks.laidMetH_plain _ _ _ (by kernel_rfl)] at h
  obtain ⟨ps, hV, _, _⟩ := h
  exact {
    errS := laid_err (n := "strconv.ErrSyntax") (by kernel_rfl) (by kernel_rfl) (.tail _ (.tail _ (.tail _ (.tail _ (.head _))))) hV
    errR := laid_err (n := "strconv.ErrRange") (by kernel_rfl) (by kernel_rfl) (.tail _ (.tail _ (.tail _ (.head _)))) hV
    pow := laid_pow (n := "internal/strconv.uint64pow10") (by kernel_rfl) (by kernel_rfl) (.tail _ (.tail _ (.head _))) hV pow_data
    res := laid_map (n := "wireloom/syntax.reserved") (by kernel_rfl) (by kernel_rfl) (.tail _ (.tail _ (.tail _ (.tail _ (.tail _ (.head _)))))) hV (by kernel_rfl)
    ops := laid_map (n := "wireloom/syntax.operators") (by kernel_rfl) (by kernel_rfl) (.tail _ (.tail _ (.tail _ (.tail _ (.tail _ (.tail _ (.head _))))))) hV (by kernel_rfl) }
end Sl
end Go.Proofs.YtanhehbfbakdcaaGreatDoor
