/- A small separation logic over the kit's walk: frozen memory 'm', owned blocks 'L', frames as lists of facts. Own work; nothing about a program stands here. -/
import Derived.WalkKit
import Derived.WalkLawsBesides
import Derived.Maps.AppendAt
import Derived.Laws.CopyRow
import Derived.OrdersHeld
import Derived.KernelRfl
namespace Go.Proofs.YtanhehbfbakdcaaGreatDoor
namespace Sl
open Go Go.RowKit

/-! ### 1. Memory -/
abbrev Mem := Nat → Option Obj
def Le (m m' : Mem) : Prop := ∀ b o, m b = some o → m' b = some o
theorem Le.refl (m : Mem) : Le m m := fun _ _ h => h
theorem Le.trans {a b c : Mem} (h : Le a b) (k : Le b c) : Le a c := fun _ _ x => k _ _ (h _ _ x)
def single (b : Nat) (o : Obj) : Mem := fun k => if k = b then some o else none
def Res := Mem → Prop
def Holds : List Res → Mem → Prop
  | [], h => ∀ b, h b = none
  | r :: L, h => ∃ h1 h2, r h1 ∧ Holds L h2 ∧ (∀ b, h1 b = none ∨ h2 b = none) ∧ ∀ b, h b = (h1 b).or (h2 b)

structure Kep (w0 w : World) : Prop where
  os : w.os = w0.os
  tape : w.tape = w0.tape
  output : w.output = w0.output
  size : w0.heap.size ≤ w.heap.size
theorem Kep.refl (w : World) : Kep w w := ⟨rfl, rfl, rfl, Nat.le_refl _⟩
theorem Kep.trans {a b c : World} (h : Kep a b) (k : Kep b c) : Kep a c := ⟨k.os.trans h.os, k.tape.trans h.tape, k.output.trans h.output, Nat.le_trans h.size k.size⟩

structure St (w0 w : World) (m : Mem) (L : List Res) : Prop where
  io : Kep w0 w
  frz : ∀ b o, m b = some o → w.heap[b]? = some o
  own : ∃ h, Holds L h ∧ ∀ b o, h b = some o → w.heap[b]? = some o ∧ m b = none

theorem Holds.perm {L L' : List Res} (p : L.Perm L') : ∀ {h}, Holds L h → Holds L' h := by
  induction p with
  | nil => exact fun x => x
  | cons r _ ih => rintro h ⟨h1, h2, a, b, c, d⟩; exact ⟨h1, h2, a, ih b, c, d⟩
  | swap r s l =>
    rintro h ⟨h1, h2, a, ⟨h3, h4, b, c, d, e⟩, f, g⟩
    refine ⟨h3, fun k => (h1 k).or (h4 k), b, ⟨h1, h4, a, c, fun k => ?_, fun _ => rfl⟩, fun k => ?_, fun k => ?_⟩
    · rcases f k with x | x
      · exact .inl x
      · rw [e] at x; exact .inr (by cases hh : h3 k <;> simp_all)
    · rcases f k with x | x
      · rcases d k with y | y
        · exact .inl y
        · exact .inr (by simp [x, y])
      · rw [e] at x; exact .inl (by cases hh : h3 k <;> simp_all)
    · rw [g, e]
      rcases f k with x | x
      · simp [x]
      · rw [e] at x
        cases hh : h3 k <;> simp_all
  | trans _ _ i j => exact fun x => j (i x)

theorem St.perm {w0 w : World} {m : Mem} {L L' : List Res} (H : St w0 w m L) (p : L.Perm L') : St w0 w m L' := by
  obtain ⟨a, b, h, c, d⟩ := H
  exact ⟨a, b, h, c.perm p, d⟩

theorem St.mapHead {w0 w : World} {m : Mem} {r s : Res} {L : List Res} (H : St w0 w m (r :: L)) (k : ∀ h, r h → s h) : St w0 w m (s :: L) := by
  obtain ⟨a, b, h, ⟨h1, h2, x, y, z, u⟩, d⟩ := H
  exact ⟨a, b, h, ⟨h1, h2, k _ x, y, z, u⟩, d⟩

theorem St.drop {w0 w : World} {m : Mem} {r : Res} {L : List Res} (H : St w0 w m (r :: L)) : St w0 w m L := by
  obtain ⟨a, b, h, ⟨h1, h2, x, y, z, u⟩, d⟩ := H
  refine ⟨a, b, h2, y, fun k o hk => d k o ?_⟩
  rw [u]
  rcases z k with hz | hz
  · simp [hz, hk]
  · rw [hz] at hk; cases hk

/-- 'L' is 'r' and 'L''. -/
def Take (L : List Res) (r : Res) (L' : List Res) : Prop := L.Perm (r :: L')
theorem Take.head {r : Res} {L : List Res} : Take (r :: L) r L := .refl _
theorem Take.tail {r s : Res} {L L' : List Res} (h : Take L r L') : Take (s :: L) r (s :: L') := (List.Perm.cons s h).trans (.swap r s L')
theorem St.take {w0 w : World} {m : Mem} {r : Res} {L L' : List Res} (H : St w0 w m L) (t : Take L r L') : St w0 w m (r :: L') := H.perm t

/-! ### 2. Blocks of cells -/
def ob (b : Nat) (o : Obj) : Res := fun h => h = single b o
@[reducible] def pt (b : Nat) (cs : List Value) (t : TypeId) : Res := ob b (.cells cs.toArray t (0, 0))
def emp : Res := fun h => ∀ b, h b = none
def pure (p : Prop) : Res := fun h => p ∧ ∀ b, h b = none
def ex {α : Type} (r : α → Res) : Res := fun h => ∃ x, r x h
def star (r s : Res) : Res := fun h => ∃ h1 h2, r h1 ∧ s h2 ∧ (∀ b, h1 b = none ∨ h2 b = none) ∧ ∀ b, h b = (h1 b).or (h2 b)

theorem St.unpure {w0 w : World} {m : Mem} {p : Prop} {L : List Res} (H : St w0 w m (pure p :: L)) : p ∧ St w0 w m L := by
  refine ⟨?_, H.drop⟩
  obtain ⟨_, _, _, ⟨_, _, x, _⟩, _⟩ := H
  exact x.1
theorem St.unex {w0 w : World} {m : Mem} {α : Type} {r : α → Res} {L : List Res} (H : St w0 w m (ex r :: L)) : ∃ x, St w0 w m (r x :: L) := by
  obtain ⟨a, b, h, ⟨h1, h2, ⟨x, hx⟩, y, z, u⟩, d⟩ := H
  exact ⟨x, a, b, h, ⟨h1, h2, hx, y, z, u⟩, d⟩
theorem St.mkpure {w0 w : World} {m : Mem} {p : Prop} {L : List Res} (H : St w0 w m L) (hp : p) : St w0 w m (pure p :: L) := by
  obtain ⟨a, b, h, y, d⟩ := H
  exact ⟨a, b, h, ⟨fun _ => none, h, ⟨hp, fun _ => rfl⟩, y, fun _ => .inl rfl, fun _ => by simp⟩, d⟩
theorem St.mkex {w0 w : World} {m : Mem} {α : Type} {r : α → Res} {L : List Res} {x : α} (H : St w0 w m (r x :: L)) : St w0 w m (ex r :: L) := H.mapHead fun _ h => ⟨x, h⟩
theorem St.unstar {w0 w : World} {m : Mem} {r s : Res} {L : List Res} (H : St w0 w m (star r s :: L)) : St w0 w m (r :: s :: L) := by
  obtain ⟨a, b, h, ⟨h1, h2, ⟨k1, k2, x1, x2, x3, x4⟩, y, z, u⟩, d⟩ := H
  refine ⟨a, b, h, ⟨k1, fun k => (k2 k).or (h2 k), x1, ⟨k2, h2, x2, y, fun k => ?_, fun _ => rfl⟩, fun k => ?_, fun k => ?_⟩, d⟩
  · rcases z k with q | q
    · rw [x4] at q; exact .inl (by cases hh : k1 k <;> simp_all)
    · exact .inr q
  · rcases x3 k with q | q
    · exact .inl q
    · rcases z k with v | v
      · rw [x4] at v; exact .inl (by cases hh : k1 k <;> simp_all)
      · exact .inr (by simp [q, v])
  · rw [u, x4, Option.or_assoc]
theorem St.mkstar {w0 w : World} {m : Mem} {r s : Res} {L : List Res} (H : St w0 w m (r :: s :: L)) : St w0 w m (star r s :: L) := by
  obtain ⟨a, b, h, ⟨h1, h2, x, ⟨k1, k2, y1, y2, y3, y4⟩, z, u⟩, d⟩ := H
  refine ⟨a, b, h, ⟨fun k => (h1 k).or (k1 k), k2, ⟨h1, k1, x, y1, fun k => ?_, fun _ => rfl⟩, y2, fun k => ?_, fun k => ?_⟩, d⟩
  · rcases z k with q | q
    · exact .inl q
    · rw [y4] at q; exact .inr (by cases hh : k1 k <;> simp_all)
  · rcases y3 k with q | q
    · rcases z k with v | v
      · exact .inl (by simp [q, v])
      · rw [y4] at v; exact .inr (by cases hh : k1 k <;> simp_all)
    · exact .inr q
  · rw [u, y4, Option.or_assoc]

theorem St.block {w0 w : World} {m : Mem} {b : Nat} {o : Obj} {L : List Res} (H : St w0 w m (ob b o :: L)) : w.heap[b]? = some o := by
  obtain ⟨_, _, h, ⟨h1, h2, rfl, y, z, u⟩, d⟩ := H
  refine (d b _ ?_).1
  rw [u]; simp [single]

/-- The owned block 'b' becomes something else, and nothing else has turned. -/
theorem St.update {w0 w w' : World} {m : Mem} {b : Nat} {o0 o1 : Obj} {L : List Res} (H : St w0 w m (ob b o0 :: L))
    (hio : Kep w w') (hb : w'.heap[b]? = some o1) (ho : ∀ k, k ≠ b → k < w.heap.size → w'.heap[k]? = w.heap[k]?) : St w0 w' m (ob b o1 :: L) := by
  have hlt : ∀ k o, w.heap[k]? = some o → k < w.heap.size := fun k o h => (Array.getElem?_eq_some_iff.1 h).1
  obtain ⟨a, c, h, ⟨h1, h2, rfl, y, z, u⟩, d⟩ := H
  have hmb : m b = none := (d b o0 (by rw [u]; simp [single])).2
  have h2b : h2 b = none := by
    rcases z b with q | q
    · simp [single] at q
    · exact q
  refine ⟨a.trans hio, fun k o hk => ?_, fun k => (single b o1 k).or (h2 k), ⟨single b _, h2, rfl, y, fun k => ?_, fun _ => rfl⟩, fun k o hk => ?_⟩
  · rw [ho k (fun e => by subst e; rw [hmb] at hk; cases hk) (hlt _ _ (c _ _ hk))]
    exact c _ _ hk
  · by_cases e : k = b
    · subst e; exact .inr h2b
    · exact .inl (by simp [single, e])
  · by_cases e : k = b
    · subst e
      simp [single] at hk
      subst hk
      exact ⟨hb, hmb⟩
    · have hk2 : h2 k = some o := by simpa [single, e] using hk
      have := d k o (by rw [u]; simp [single, e, hk2])
      exact ⟨by rw [ho k e (hlt _ _ this.1)]; exact this.1, this.2⟩

/-- A new block. -/
theorem St.new {w0 w w' : World} {m : Mem} {b : Nat} {o1 : Obj} {L : List Res} (H : St w0 w m L)
    (hio : Kep w w') (hb : w'.heap[b]? = some o1) (hnew : w.heap.size ≤ b) (ho : ∀ k, k < w.heap.size → w'.heap[k]? = w.heap[k]?) : St w0 w' m (ob b o1 :: L) := by
  have hlt : ∀ k o, w.heap[k]? = some o → k < w.heap.size := fun k o h => (Array.getElem?_eq_some_iff.1 h).1
  obtain ⟨a, c, h, y, d⟩ := H
  have hmb : m b = none := by
    cases hh : m b with
    | none => rfl
    | some o => exact absurd (hlt _ _ (c _ _ hh)) (by omega)
  have hhb : h b = none := by
    cases hh : h b with
    | none => rfl
    | some o => exact absurd (hlt _ _ (d _ _ hh).1) (by omega)
  refine ⟨a.trans hio, fun k o hk => by rw [ho k (hlt _ _ (c _ _ hk))]; exact c _ _ hk, fun k => (single b o1 k).or (h k), ⟨single b _, h, rfl, y, fun k => ?_, fun _ => rfl⟩, fun k o hk => ?_⟩
  · by_cases e : k = b
    · subst e; exact .inr hhb
    · exact .inl (by simp [single, e])
  · by_cases e : k = b
    · subst e
      simp [single] at hk
      subst hk
      exact ⟨hb, hmb⟩
    · have hk2 : h k = some o := by simpa [single, e] using hk
      have := d k o hk2
      exact ⟨by rw [ho k (hlt _ _ this.1)]; exact this.1, this.2⟩

theorem Kep.alloc (w : World) (o : Obj) : Kep w (w.alloc o) := ⟨rfl, rfl, rfl, by simp⟩
theorem St.alloc {w0 w : World} {m : Mem} {L : List Res} (H : St w0 w m L) (o : Obj) : St w0 (w.alloc o) m (ob w.heap.size o :: L) :=
  H.new (Kep.alloc _ _) (heap_alloc_new w _) (Nat.le_refl _) (fun k hk => Below.heap_alloc w _ k hk)

/-- Only draws. -/
theorem St.same {w0 w w' : World} {m : Mem} {L : List Res} (H : St w0 w m L) (hio : Kep w w') (ho : ∀ k, k < w.heap.size → w'.heap[k]? = w.heap[k]?) : St w0 w' m L := by
  have hlt : ∀ k o, w.heap[k]? = some o → k < w.heap.size := fun k o h => (Array.getElem?_eq_some_iff.1 h).1
  obtain ⟨a, c, h, y, d⟩ := H
  exact ⟨a.trans hio, fun k o hk => by rw [ho k (hlt _ _ (c _ _ hk))]; exact c _ _ hk, h, y, fun k o hk => ⟨by rw [ho k (hlt _ _ (d _ _ hk).1)]; exact (d _ _ hk).1, (d _ _ hk).2⟩⟩
theorem St.drewN {w0 w : World} {m : Mem} {L : List Res} (H : St w0 w m L) (n : Nat) : St w0 { w with drawn := n } m L := H.same ⟨rfl, rfl, rfl, Nat.le_refl _⟩ fun _ _ => rfl

/-- The frozen block 'b' holds these cells. -/
def fz (m : Mem) (b : Nat) (cs : List Value) : Prop := ∃ t fr, m b = some (.cells cs.toArray t fr)
theorem fz.mono {m m' : Mem} {b : Nat} {cs : List Value} (h : Le m m') (k : fz m b cs) : fz m' b cs := by
  obtain ⟨t, fr, x⟩ := k
  exact ⟨t, fr, h _ _ x⟩
theorem St.fzblock {w0 w : World} {m : Mem} {L : List Res} (H : St w0 w m L) {b : Nat} {cs : List Value} (h : fz m b cs) : ∃ t fr, w.heap[b]? = some (.cells cs.toArray t fr) := by
  obtain ⟨t, fr, x⟩ := h
  exact ⟨t, fr, H.frz _ _ x⟩
theorem St.freezeO {w0 w : World} {m : Mem} {b : Nat} {o1 : Obj} {L : List Res} (H : St w0 w m (ob b o1 :: L)) : ∃ m', Le m m' ∧ m' b = some o1 ∧ St w0 w m' L := by
  have hb := H.block
  obtain ⟨a, c, h, ⟨h1, h2, rfl, y, z, u⟩, d⟩ := H
  have hmb : m b = none := (d b o1 (by rw [u]; simp [single])).2
  have h2b : h2 b = none := by
    rcases z b with q | q
    · simp [single] at q
    · exact q
  refine ⟨fun k => if k = b then some o1 else m k, fun k o hk => ?_, by simp, a, fun k o hk => ?_, h2, y, fun k o hk => ?_⟩
  · have : k ≠ b := fun e => by subst e; rw [hmb] at hk; cases hk
    simp [this, hk]
  · by_cases e : k = b
    · subst e; simp at hk; subst hk; exact hb
    · simp [e] at hk; exact c _ _ hk
  · have e : k ≠ b := fun e => by subst e; rw [h2b] at hk; cases hk
    have := d k o (by rw [u]; simp [single, e, hk])
    exact ⟨this.1, by simp [e, this.2]⟩

theorem St.freeze {w0 w : World} {m : Mem} {b t : Nat} {cs : List Value} {L : List Res} (H : St w0 w m (pt b cs t :: L)) : ∃ m', Le m m' ∧ fz m' b cs ∧ St w0 w m' L := by
  obtain ⟨m', h1, h2, h3⟩ := St.freezeO H
  exact ⟨m', h1, ⟨t, (0, 0), h2⟩, h3⟩

/-! ### 3. Contracts -/
def Spec (P : Program) (f : FuncId) (args : Array Value) (m : Mem) (L : List Res) (Post : Mem → Ending → List Res → Prop) : Prop :=
  ∀ w Lf, St w w m (L ++ Lf) → Calls P f args w fun e w' => ∃ m' L', Le m m' ∧ Post m' e L' ∧ St w w' m' (L' ++ Lf)

theorem St.reset {w0 w : World} {m : Mem} {L : List Res} (H : St w0 w m L) : St w w m L := ⟨Kep.refl w, H.frz, H.own⟩
theorem St.rebase {w0 w w' : World} {m m' : Mem} {L L' : List Res} (H : St w0 w m L) (K : St w w' m' L') : St w0 w' m' L' := ⟨H.io.trans K.io, K.frz, K.own⟩

theorem Spec.mono {P : Program} {f : FuncId} {args : Array Value} {m : Mem} {L : List Res} {Post Post' : Mem → Ending → List Res → Prop} (h : Spec P f args m L Post)
    (k : ∀ m' e L', Le m m' → Post m' e L' → Post' m' e L') : Spec P f args m L Post' := fun w Lf H =>
  Calls.mono (h w Lf H) fun _ _ ⟨m', L', a, b, c⟩ => ⟨m', L', a, k _ _ _ a b, c⟩

theorem Spec.call {P : Program} {f : FuncId} {args : Array Value} {w0 w : World} {m : Mem} {L Lf : List Res} {Post : Mem → Ending → List Res → Prop} {R : Ending → World → Prop}
    (h : Spec P f args m L Post) (H : St w0 w m (L ++ Lf)) (k : ∀ e w' m' L', Le m m' → Post m' e L' → St w0 w' m' (L' ++ Lf) → R e w') : Calls P f args w R :=
  Calls.mono (h w Lf H.reset) fun _ _ ⟨m', L', a, b, c⟩ => k _ _ m' L' a b (H.rebase c)

/-- 'it returns v, and owns nothing more' -/
def Ret (v : Value) : Mem → Ending → List Res → Prop := fun _ e L => e = .returned v ∧ L = []
/-- 'it returns some v of which R holds' -/
def RetR (R : Mem → Value → Prop) : Mem → Ending → List Res → Prop := fun m e L => ∃ v, e = .returned v ∧ L = [] ∧ R m v

/-! ### 4. Frames -/
def lk : List (Nat × Value) → Nat → Option Value
  | [], _ => none
  | (i, v) :: F, j => bif Nat.beq i j then some v else lk F j
structure Fr (n : Nat) (a : Act) (F : List (Nat × Value)) (D : List Deferred) : Prop where
  size : a.tmps.size = n
  defers : a.defers = D
  at_ : ∀ i v, lk F i = some v → a.tmps[i]? = some v
def ev (F : List (Nat × Value)) : Operand → Option Value
  | .tmp t => lk F t
  | .const v => some v
  | .global g => some (.pointer (some ⟨g, 0, none⟩))
  | .func f => some (.func (.func f) #[] #[])
theorem Fr.ev {n : Nat} {a : Act} {F : List (Nat × Value)} {D : List Deferred} (A : Fr n a F D) {x : Operand} {v : Value} (h : ev F x = some v) : a.eval x = v := by
  cases x with
  | tmp t =>
    have h' : lk F t = some v := h
    have := A.at_ t v h'
    simp [Act.eval, Array.getD_eq_getD_getElem?, this]
  | const c => exact Option.some.inj h
  | global g => exact Option.some.inj h
  | func f => exact Option.some.inj h
theorem Fr.put {n : Nat} {a : Act} {F : List (Nat × Value)} {D : List Deferred} (A : Fr n a F D) {d : Nat} (hd : Nat.blt d n = true) (v : Value) : Fr n (a.put (some d) v) ((d, v) :: F) D := by
  have hd' : d < n := by simpa [Nat.blt_eq] using hd
  refine ⟨by simp [Act.put, A.size], A.defers, fun i u h => ?_⟩
  simp only [lk, cond_eq_ite] at h
  by_cases e : d = i
  · subst e
    simp at h
    subst h
    simp [Act.put, A.size, hd']
  · have : Nat.beq d i = false := by
      cases hh : Nat.beq d i
      · rfl
      · exact absurd (Nat.eq_of_beq_eq_true hh) e
    simp only [this] at h
    simp only [Act.put]
    rw [Array.getElem?_setIfInBounds_ne (by simpa using e)]
    exact A.at_ i u (by simpa using h)
theorem Fr.weaken {n : Nat} {a : Act} {F F' : List (Nat × Value)} {D : List Deferred} (A : Fr n a F D) (h : ∀ i v, lk F' i = some v → lk F i = some v) : Fr n a F' D := ⟨A.size, A.defers, fun i v x => A.at_ i v (h i v x)⟩
theorem Fr.nil {n : Nat} {a : Act} {F : List (Nat × Value)} {D : List Deferred} (A : Fr n a F D) : Fr n a [] D := ⟨A.size, A.defers, fun i v x => by simp [lk] at x⟩
theorem Fr.cons {n : Nat} {a : Act} {F F' : List (Nat × Value)} {D : List Deferred} (A : Fr n a F D) {i : Nat} {v : Value} (hv : lk F i = some v) (B : Fr n a F' D) : Fr n a ((i, v) :: F') D := by
  refine ⟨A.size, A.defers, fun j u h => ?_⟩
  simp only [lk, cond_eq_ite] at h
  by_cases e : i = j
  · subst e
    simp at h
    subst h
    exact A.at_ i _ hv
  · have : Nat.beq i j = false := by
      cases hh : Nat.beq i j
      · rfl
      · exact absurd (Nat.eq_of_beq_eq_true hh) e
    simp only [this] at h
    exact B.at_ j u (by simpa using h)

/-! ### 5. Entering, leaving -/
def args0 : Nat → List Value → List (Nat × Value)
  | _, [] => []
  | i, v :: vs => (i, v) :: args0 (i + 1) vs
theorem lk_args0 : ∀ (vs : List Value) (i j : Nat) (u : Value), lk (args0 i vs) j = some u → i ≤ j ∧ vs[j - i]? = some u
  | [], _, _, _, h => by simp [args0, lk] at h
  | v :: vs, i, j, u, h => by
    simp only [args0, lk, cond_eq_ite] at h
    by_cases e : i = j
    · subst e
      simp at h
      exact ⟨Nat.le_refl _, by simp [h]⟩
    · have : Nat.beq i j = false := by
        cases hh : Nat.beq i j
        · rfl
        · exact absurd (Nat.eq_of_beq_eq_true hh) e
      simp only [this] at h
      obtain ⟨h1, h2⟩ := lk_args0 vs (i + 1) j u (by simpa using h)
      refine ⟨by omega, ?_⟩
      rw [show j - i = (j - (i + 1)) + 1 by omega]
      simpa using h2

theorem Spec.enter {P : Program} {f : FuncId} {fn : Func} {c : Code} {vs : List Value} {m : Mem} {L : List Res} {Post : Mem → Ending → List Res → Prop} (hf : P.funcs[f]? = some fn) (hb : fn.body = some c)
    (n : Nat) (hn : fn.ntmps = n) (hle' : Nat.ble vs.length n = true)
    (h : ∀ a w Lf, Fr n a (args0 0 vs) [] → St w w m (L ++ Lf) → c.wp P (bodyPost P fn fun e w' => ∃ m' L', Le m m' ∧ Post m' e L' ∧ St w w' m' (L' ++ Lf)) a w) : Spec P f vs.toArray m L Post := by
  intro w Lf H
  have hle : vs.length ≤ n := Nat.le_of_ble_eq_true hle'
  refine calls_of_wp hf hb (h _ w Lf ⟨?_, rfl, fun i v hv => ?_⟩ H)
  · simp; omega
  · obtain ⟨_, h2⟩ := lk_args0 vs 0 i v hv
    have hi : i < vs.length := (List.getElem?_eq_some_iff.1 h2).1
    simp only [Array.getElem?_append, List.size_toArray, hi, if_true]
    simpa using h2

theorem Spec.enter0 {P : Program} {f : FuncId} {fn : Func} {c : Code} {vs : List Value} {m : Mem} {Post : Mem → Ending → List Res → Prop} (hf : P.funcs[f]? = some fn) (hb : fn.body = some c)
    (n : Nat) (hn : fn.ntmps = n) (hle : Nat.ble vs.length n = true)
    (h : ∀ a w Lf, Fr n a (args0 0 vs) [] → St w w m Lf → c.wp P (bodyPost P fn fun e w' => ∃ m' L', Le m m' ∧ Post m' e L' ∧ St w w' m' (L' ++ Lf)) a w) : Spec P f vs.toArray m [] Post :=
  Spec.enter hf hb n hn hle fun a w Lf A H => h a w Lf A H

theorem ret_tmp {P : Program} {fn : Func} {R : Ending → World → Prop} {n : Nat} {a : Act} {F : List (Nat × Value)} {w : World} {v : Value} {t : Nat} (A : Fr n a F []) (hr : fn.results = #[.tmp t]) (hv : lk F t = some v) (k : R (.returned v) w) :
    bodyPost P fn R .ret a w := ⟨A.defers, v, by rw [results_tmp hr]; simp [Array.getD_eq_getD_getElem?, A.at_ t v hv], k⟩
theorem ret_none {P : Program} {fn : Func} {R : Ending → World → Prop} {n : Nat} {a : Act} {F : List (Nat × Value)} {w : World} (A : Fr n a F []) (hr : fn.results = #[]) (k : R (.returned (.tuple #[])) w) :
    bodyPost P fn R .ret a w := ⟨A.defers, _, results_none hr _ _ _, k⟩
theorem end_none {P : Program} {fn : Func} {R : Ending → World → Prop} {n : Nat} {a : Act} {F : List (Nat × Value)} {w : World} (A : Fr n a F []) (hr : fn.results = #[]) (k : R (.returned (.tuple #[])) w) :
    bodyPost P fn R .normal a w := ⟨A.defers, _, results_none hr _ _ _, k⟩
theorem ret_tmp2 {P : Program} {fn : Func} {R : Ending → World → Prop} {n : Nat} {a : Act} {F : List (Nat × Value)} {w : World} {v u : Value} {t s : Nat} (A : Fr n a F []) (hr : fn.results = #[.tmp t, .tmp s]) (hv : lk F t = some v) (hu : lk F s = some u)
    (k : R (.returned (.tuple #[v, u])) w) : bodyPost P fn R .ret a w := ⟨A.defers, _, by rw [results_tmp2 hr]; simp [Array.getD_eq_getD_getElem?, A.at_ t v hv, A.at_ s u hu], k⟩

end Sl
end Go.Proofs.YtanhehbfbakdcaaGreatDoor
