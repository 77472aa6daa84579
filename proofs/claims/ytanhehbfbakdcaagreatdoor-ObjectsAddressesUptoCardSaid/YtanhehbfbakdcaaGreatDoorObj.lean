/- Stores of objects: what stands in memory. Own work. -/
import Derived.Test.YtanhehbfbakdcaaGreatDoorDig
namespace Go.Proofs.YtanhehbfbakdcaaGreatDoor
namespace Sl
open Go
structure Obj where
  id : UInt64
  data : List UInt8
  deriving DecidableEq
/-- The value v is a slice of bytes that is read. -/
def Dat (m : Mem) (v : Value) (d : List UInt8) : Prop := ∃ ad n c, v = .slice ad n c ∧ Slc m 1 ad n c (d.map u8) ∧ n ≤ 1000000000
theorem Dat.mono {m m' : Mem} {v : Value} {d : List UInt8} (h : Dat m v d) (k : Le m m') : Dat m' v d := by
  obtain ⟨ad, n, c, h1, h2, h3⟩ := h; exact ⟨ad, n, c, h1, h2.mono k, h3⟩
theorem Dat.nil (m : Mem) : Dat m (.slice none 0 0) [] := ⟨none, 0, 0, rfl, Slc.nil m 1 none 0 (by unfold maxLen; omega), by omega⟩
/-- The cells xs are those of the objects l. -/
def OR (m : Mem) : List Value → List Obj → Prop
  | [], [] => True
  | a :: v :: xs, o :: l => a = u64 o.id ∧ Dat m v o.data ∧ OR m xs l
  | _, _ => False
theorem OR.mono {m m' : Mem} (k : Le m m') : ∀ {xs : List Value} {l : List Obj}, OR m xs l → OR m' xs l
  | [], [], _ => trivial
  | [], _ :: _, h => h.elim
  | [_], _, h => (by cases h)
  | _ :: _ :: _, [], h => h.elim
  | a :: v :: xs, o :: l, ⟨h1, h2, h3⟩ => ⟨h1, h2.mono k, OR.mono k h3⟩
theorem OR.len {m : Mem} : ∀ {xs : List Value} {l : List Obj}, OR m xs l → xs.length = l.length * 2
  | [], [], _ => rfl
  | [], _ :: _, h => h.elim
  | [_], _, h => (by cases h)
  | _ :: _ :: _, [], h => h.elim
  | a :: v :: xs, o :: l, ⟨_, _, h⟩ => by simp [OR.len h]; omega
theorem OR.app {m : Mem} : ∀ {xs ys : List Value} {l k : List Obj}, OR m xs l → OR m ys k → OR m (xs ++ ys) (l ++ k)
  | [], _, [], _, _, h => h
  | [], _, _ :: _, _, h, _ => h.elim
  | [_], _, _, _, h, _ => (by cases h)
  | _ :: _ :: _, _, [], _, h, _ => h.elim
  | a :: v :: xs, ys, o :: l, k, ⟨h1, h2, h3⟩, h => ⟨h1, h2, OR.app h3 h⟩
theorem OR.at_ {m : Mem} : ∀ {xs : List Value} {l : List Obj} {i : Nat} {o : Obj}, OR m xs l → l[i]? = some o → ∃ v, xs[i * 2]? = some (u64 o.id) ∧ xs[i * 2 + 1]? = some v ∧ Dat m v o.data
  | [], [], i, o, _, h => by simp at h
  | [], _ :: _, _, _, h, _ => h.elim
  | [_], _, _, _, h, _ => (by cases h)
  | _ :: _ :: _, [], _, _, h, _ => h.elim
  | a :: v :: xs, o :: l, 0, o', ⟨h1, h2, h3⟩, h => by
    have : o = o' := by simpa using h
    subst this; exact ⟨v, by simp [h1], by simp, h2⟩
  | a :: v :: xs, o :: l, i + 1, o', ⟨h1, h2, h3⟩, h => by
    obtain ⟨u, g1, g2, g3⟩ := OR.at_ (i := i) h3 (by simpa using h)
    exact ⟨u, by rw [show (i + 1) * 2 = i * 2 + 1 + 1 by omega]; simpa using g1, by rw [show (i + 1) * 2 + 1 = i * 2 + 1 + 1 + 1 by omega]; simpa using g2, g3⟩
theorem OR.drop {m : Mem} : ∀ {xs : List Value} {l : List Obj} (i : Nat), OR m xs l → OR m (xs.drop (i * 2)) (l.drop i)
  | xs, l, 0, h => by simpa using h
  | [], [], i + 1, _ => by simp [OR]
  | [], _ :: _, _, h => h.elim
  | [_], _, _, h => (by cases h)
  | _ :: _ :: _, [], _, h => h.elim
  | a :: v :: xs, o :: l, i + 1, ⟨_, _, h⟩ => by rw [show (i + 1) * 2 = i * 2 + 1 + 1 by omega]; simpa using OR.drop i h
theorem OR.take {m : Mem} : ∀ {xs : List Value} {l : List Obj} (i : Nat), OR m xs l → OR m (xs.take (i * 2)) (l.take i)
  | xs, l, 0, h => by simp [OR]
  | [], [], i + 1, _ => by simp [OR]
  | [], _ :: _, _, h => h.elim
  | [_], _, _, h => (by cases h)
  | _ :: _ :: _, [], _, h => h.elim
  | a :: v :: xs, o :: l, i + 1, ⟨h1, h2, h⟩ => by rw [show (i + 1) * 2 = i * 2 + 1 + 1 by omega]; exact ⟨h1, h2, OR.take i h⟩
/-- A slice of objects that is read. -/
def Objs (m : Mem) (ad : Option Addr) (n c : Nat) (l : List Obj) : Prop := n = l.length ∧ ∃ xs, Slc m 2 ad n c xs ∧ OR m xs l
theorem Objs.mono {m m' : Mem} {ad : Option Addr} {n c : Nat} {l : List Obj} (h : Objs m ad n c l) (k : Le m m') : Objs m' ad n c l := by
  obtain ⟨h0, xs, h1, h2⟩ := h; exact ⟨h0, xs, h1.mono k, h2.mono k⟩
theorem Objs.nil (m : Mem) : Objs m none 0 0 [] := ⟨rfl, [], Slc.nil m 2 none 0 (by unfold maxLen; omega), trivial⟩
theorem Objs.cap {m : Mem} {ad : Option Addr} {n c : Nat} {l : List Obj} (h : Objs m ad n c l) : n ≤ c ∧ c ≤ maxLen := by
  obtain ⟨_, xs, h1, _⟩ := h; exact ⟨h1.2.1, h1.2.2.1⟩
theorem getN_two {cs : List Value} {o : Nat} {a v : Value} (h1 : cs[o]? = some a) (h2 : cs[o + 1]? = some v) : getN cs o 2 = some [a, v] := by
  induction cs generalizing o with
  | nil => simp at h1
  | cons c cs ih =>
    cases o with
    | zero =>
      cases cs with
      | nil => simp at h2
      | cons d cs =>
        have e1 : c = a := by simpa using h1
        have e2 : d = v := by simpa using h2
        subst e1; subst e2
        simp [getN, consO]
    | succ o => simpa [getN] using ih (o := o) (by simpa using h1) (by simpa using h2)
theorem Objs.at_ {m : Mem} {ad : Option Addr} {n c : Nat} {l : List Obj} (h : Objs m ad n c l) {i : Nat} {o : Obj} (ho : l[i]? = some o) :
    ∃ b off cs v, ad = some ⟨b, off, none⟩ ∧ Fz m b cs ∧ cs[off + i * 2]? = some (u64 o.id) ∧ cs[off + i * 2 + 1]? = some v ∧ getN cs (off + i * 2) 2 = some [u64 o.id, v] ∧ Dat m v o.data := by
  obtain ⟨h0, xs, h1, h2⟩ := h
  have hi : i < l.length := (List.getElem?_eq_some_iff.1 ho).1
  obtain ⟨b, off, cs, e, hf, hcs⟩ := h1.at_ (by omega)
  obtain ⟨v, g1, g2, g3⟩ := h2.at_ ho
  have k1 : cs[off + i * 2]? = some (u64 o.id) := by rw [hcs _ (by omega)]; exact g1
  have k2 : cs[off + i * 2 + 1]? = some v := by rw [Nat.add_assoc, hcs _ (by omega)]; exact g2
  exact ⟨b, off, cs, v, e, hf, k1, k2, getN_two k1 k2, g3⟩
theorem Objs.lo {m : Mem} {ad : Option Addr} {n c : Nat} {l : List Obj} (h : Objs m ad n c l) {i : Nat} (hi : i ≤ n) : Objs m (cutAd ad c i 2) (n - i) (c - i) (l.drop i) := by
  obtain ⟨h0, xs, h1, h2⟩ := h
  exact ⟨by simp [h0], _, h1.lo hi, h2.drop i⟩
theorem Objs.hi {m : Mem} {ad : Option Addr} {n c : Nat} {l : List Obj} (h : Objs m ad n c l) {i : Nat} (hi : i ≤ n) : Objs m (cutAd ad c 0 2) i c (l.take i) := by
  obtain ⟨h0, xs, h1, h2⟩ := h
  exact ⟨by simp; omega, _, h1.hi hi, h2.take i⟩
theorem Objs.all_ {m : Mem} {ad : Option Addr} {n c : Nat} {l : List Obj} (h : Objs m ad n c l) (hn : 0 < n) :
    ∃ b off cs, ad = some ⟨b, off, none⟩ ∧ Fz m b cs ∧ ∀ i o, l[i]? = some o → ∃ v, cs[off + i * 2]? = some (u64 o.id) ∧ cs[off + i * 2 + 1]? = some v ∧ getN cs (off + i * 2) 2 = some [u64 o.id, v] ∧ Dat m v o.data := by
  obtain ⟨h0, xs, h1, h2⟩ := h
  obtain ⟨b, off, cs, e, hf, hcs⟩ := h1.at_ hn
  refine ⟨b, off, cs, e, hf, fun i o ho => ?_⟩
  have hi : i < l.length := (List.getElem?_eq_some_iff.1 ho).1
  obtain ⟨v, g1, g2, g3⟩ := h2.at_ ho
  have k1 : cs[off + i * 2]? = some (u64 o.id) := by rw [hcs _ (by omega)]; exact g1
  have k2 : cs[off + i * 2 + 1]? = some v := by rw [Nat.add_assoc, hcs _ (by omega)]; exact g2
  exact ⟨v, k1, k2, getN_two k1 k2, g3⟩
theorem ex_at {α : Type} {l : List α} {i : Nat} (h : i < l.length) : ∃ o, l[i]? = some o := ⟨_, List.getElem?_eq_getElem h⟩
theorem dec64 (p q : UInt64) : decide ((p.toNat : Int) = q.toNat) = decide (p = q) := by
  rw [decide_eq_decide, ← UInt64.toNat_inj]; omega
theorem lt64 (p q : UInt64) : decide ((p.toNat : Int) < q.toNat) = decide (p < q) := by
  rw [decide_eq_decide, UInt64.lt_iff_toNat_lt]; omega
def Srt (l : List Obj) : Prop := l.Pairwise fun a b => a.id < b.id
instance (l : List Obj) : Decidable (Srt l) := by unfold Srt; infer_instance
theorem Srt.lt {l : List Obj} (h : Srt l) {i j : Nat} {a b : Obj} (hi : l[i]? = some a) (hj : l[j]? = some b) (hij : i < j) : a.id < b.id := by
  obtain ⟨h1, e1⟩ := List.getElem?_eq_some_iff.1 hi
  obtain ⟨h2, e2⟩ := List.getElem?_eq_some_iff.1 hj
  have := List.pairwise_iff_getElem.1 h i j h1 h2 hij
  rwa [e1, e2] at this
theorem srt_of_adj : ∀ {l : List Obj}, (∀ (k : Nat) (a b : Obj), l[k]? = some a → l[k + 1]? = some b → a.id < b.id) → Srt l
  | [], _ => List.Pairwise.nil
  | a :: l, h => by
    have ih : Srt l := srt_of_adj fun k x y hx hy => h (k + 1) x y (by simpa using hx) (by simpa using hy)
    refine List.Pairwise.cons (fun x hx => ?_) ih
    cases l with
    | nil => simp at hx
    | cons b r =>
      have hab := h 0 a b rfl rfl
      rcases List.mem_cons.1 hx with rfl | hx
      · exact hab
      · exact UInt64.lt_trans hab ((List.pairwise_cons.1 ih).1 x hx)
/-- A slice of words that is read. -/
def Ws (m : Mem) (ad : Option Addr) (n c : Nat) (l : List UInt64) : Prop := Slc m 1 ad n c (l.map u64)
theorem Ws.mono {m m' : Mem} {ad : Option Addr} {n c : Nat} {l : List UInt64} (h : Ws m ad n c l) (k : Le m m') : Ws m' ad n c l := Slc.mono h k
theorem Ws.len {m : Mem} {ad : Option Addr} {n c : Nat} {l : List UInt64} (h : Ws m ad n c l) : n = l.length := by have := h.1; simpa using this.symm
theorem Ws.all_ {m : Mem} {ad : Option Addr} {n c : Nat} {l : List UInt64} (h : Ws m ad n c l) (hn : 0 < n) : ∃ b off cs, ad = some ⟨b, off, none⟩ ∧ Fz m b cs ∧ ∀ i o, l[i]? = some o → cs[off + i]? = some (u64 o) := by
  obtain ⟨b, off, cs, e, hf, hcs⟩ := Slc.at_ h hn
  refine ⟨b, off, cs, e, hf, fun i o ho => ?_⟩
  have hi : i < l.length := (List.getElem?_eq_some_iff.1 ho).1
  rw [hcs i (by have := h.len; omega), List.getElem?_map, ho]; rfl
theorem Slc.all8 {m : Mem} {ad : Option Addr} {n c : Nat} {l : List UInt8} (h : Slc m 1 ad n c (l.map u8)) (hn : 0 < n) : ∃ b off cs, ad = some ⟨b, off, none⟩ ∧ Fz m b cs ∧ ∀ i o, l[i]? = some o → cs[off + i]? = some (u8 o) := by
  obtain ⟨b, off, cs, e, hf, hcs⟩ := Slc.at_ h hn
  refine ⟨b, off, cs, e, hf, fun i o ho => ?_⟩
  have hi : i < l.length := (List.getElem?_eq_some_iff.1 ho).1
  rw [hcs i (by have := h.len8; omega), List.getElem?_map, ho]; rfl
def findP (l : List Obj) (id : UInt64) : Int := match l.findIdx? (fun o => o.id == id) with
  | some i => i
  | none => -1
theorem findP_some {l : List Obj} {id : UInt64} {i : Nat} {o : Obj} (ho : l[i]? = some o) (he : o.id = id) (hb : ∀ (k : Nat) (a : Obj), k < i → l[k]? = some a → a.id ≠ id) : findP l id = i := by
  obtain ⟨h1, e1⟩ := List.getElem?_eq_some_iff.1 ho
  have : l.findIdx? (fun o => o.id == id) = some i := List.findIdx?_eq_some_iff_getElem.2 ⟨h1, by simp [e1, he], fun j hj => by simpa using hb j _ hj (List.getElem?_eq_getElem (by omega))⟩
  rw [findP, this]
theorem findP_none {l : List Obj} {id : UInt64} (hb : ∀ (k : Nat) (a : Obj), l[k]? = some a → a.id ≠ id) : findP l id = -1 := by
  have : l.findIdx? (fun o => o.id == id) = none := List.findIdx?_eq_none_iff.2 fun x hx => by
    obtain ⟨k, hk⟩ := List.mem_iff_getElem?.1 hx
    simpa using hb k x hk
  rw [findP, this]
theorem not_mem_of {l : List UInt64} {id : UInt64} (h : ∀ (k : Nat) (a : UInt64), l[k]? = some a → a ≠ id) : id ∉ l := fun hm => by
  obtain ⟨k, hk⟩ := List.mem_iff_getElem?.1 hm
  exact h k id hk rfl
theorem lt_ext {α : Type} {P : Nat → α → Prop} {l : List α} {i : Nat} {o : α} (h : ∀ (k : Nat) (a : α), k < i → l[k]? = some a → P k a) (ho : l[i]? = some o) (hp : P i o) : ∀ (k : Nat) (a : α), k < i + 1 → l[k]? = some a → P k a := by
  intro k a hk ha
  rcases Nat.lt_succ_iff_lt_or_eq.1 hk with h1 | rfl
  · exact h k a h1 ha
  · rw [ho] at ha; cases ha; exact hp
theorem lt_all {α : Type} {P : Nat → α → Prop} {l : List α} {i : Nat} (h : ∀ (k : Nat) (a : α), k < i → l[k]? = some a → P k a) (hi : l.length ≤ i) : ∀ (k : Nat) (a : α), l[k]? = some a → P k a := fun k a ha =>
  h k a (by have := (List.getElem?_eq_some_iff.1 ha).1; omega) ha
def cmpP (a b : UInt64) : Int := if a < b then -1 else if b < a then 1 else 0
theorem cmpP_lt (a b : UInt64) : cmpP a b < 0 ↔ a < b := by
  unfold cmpP; split
  · rename_i h; exact ⟨fun _ => h, fun _ => by omega⟩
  · rename_i h; split
    · exact ⟨fun h => absurd h (by omega), fun h' => absurd h' h⟩
    · exact ⟨fun h => absurd h (by omega), fun h' => absurd h' h⟩
theorem cmpP_eq (a b : UInt64) : cmpP a b = 0 ↔ a = b := by
  unfold cmpP; split
  · rename_i h; exact ⟨fun h => absurd h (by omega), fun e => by subst e; exact absurd h (UInt64.lt_irrefl a)⟩
  · rename_i h; split
    · rename_i h2; exact ⟨fun h => absurd h (by omega), fun e => by subst e; exact absurd h2 (UInt64.lt_irrefl a)⟩
    · rename_i h2; exact ⟨fun _ => UInt64.le_antisymm (UInt64.not_lt.1 h2) (UInt64.not_lt.1 h), fun _ => rfl⟩
/-- Where an object is, or would be. -/
def lbP (l : List Obj) (id : UInt64) : Nat := (l.takeWhile fun o => decide (o.id < id)).length
def atP (l : List Obj) (id : UInt64) : Bool := (l[lbP l id]?).any fun o => decide (o.id = id)
theorem tw_len {α : Type} {l : List α} {p : α → Bool} : ∀ {n : Nat}, n ≤ l.length → (∀ (k : Nat) (x : α), k < n → l[k]? = some x → p x = true) → (∀ x, l[n]? = some x → p x = false) → (l.takeWhile p).length = n := by
  induction l with
  | nil => intro n h _ _; simp at h; simp [h]
  | cons c l ih =>
    intro n h h1 h2
    cases n with
    | zero => simp [h2 c rfl]
    | succ n =>
      rw [List.takeWhile_cons, if_pos (h1 0 c (by omega) rfl), List.length_cons, ih (n := n) (by simpa using h) (fun k x hk hx => h1 (k + 1) x (by omega) (by simpa using hx)) (fun x hx => h2 x (by simpa using hx))]
theorem lbP_of {l : List Obj} {id : UInt64} {i : Nat} (hi : i ≤ l.length) (h1 : ∀ (k : Nat) (x : Obj), k < i → l[k]? = some x → x.id < id) (h2 : ∀ (k : Nat) (x : Obj), i ≤ k → l[k]? = some x → ¬ x.id < id) : lbP l id = i :=
  tw_len hi (fun k x hk hx => decide_eq_true (h1 k x hk hx)) (fun x hx => decide_eq_false (h2 i x (Nat.le_refl _) hx))
theorem lbP_le (l : List Obj) (id : UInt64) : lbP l id ≤ l.length := (List.takeWhile_sublist _).length_le
def sndP (o : Obj) : Bool := decide (o.id = dig o.data)
end Sl
end Go.Proofs.YtanhehbfbakdcaaGreatDoor
