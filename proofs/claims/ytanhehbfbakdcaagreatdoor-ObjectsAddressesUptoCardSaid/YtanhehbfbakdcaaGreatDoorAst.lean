/- Files as trees, and how they lie in memory. Own work. -/
import Derived.Test.YtanhehbfbakdcaaGreatDoorTypesB
import Derived.Test.YtanhehbfbakdcaaGreatDoorObj
import Derived.Test.YtanhehbfbakdcaaGreatDoorCopy
set_option linter.unusedVariables false
set_option linter.unusedSimpArgs false
namespace Go.Proofs.YtanhehbfbakdcaaGreatDoor
namespace Sl
open Go
def I64 (n : Int) : Prop := -9223372036854775808 ≤ n ∧ n ≤ 9223372036854775807
structure PNum where
  n : Int
  p : ByteArray
  deriving DecidableEq
structure PRule where
  kind : Int
  src : ByteArray
  n : Int
  deriving DecidableEq
structure PBind where
  port : ByteArray
  chan : ByteArray
  deriving DecidableEq
inductive Ex where
  | mk (op : Int) (name : ByteArray) (k w : PNum) (args : List Ex)
def Ex.op : Ex → Int | .mk o _ _ _ _ => o
def Ex.name : Ex → ByteArray | .mk _ s _ _ _ => s
def Ex.k : Ex → PNum | .mk _ _ k _ _ => k
def Ex.w : Ex → PNum | .mk _ _ _ w _ => w
def Ex.args : Ex → List Ex | .mk _ _ _ _ l => l
structure PItem where
  kind : Int
  name : ByteArray
  width : PNum
  depth : PNum
  init : PNum
  a : Ex
  b : Ex
  c : Ex
  rule : PRule
  of_ : ByteArray
  args : List PNum
  ports : List PBind
structure PMod where
  name : ByteArray
  clock : ByteArray
  params : List ByteArray
  items : List PItem
def nilE : ByteArray := ⟨#[]⟩
def zNum : PNum := ⟨0, ⟨#[]⟩⟩
def zEx : Ex := .mk 0 ⟨#[]⟩ zNum zNum []

/-! ### 1. Lists in memory, their elements of k cells each -/
section
variable {α : Type} {R : Mem → List Value → α → Prop} {k : Nat} {m m' : Mem}
def LR (R : Mem → List Value → α → Prop) (k : Nat) (m : Mem) : List Value → List α → Prop
  | xs, [] => xs = []
  | xs, a :: l => (xs.take k).length = k ∧ R m (xs.take k) a ∧ LR R k m (xs.drop k) l
theorem LR.mono (hR : ∀ cs a, R m cs a → R m' cs a) : ∀ {l : List α} {xs : List Value}, LR R k m xs l → LR R k m' xs l
  | [], _, h => h
  | _ :: _, _, ⟨h1, h2, h3⟩ => ⟨h1, hR _ _ h2, LR.mono hR h3⟩
theorem LR.len : ∀ {l : List α} {xs : List Value}, LR R k m xs l → xs.length = l.length * k
  | [], _, h => by rw [show _ = [] from h]; simp
  | a :: l, xs, ⟨h1, _, h3⟩ => by
    have := LR.len h3
    simp only [List.length_take, List.length_drop, List.length_cons, Nat.add_mul, Nat.one_mul] at *
    omega
theorem LR.at_ : ∀ {l : List α} {xs : List Value} {i : Nat} {a : α}, LR R k m xs l → l[i]? = some a → R m ((xs.drop (i * k)).take k) a ∧ (i + 1) * k ≤ xs.length
  | [], _, _, _, _, h => by simp at h
  | b :: l, xs, 0, a, ⟨h1, h2, _⟩, h => by
    have : b = a := by simpa using h
    subst this
    rw [List.length_take] at h1
    exact ⟨by simpa using h2, by omega⟩
  | b :: l, xs, i + 1, a, ⟨h1, _, h3⟩, h => by
    obtain ⟨g1, g2⟩ := LR.at_ (i := i) h3 (by simpa using h)
    rw [List.drop_drop] at g1
    rw [List.length_take] at h1
    rw [List.length_drop] at g2
    have e : (i + 1) * k = k + i * k := by rw [Nat.add_mul, Nat.one_mul, Nat.add_comm]
    exact ⟨by rw [e]; exact g1, by rw [Nat.add_mul, Nat.one_mul]; omega⟩
theorem LR.app : ∀ {l l' : List α} {xs ys : List Value}, LR R k m xs l → LR R k m ys l' → LR R k m (xs ++ ys) (l ++ l')
  | [], _, _, _, h, h' => by rw [show _ = [] from h]; exact h'
  | a :: l, l', xs, ys, ⟨h1, h2, h3⟩, h' => by
    have hk : k ≤ xs.length := by rw [List.length_take] at h1; omega
    refine ⟨?_, ?_, ?_⟩
    · rw [List.take_append_of_le_length hk]; exact h1
    · rw [List.take_append_of_le_length hk]; exact h2
    · rw [List.drop_append_of_le_length hk]; exact LR.app h3 h'
theorem LR.one {cs : List Value} {a : α} (h : R m cs a) (hl : cs.length = k) : LR R k m cs [a] := by
  refine ⟨by rw [List.length_take, hl, Nat.min_self], ?_, ?_⟩
  · rw [← hl, List.take_length]; exact h
  · show _ = []
    rw [← hl, List.drop_length]
theorem LR.take : ∀ {l : List α} {xs : List Value} (i : Nat), LR R k m xs l → LR R k m (xs.take (i * k)) (l.take i)
  | l, xs, 0, _ => by rw [Nat.zero_mul, List.take_zero, List.take_zero]; rfl
  | [], xs, i + 1, h => by rw [show _ = [] from h, List.take_nil, List.take_nil]; rfl
  | a :: l, xs, i + 1, ⟨h1, h2, h3⟩ => by
    have e : (i + 1) * k = k + i * k := by rw [Nat.add_mul, Nat.one_mul, Nat.add_comm]
    rw [e, List.take_succ_cons]
    refine ⟨?_, ?_, ?_⟩
    · rw [List.take_take, Nat.min_eq_left (by omega)]; exact h1
    · rw [List.take_take, Nat.min_eq_left (by omega)]; exact h2
    · rw [List.drop_take, Nat.add_sub_cancel_left]; exact LR.take i h3
theorem LR.drop : ∀ {l : List α} {xs : List Value} (i : Nat), LR R k m xs l → LR R k m (xs.drop (i * k)) (l.drop i)
  | l, xs, 0, h => by rw [Nat.zero_mul, List.drop_zero, List.drop_zero]; exact h
  | [], xs, i + 1, h => by rw [show _ = [] from h, List.drop_nil, List.drop_nil]; rfl
  | a :: l, xs, i + 1, ⟨h1, h2, h3⟩ => by
    have e : (i + 1) * k = k + i * k := by rw [Nat.add_mul, Nat.one_mul, Nat.add_comm]
    rw [e, List.drop_succ_cons, ← List.drop_drop]
    exact LR.drop i h3
/-- A slice that is read, with what its elements are. -/
def Lst (R : Mem → List Value → α → Prop) (k : Nat) (m : Mem) (ad : Option Addr) (c : Nat) (l : List α) : Prop := ∃ xs, Slc m k ad l.length c xs ∧ LR R k m xs l
theorem Lst.mono' {ad : Option Addr} {c : Nat} {l : List α} (h : Lst R k m ad c l) (hm : Le m m') (hR : ∀ cs a, R m cs a → R m' cs a) : Lst R k m' ad c l := by
  obtain ⟨xs, h1, h2⟩ := h
  exact ⟨xs, h1.mono hm, h2.mono hR⟩
class MonoR (R : Mem → List Value → α → Prop) : Prop where
  h : ∀ m m', Le m m' → ∀ cs a, R m cs a → R m' cs a
theorem Lst.mono [q : MonoR R] {ad : Option Addr} {c : Nat} {l : List α} (h : Lst R k m ad c l) (hm : Le m m') : Lst R k m' ad c l := h.mono' hm (q.h _ _ hm)
theorem Lst.nil {ad : Option Addr} {c : Nat} (hc : c ≤ maxLen) : Lst R k m ad c ([] : List α) := ⟨[], Slc.nil m k ad c hc, rfl⟩
theorem Lst.cap {ad : Option Addr} {c : Nat} {l : List α} (h : Lst R k m ad c l) : l.length ≤ c ∧ c ≤ maxLen := by
  obtain ⟨_, h1, _⟩ := h; exact ⟨h1.2.1, h1.2.2.1⟩
theorem Lst.all_ {ad : Option Addr} {c : Nat} {l : List α} (h : Lst R k m ad c l) (hk : 0 < k) (hn : 0 < l.length) :
    ∃ b off cs, ad = some ⟨b, off, none⟩ ∧ Fz m b cs ∧ ∀ i a, l[i]? = some a → ∃ us, us.length = k ∧ R m us a ∧ getN cs (off + i * k) k = some us := by
  obtain ⟨xs, h1, h2⟩ := h
  obtain ⟨b, off, cs, e, hf, hcs⟩ := h1.at_ hn
  refine ⟨b, off, cs, e, hf, fun i a ha => ?_⟩
  obtain ⟨g1, g2⟩ := h2.at_ ha
  have hxl := h2.len
  have hi1 : (i + 1) * k ≤ l.length * k := by rw [← hxl]; exact g2
  have eik : (i + 1) * k = i * k + k := by rw [Nat.add_mul, Nat.one_mul]
  refine ⟨(xs.drop (i * k)).take k, by rw [List.length_take, List.length_drop]; omega, g1, ?_⟩
  have hsub : ∀ j, j < k → cs[off + i * k + j]? = ((xs.drop (i * k)).take k)[j]? := fun j hj => by
    rw [List.getElem?_take_of_lt hj, List.getElem?_drop, Nat.add_assoc, hcs _ (by omega)]
  have hle : off + i * k + k ≤ cs.length := by
    have := hsub (k - 1) (by omega)
    rw [List.getElem?_eq_getElem (l := (xs.drop (i * k)).take k) (by rw [List.length_take, List.length_drop]; omega)] at this
    have := (List.getElem?_eq_some_iff.1 this).1
    omega
  rw [getN_of hle]
  congr 1
  apply List.ext_getElem?
  intro j
  by_cases hj : j < k
  · rw [List.getElem?_take_of_lt hj, List.getElem?_drop, hsub j hj]
  · rw [List.getElem?_eq_none (by rw [List.length_take]; omega), List.getElem?_eq_none (by rw [List.length_take]; omega)]
theorem St.row_lst {w0 w : World} {L : List Res} {e n c : Nat} {ad : Option Addr} {xs : List Value} {l : List α} (H : St w0 w m (row e k ad n c xs :: L)) (h : LR R k m xs l) (hn : n = l.length) (hR : ∀ m', Le m m' → ∀ cs a, R m cs a → R m' cs a) : ∃ m', Le m m' ∧ Lst R k m' ad c l ∧ St w0 w m' L := by
  subst hn
  obtain ⟨m', h1, h2, h3⟩ := H.row_freeze
  exact ⟨m', h1, ⟨xs, h2, h.mono (hR m' h1)⟩, h3⟩
end

/-! ### 2. What stands in memory -/
def NumR (_ : Mem) (cs : List Value) (x : PNum) : Prop := cs = [.int .i64 x.n, .string x.p] ∧ I64 x.n
def StrR (_ : Mem) (cs : List Value) (s : ByteArray) : Prop := cs = [.string s]
def BindR (_ : Mem) (cs : List Value) (x : PBind) : Prop := cs = [.string x.port, .string x.chan]
instance : MonoR NumR := ⟨fun _ _ _ _ _ q => q⟩
instance : MonoR StrR := ⟨fun _ _ _ _ _ q => q⟩
instance : MonoR BindR := ⟨fun _ _ _ _ _ q => q⟩
def exC (e : Ex) (ad : Option Addr) (c : Nat) : List Value := [.int .i64 e.op, .string e.name, .int .i64 e.k.n, .string e.k.p, .int .i64 e.w.n, .string e.w.p, .slice ad e.args.length c]
mutual
def ExR (m : Mem) (cs : List Value) : Ex → Prop
  | .mk op name k w args => ∃ ad c, cs = [.int .i64 op, .string name, .int .i64 k.n, .string k.p, .int .i64 w.n, .string w.p, .slice ad args.length c] ∧ I64 op ∧ I64 k.n ∧ I64 w.n ∧ ∃ xs, Slc m 7 ad args.length c xs ∧ ExsR m xs args
def ExsR (m : Mem) (xs : List Value) : List Ex → Prop
  | [] => xs = []
  | e :: l => (xs.take 7).length = 7 ∧ ExR m (xs.take 7) e ∧ ExsR m (xs.drop 7) l
end
theorem exsR_iff {m : Mem} : ∀ {l : List Ex} {xs : List Value}, ExsR m xs l ↔ LR ExR 7 m xs l
  | [], xs => by simp [ExsR, LR]
  | e :: l, xs => by simp only [ExsR, LR, exsR_iff (l := l)]
mutual
theorem ExR.mono {m m' : Mem} (hm : Le m m') : ∀ (e : Ex) (cs : List Value), ExR m cs e → ExR m' cs e
  | .mk op name k w args, cs, h => by
    simp only [ExR] at *
    obtain ⟨ad, c, h1, h2, h3, h4, xs, h5, h6⟩ := h
    exact ⟨ad, c, h1, h2, h3, h4, xs, h5.mono hm, ExsR.mono hm args xs h6⟩
theorem ExsR.mono {m m' : Mem} (hm : Le m m') : ∀ (l : List Ex) (xs : List Value), ExsR m xs l → ExsR m' xs l
  | [], _, h => by simp only [ExsR] at *; exact h
  | e :: l, xs, h => by
    simp only [ExsR] at *
    exact ⟨h.1, ExR.mono hm e _ h.2.1, ExsR.mono hm l _ h.2.2⟩
end
/-- The parts of an expression whose arguments lie at (ad, c). -/
def ExA (m : Mem) (ad : Option Addr) (c : Nat) (e : Ex) : Prop := I64 e.op ∧ I64 e.k.n ∧ I64 e.w.n ∧ Lst ExR 7 m ad c e.args
theorem ExR.open_ {m : Mem} {cs : List Value} {e : Ex} (h : ExR m cs e) : ∃ ad c, cs = exC e ad c ∧ ExA m ad c e := by
  cases e with
  | mk op name k w args =>
    simp only [ExR] at h
    obtain ⟨ad, c, h1, h2, h3, h4, xs, h5, h6⟩ := h
    exact ⟨ad, c, h1, h2, h3, h4, xs, h5, exsR_iff.1 h6⟩
theorem ExA.close {m : Mem} {ad : Option Addr} {c : Nat} {e : Ex} (h : ExA m ad c e) : ExR m (exC e ad c) e := by
  cases e with
  | mk op name k w args =>
    obtain ⟨h2, h3, h4, xs, h5, h6⟩ := h
    simp only [ExR]
    exact ⟨ad, c, rfl, h2, h3, h4, xs, h5, exsR_iff.2 h6⟩
theorem ExA.mono {m m' : Mem} {ad : Option Addr} {c : Nat} {e : Ex} (h : ExA m ad c e) (hm : Le m m') : ExA m' ad c e := ⟨h.1, h.2.1, h.2.2.1, h.2.2.2.mono' hm fun cs a => ExR.mono hm a cs⟩
instance : MonoR ExR := ⟨fun _ _ hm cs a => ExR.mono hm a cs⟩
/-- where the three expressions and the two lists of an item lie -/
structure IP where
  aa : Option Addr
  ca : Nat
  ab : Option Addr
  cb : Nat
  ac : Option Addr
  cc : Nat
  an : Option Addr
  cn : Nat
  ap : Option Addr
  cp : Nat
def itC (x : PItem) (p : IP) : List Value :=
  [.int .i64 x.kind, .string x.name, .int .i64 x.width.n, .string x.width.p, .int .i64 x.depth.n, .string x.depth.p, .int .i64 x.init.n, .string x.init.p,
   .int .i64 x.a.op, .string x.a.name, .int .i64 x.a.k.n, .string x.a.k.p, .int .i64 x.a.w.n, .string x.a.w.p, .slice p.aa x.a.args.length p.ca,
   .int .i64 x.b.op, .string x.b.name, .int .i64 x.b.k.n, .string x.b.k.p, .int .i64 x.b.w.n, .string x.b.w.p, .slice p.ab x.b.args.length p.cb,
   .int .i64 x.c.op, .string x.c.name, .int .i64 x.c.k.n, .string x.c.k.p, .int .i64 x.c.w.n, .string x.c.w.p, .slice p.ac x.c.args.length p.cc,
   .int .i64 x.rule.kind, .string x.rule.src, .int .i64 x.rule.n, .string x.of_, .slice p.an x.args.length p.cn, .slice p.ap x.ports.length p.cp]
structure ItA (m : Mem) (x : PItem) (p : IP) : Prop where
  kind : I64 x.kind
  width : I64 x.width.n
  depth : I64 x.depth.n
  init : I64 x.init.n
  a : ExA m p.aa p.ca x.a
  b : ExA m p.ab p.cb x.b
  c : ExA m p.ac p.cc x.c
  rk : I64 x.rule.kind
  rn : I64 x.rule.n
  args : Lst NumR 2 m p.an p.cn x.args
  ports : Lst BindR 2 m p.ap p.cp x.ports
theorem ItA.mono {m m' : Mem} {x : PItem} {p : IP} (h : ItA m x p) (hm : Le m m') : ItA m' x p :=
  ⟨h.kind, h.width, h.depth, h.init, h.a.mono hm, h.b.mono hm, h.c.mono hm, h.rk, h.rn, h.args.mono' hm fun _ _ q => q, h.ports.mono' hm fun _ _ q => q⟩
def ItR (m : Mem) (cs : List Value) (x : PItem) : Prop := ∃ p, cs = itC x p ∧ ItA m x p
theorem ItR.mono {m m' : Mem} {cs : List Value} {x : PItem} (h : ItR m cs x) (hm : Le m m') : ItR m' cs x := by
  obtain ⟨p, h1, h2⟩ := h; exact ⟨p, h1, h2.mono hm⟩
def moC (x : PMod) (ap : Option Addr) (cp : Nat) (ai : Option Addr) (ci : Nat) : List Value := [.string x.name, .string x.clock, .slice ap x.params.length cp, .slice ai x.items.length ci]
def MoA (m : Mem) (x : PMod) (ap : Option Addr) (cp : Nat) (ai : Option Addr) (ci : Nat) : Prop := Lst StrR 1 m ap cp x.params ∧ Lst ItR 35 m ai ci x.items
def MoR (m : Mem) (cs : List Value) (x : PMod) : Prop := ∃ ap cp ai ci, cs = moC x ap cp ai ci ∧ MoA m x ap cp ai ci
instance : MonoR ItR := ⟨fun _ _ hm _ _ q => ItR.mono q hm⟩
theorem MoA.mono {m m' : Mem} {x : PMod} {ap : Option Addr} {cp : Nat} {ai : Option Addr} {ci : Nat} (h : MoA m x ap cp ai ci) (hm : Le m m') : MoA m' x ap cp ai ci := ⟨h.1.mono' hm fun _ _ q => q, h.2.mono hm⟩
theorem MoR.mono {m m' : Mem} {cs : List Value} {x : PMod} (h : MoR m cs x) (hm : Le m m') : MoR m' cs x := by
  obtain ⟨ap, cp, ai, ci, h1, h2⟩ := h; exact ⟨ap, cp, ai, ci, h1, h2.mono hm⟩
instance : MonoR MoR := ⟨fun _ _ hm _ _ q => MoR.mono q hm⟩

/-! ### 3. Sizes -/
mutual
def szEx : Ex → Nat
  | .mk _ name k w args => 200 + name.size + k.p.size + w.p.size + szExs args
def szExs : List Ex → Nat
  | [] => 0
  | e :: l => szEx e + szExs l
end
def szL {α : Type} (g : α → Nat) (l : List α) : Nat := (l.map g).sum
abbrev szNums (l : List PNum) : Nat := szL (fun x => 70 + x.p.size) l
abbrev szBinds (l : List PBind) : Nat := szL (fun x => 10 + x.port.size + x.chan.size) l
abbrev szStrs (l : List ByteArray) : Nat := szL (fun x => 4 + x.size) l
theorem szL_take {α : Type} {g : α → Nat} {l : List α} {i : Nat} {a : α} (h : l[i]? = some a) : szL g (l.take (i + 1)) = szL g (l.take i) + g a := by
  unfold szL; rw [List.take_add_one, h, List.map_append, List.sum_append]; simp
theorem szL_le {α : Type} {g : α → Nat} {l : List α} (i : Nat) : szL g (l.take i) ≤ szL g l := by
  have : szL g l = szL g (l.take i) + szL g (l.drop i) := by unfold szL; rw [← List.sum_append, ← List.map_append, List.take_append_drop]
  omega
theorem szL_mem {α : Type} {g : α → Nat} {l : List α} {i : Nat} {a : α} (h : l[i]? = some a) : g a ≤ szL g l := by
  have h1 := szL_take (g := g) h
  have h2 := szL_le (g := g) (l := l) (i + 1)
  omega
theorem getN_1 {cs : List Value} {o : Nat} {v : Value} (h : getN cs o 1 = some [v]) : cs[o]? = some v := by
  obtain ⟨h1, h2⟩ := getN_some h
  have : cs[o]? = ([v] : List Value)[0]? := by rw [h2, List.getElem?_take_of_lt (by omega), List.getElem?_drop]; rfl
  exact this
def szItem (x : PItem) : Nat := 500 + x.name.size + x.width.p.size + x.depth.p.size + x.init.p.size + szEx x.a + szEx x.b + szEx x.c + x.rule.src.size + x.of_.size + szNums x.args + szBinds x.ports
def szMod (x : PMod) : Nat := 100 + x.name.size + x.clock.size + szStrs x.params + szL (fun i => 10 + szItem i) x.items
abbrev szFile (l : List PMod) : Nat := szL szMod l
theorem szEx_eq (e : Ex) : szEx e = 200 + e.name.size + e.k.p.size + e.w.p.size + szExs e.args := by cases e; rw [szEx]; rfl
theorem szExs_mem {l : List Ex} {e : Ex} (h : e ∈ l) : szEx e ≤ szExs l := by
  induction l with
  | nil => cases h
  | cons a l ih =>
    rw [szExs]
    rcases List.mem_cons.1 h with rfl | h
    · omega
    · have := ih h; omega
end Sl
end Go.Proofs.YtanhehbfbakdcaaGreatDoor
