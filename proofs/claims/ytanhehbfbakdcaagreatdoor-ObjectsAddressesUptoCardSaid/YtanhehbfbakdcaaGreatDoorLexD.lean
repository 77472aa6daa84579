/- The lexer as plain functions on lists of bytes. Own work. -/
import Derived.Test.YtanhehbfbakdcaaGreatDoorLib
import Derived.Deep.LoopGhost
set_option linter.unusedSimpArgs false
set_option linter.unusedVariables false
namespace Go.Proofs.YtanhehbfbakdcaaGreatDoor
namespace Sl
open Go

/-- class of a byte: 1 letter, 2 digit, 3 white, 4 sign, 0 other -/
def signL : List Nat := [40, 41, 123, 125, 91, 93, 44, 59, 58, 61, 43, 45, 38, 124, 94, 126, 60, 63, 64, 35, 46]
def cls (c : Nat) : Int := if 97 ≤ c ∧ c ≤ 122 then 1 else if 48 ≤ c ∧ c ≤ 57 then 2 else if c = 32 ∨ c = 10 then 3 else if c ∈ signL then 4 else 0
def tab (f : Nat → Int) : List Value := (List.range 256).map fun i => .int .u8 (f i)
theorem tab_length (f : Nat → Int) : (tab f).length = 256 := by simp [tab]
theorem tab_at (f : Nat → Int) (i : Nat) (h : i < 256) : (tab f)[i]? = some (.int .u8 (f i)) := by simp [tab, h]
def upd (f : Nat → Int) (j : Nat) (v : Int) : Nat → Int := fun i => if i = j then v else f i
theorem setN_of {cs vs : List Value} {o : Nat} (h : o + vs.length ≤ cs.length) : setN cs o vs = some (cs.take o ++ vs ++ cs.drop (o + vs.length)) := by
  induction cs generalizing o vs with
  | nil =>
    obtain ⟨rfl, rfl⟩ : o = 0 ∧ vs = [] := by simpa using h
    simp [setN]
  | cons c cs ih =>
    cases o with
    | zero =>
      cases vs with
      | nil => simp [setN]
      | cons v vs =>
        have := ih (o := 0) (vs := vs) (by simp at *; omega)
        simp only [setN, this]
        simp [consO]
    | succ o =>
      have := ih (o := o) (vs := vs) (by simp at *; omega)
      have e : setN (c :: cs) (o + 1) vs = consO c (setN cs o vs) := by cases vs <;> rfl
      rw [e, this]
      simp [consO, Nat.add_right_comm]
theorem setN_one : ∀ {cs : List Value} {j : Nat} {v : Value}, j < cs.length → setN cs j [v] = some (cs.set j v)
  | [], _, _, h => by simp at h
  | c :: cs, 0, v, _ => by simp [setN, consO]
  | c :: cs, j + 1, v, h => by
    have := setN_one (cs := cs) (j := j) (v := v) (by simpa using h)
    simp [setN, this, consO]
theorem setN_tab (f : Nat → Int) (j : Nat) (v : Int) (h : j < 256) : setN (tab f) j [.int .u8 v] = some (tab (upd f j v)) := by
  rw [setN_one (by rw [tab_length]; exact h)]
  congr 1
  apply List.ext_getElem
  · simp [tab]
  · intro i h1 h2
    by_cases e : i = j
    · subst e; simp [tab, upd]
    · simp [tab, upd, e, List.getElem_set_ne (Ne.symm e)]

structure Tok where
  kind : Int
  text : ByteArray
  at_ : Int
  deriving DecidableEq
def Tok.cells (t : Tok) : List Value := [.int .i64 t.kind, .string t.text, .int .i64 t.at_]
def tokCells (l : List Tok) : List Value := l.flatMap Tok.cells
theorem tokCells_length (l : List Tok) : (tokCells l).length = l.length * 3 := by
  induction l with
  | nil => rfl
  | cons t l ih => simp only [tokCells, List.flatMap_cons, List.length_append] at *; simp [Tok.cells, ih]; omega
theorem tokCells_at (l : List Tok) (i j : Nat) (t : Tok) (h : l[i]? = some t) (hj : j < 3) : (tokCells l)[i * 3 + j]? = t.cells[j]? := by
  induction l generalizing i with
  | nil => simp at h
  | cons u l ih =>
    simp only [tokCells, List.flatMap_cons]
    cases i with
    | zero =>
      have : u = t := by simpa using h
      subst this
      rw [Nat.zero_mul, Nat.zero_add, List.getElem?_append_left (by simp [Tok.cells]; omega)]
    | succ i =>
      have h' : l[i]? = some t := by simpa using h
      rw [List.getElem?_append_right (by simp [Tok.cells]; omega)]
      have := ih i h'
      rw [show (i + 1) * 3 + j - u.cells.length = i * 3 + j by simp [Tok.cells]; omega]
      exact this
/-- The cells of a scanner. -/
def scn (s : ByteArray) (i : Int) (tv : Value) : List Value := .string s :: .int .i64 i :: (tab cls ++ [tv])
theorem scn_cls (s : ByteArray) (i : Int) (tv : Value) (c : Nat) (h : c < 256) : (scn s i tv)[2 + c]? = some (.int .u8 (cls c)) := by
  rw [Nat.add_comm 2 c]
  show (tab cls ++ [tv])[c]? = _
  rw [List.getElem?_append_left (by rw [tab_length]; exact h), tab_at _ _ h]
theorem scn_tok (s : ByteArray) (i : Int) (tv : Value) : (scn s i tv)[258]? = some tv := by
  show (tab cls ++ [tv])[256]? = _
  rw [List.getElem?_append_right (by rw [tab_length]; omega), tab_length]
  rfl
theorem scn_set (s : ByteArray) (i : Int) (tv u : Value) : setN (scn s i tv) 258 [u] = some (scn s i u) := by
  rw [setN_one (by simp [scn, tab_length])]
  simp [scn, tab_length]
theorem scn_at (s : ByteArray) (i j : Int) (tv : Value) : setN (scn s i tv) 1 [.int .i64 j] = some (scn s j tv) := by
  rw [setN_one (by simp [scn])]
  rfl
/-- The bytes from 'i' on. -/
def rest (s : ByteArray) (i : Nat) : List UInt8 := s.data.toList.drop i
def isB (s : ByteArray) (j : Nat) (cl : List Int) : Bool := decide (j < s.size) && cl.contains (cls (bt s j).toNat)
theorem bt_lt (s : ByteArray) (j : Nat) : (bt s j).toNat < 256 := by have := bt_range s j; omega
def inC (cl : List Int) (c : UInt8) : Bool := cl.contains (cls c.toNat)
theorem rest_at (s : ByteArray) (i j : Nat) (h : i + j < s.size) : (rest s i)[j]? = some (s.data[i + j]'h) := by
  simp only [rest, List.getElem?_drop]
  rw [List.getElem?_eq_getElem (by simpa using h)]
  simp
theorem rest_none (s : ByteArray) (i j : Nat) (h : s.size ≤ i + j) : (rest s i)[j]? = none := by
  simp only [rest, List.getElem?_drop]
  exact List.getElem?_eq_none (by simpa using h)
theorem bt_eq (s : ByteArray) (i : Nat) (h : i < s.size) : (bt s i).toNat = (s.data[i]'h).toNat := by
  unfold bt
  rw [Array.getElem?_eq_getElem h]
  simp
theorem isB_rest (s : ByteArray) (i j : Nat) (cl : List Int) : isB s (i + j) cl = ((rest s i)[j]?).any (inC cl) := by
  unfold isB
  by_cases h : i + j < s.size
  · rw [rest_at s i j h, bt_eq s (i + j) h]
    simp [h, inC]
  · rw [rest_none s i j (by omega)]
    simp [h]
theorem takeWhile_len {α : Type} {l : List α} {p : α → Bool} : ∀ {n : Nat}, (∀ j, j < n → (l[j]?).any p = true) → (l[n]?).any p = false → (l.takeWhile p).length = n := by
  induction l with
  | nil =>
    intro n h1 _
    cases n with
    | zero => rfl
    | succ n => have := h1 0 (by omega); simp at this
  | cons c l ih =>
    intro n h1 h2
    cases n with
    | zero =>
      have : p c = false := by simpa using h2
      simp [this]
    | succ n =>
      have h0 : p c = true := by simpa using h1 0 (by omega)
      rw [List.takeWhile_cons, if_pos h0, List.length_cons, ih (n := n) (fun j hj => by simpa using h1 (j + 1) (by omega)) (by simpa using h2)]
/-- How many letters and digits stand at 'i'. -/
def wl (s : ByteArray) (i : Nat) : Nat := ((rest s i).takeWhile (inC [1, 2])).length
theorem wl_of {s : ByteArray} {i n : Nat} (h1 : ∀ j, j < n → isB s (i + j) [1, 2] = true) (h2 : isB s (i + n) [1, 2] = false) : wl s i = n :=
  takeWhile_len (fun j hj => by rw [← isB_rest]; exact h1 j hj) (by rw [← isB_rest]; exact h2)
theorem extract_rest (s : ByteArray) (i : Nat) : (s.extract i s.size).data.toList = rest s i := by
  rw [Lib.extract_data]
  unfold rest
  exact List.take_of_length_le (by simp)
theorem rest_length (s : ByteArray) (i : Nat) : (rest s i).length = s.size - i := by simp [rest]
theorem index_take (l : List UInt8) (c : UInt8) : (Lib.indexByte l c = -1 ∧ (l.takeWhile (· != c)).length = l.length) ∨ (0 ≤ Lib.indexByte l c ∧ Lib.indexByte l c = (l.takeWhile (· != c)).length) := by
  induction l with
  | nil => exact .inl ⟨rfl, rfl⟩
  | cons b l ih =>
    by_cases h : b = c
    · subst h
      exact .inr (by simp [Lib.indexByte])
    · have hb : (b == c) = false := by simp [h]
      rcases ih with ⟨h1, h2⟩ | ⟨h1, h2⟩
      · left
        simp [Lib.indexByte, hb, h1, h, h2]
      · right
        have : (Lib.indexByte l c == -1) = false := by simp; omega
        simp only [Lib.indexByte, hb, this, Bool.false_eq_true, if_false, List.takeWhile_cons]
        simp [h]
        omega
/-- How many bytes of white space or comment stand at 'i'. -/
def spN (s : ByteArray) (i : Nat) : Nat := if isB s i [3] then 1 else if Lib.hasPrefix (rest s i) [47, 47] then ((rest s i).takeWhile (· != 10)).length else 0
/-- How long a sign stands at 'i'. -/
def sgn (s : ByteArray) (i : Nat) : Nat := if Lib.hasPrefix (rest s i) [45, 62] then 2 else if Lib.hasPrefix (rest s i) [61, 61] then 2 else if isB s i [4] then 1 else 0
theorem prefix_le {l p : List UInt8} (h : Lib.hasPrefix l p = true) : p.length ≤ l.length := (List.isPrefixOf_iff_prefix.1 h).length_le
theorem wl_le (s : ByteArray) (i : Nat) (h : i ≤ s.size) : i + wl s i ≤ s.size := by
  have := (List.takeWhile_sublist (l := rest s i) (inC [1, 2])).length_le
  rw [rest_length] at this
  unfold wl; omega
theorem sgn_le (s : ByteArray) (i : Nat) (h : i ≤ s.size) : i + sgn s i ≤ s.size := by
  unfold sgn
  split
  · rename_i h1; have := prefix_le h1; rw [rest_length] at this; simp at this; omega
  · split
    · rename_i h1; have := prefix_le h1; rw [rest_length] at this; simp at this; omega
    · split
      · rename_i h1; simp [isB] at h1; omega
      · omega
theorem spN_le (s : ByteArray) (i : Nat) (h : i ≤ s.size) : i + spN s i ≤ s.size := by
  unfold spN
  split
  · rename_i h1; simp [isB] at h1; omega
  · split
    · have := (List.takeWhile_sublist (l := rest s i) (· != 10)).length_le
      rw [rest_length] at this; omega
    · omega
end Sl
end Go.Proofs.YtanhehbfbakdcaaGreatDoor
