/- Digests as plain functions. Own work. -/
import Derived.Test.YtanhehbfbakdcaaGreatDoorU64
namespace Go.Proofs.YtanhehbfbakdcaaGreatDoor
namespace Sl
open Go
def stp1 (h w : UInt64) : UInt64 := (h ^^^ w) * (15485907386658061715 : UInt64)
def stp (h w : UInt64) : UInt64 := (stp1 h w ^^^ (stp1 h w >>> UInt64.ofNat 32)) * (11562461410679940143 : UInt64)
/-- the word of the first k bytes -/
def wrdN (l : List UInt8) : Nat → UInt64
  | 0 => 0
  | k + 1 => wrdN l k ||| (UInt64.ofNat (l.getD k 0).toNat <<< UInt64.ofNat (8 * k))
def grpN : Nat → List UInt8 → List UInt64
  | 0, _ => []
  | f + 1, l => if l.length = 0 then [] else wrdN l (min 8 l.length) :: grpN f (l.drop 8)
def grp (l : List UInt8) : List UInt64 := grpN l.length l
theorem grpN_fuel : ∀ (f g : Nat) (l : List UInt8), l.length ≤ f → l.length ≤ g → grpN f l = grpN g l
  | 0, g, l, h1, h2 => by
    have : l.length = 0 := by omega
    cases g <;> simp [grpN, this]
  | f + 1, 0, l, h1, h2 => by
    have : l.length = 0 := by omega
    simp [grpN, this]
  | f + 1, g + 1, l, h1, h2 => by
    simp only [grpN]
    split
    · rfl
    · rw [grpN_fuel f g (l.drop 8) (by simp; omega) (by simp; omega)]
theorem grp_nil {l : List UInt8} (h : l.length = 0) : grp l = [] := by rw [grp, h]; rfl
theorem grp_cons {l : List UInt8} (h : 0 < l.length) : grp l = wrdN l (min 8 l.length) :: grp (l.drop 8) := by
  obtain ⟨f, hf⟩ : ∃ f, l.length = f + 1 := ⟨l.length - 1, by omega⟩
  rw [grp, hf, grpN, if_neg (by omega), grp, grpN_fuel f (l.drop 8).length _ (by simp; omega) (Nat.le_refl _), hf]
def dig0 : UInt64 := 422944466291
def dig (l : List UInt8) : UInt64 := stp ((grp l).foldl stp dig0) (UInt64.ofNat l.length)
theorem u8_at {l : List UInt8} {i : Nat} (h : i < l.length) : (l.map u8)[i]? = some (u8 (l.getD i 0)) := by
  rw [List.getElem?_map, List.getElem?_eq_getElem h, Option.map_some, List.getD_eq_getElem?_getD, List.getElem?_eq_getElem h]; rfl
theorem wrdN_succ (l : List UInt8) (i k : Nat) : wrdN (l.drop i) (k + 1) = wrdN (l.drop i) k ||| (UInt64.ofNat (l.getD (i + k) 0).toNat <<< UInt64.ofNat (8 * k)) := by
  rw [wrdN, List.getD_eq_getElem?_getD, List.getElem?_drop, ← List.getD_eq_getElem?_getD]
theorem grp_step {l : List UInt8} {i : Nat} (h : i < l.length) (a : UInt64) : (grp (l.drop i)).foldl stp a = (grp (l.drop (i + 8))).foldl stp (stp a (wrdN (l.drop i) (min 8 (l.length - i)))) := by
  rw [grp_cons (l := l.drop i) (by rw [List.length_drop]; omega), List.foldl_cons, List.drop_drop, List.length_drop]
theorem Slc.len8 {m : Mem} {ad : Option Addr} {n c : Nat} {l : List UInt8} (h : Slc m 1 ad n c (l.map u8)) : l.length = n := by have := h.1; simpa using this
theorem drop_min (l : List UInt8) : l.drop (min 8 l.length) = l.drop 8 := by
  rcases Nat.le_total 8 l.length with h | h
  · rw [Nat.min_eq_left h]
  · rw [Nat.min_eq_right h, List.drop_eq_nil_of_le (Nat.le_refl _), List.drop_eq_nil_of_le h]
end Sl
end Go.Proofs.YtanhehbfbakdcaaGreatDoor
