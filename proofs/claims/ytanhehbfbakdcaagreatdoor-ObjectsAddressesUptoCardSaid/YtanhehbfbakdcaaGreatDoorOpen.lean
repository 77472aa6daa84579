/- From what a reading (DataW.trod) says to what my logic asks: slices of bytes, slices of them, triples. Own work. -/
import Derived.Test.YtanhehbfbakdcaaGreatDoorRaw
import Derived.Test.YtanhehbfbakdcaaGreatDoorRows
import Derived.Deep.Slices
import Derived.OpenShut
set_option linter.unusedSimpArgs false
set_option linter.unusedVariables false
namespace Go.Proofs.YtanhehbfbakdcaaGreatDoor
namespace Sl
open Go Go.RowKit Go.ChangeShapes Go.WideShapes Go.Deep

/-! ### 1. Bulk -/
theorem bulk_pos {H : Type} (d : DataW H) : 1 ≤ Rows.uptoBulk d := by
  cases d with
  | lit l => cases l <;> simp [Rows.uptoBulk]
  | nil => simp [Rows.uptoBulk]
  | ptr d => simp [Rows.uptoBulk]
  | slice elems spare => simp [Rows.uptoBulk]
  | agg parts => simp [Rows.uptoBulk]
  | iface t d => simp [Rows.uptoBulk]
  | map entries => simp [Rows.uptoBulk]
  | held h => simp [Rows.uptoBulk]
theorem bulk_mem {H : Type} {d : DataW H} {l : List (DataW H)} (h : d ∈ l) : Rows.uptoBulk d ≤ Rows.uptoBulkAll l := by
  induction l with
  | nil => cases h
  | cons x r ih =>
    simp only [Rows.uptoBulkAll]
    rcases List.mem_cons.1 h with e | e
    · subst e; omega
    · have := ih e; omega
theorem bulk_len {H : Type} (l : List (DataW H)) : l.length ≤ Rows.uptoBulkAll l := by
  induction l with
  | nil => simp [Rows.uptoBulkAll]
  | cons x r ih => have := bulk_pos x; simp only [Rows.uptoBulkAll, List.length_cons]; omega
theorem bulk_slice {H : Type} (a b : List (DataW H)) : a.length ≤ Rows.uptoBulk (.slice a b) := by
  have := bulk_len a
  simp only [Rows.uptoBulk]; omega
theorem bulk_part {H : Type} {d : DataW H} {a b : List (DataW H)} (h : d ∈ a) : Rows.uptoBulk d ≤ Rows.uptoBulk (.slice a b) := by
  have := bulk_mem h
  simp only [Rows.uptoBulk]; omega

/-! ### 2. A world as frozen memory -/
def all (w : World) : Mem := fun b => w.heap[b]?
theorem St.start (w : World) : St w w (all w) [] := ⟨Kep.refl w, fun _ _ h => h, fun _ => none, fun _ => rfl, fun _ _ h => by cases h⟩
theorem St.below_all {w w' : World} {m' : Mem} {L : List Res} (H : St w w' m' L) (k : Le (all w) m') : Below w.heap.size w w' :=
  ⟨H.io.os, H.io.tape, H.io.output, H.io.size, fun j hj => by
    have h := k j _ (show all w j = some w.heap[j] from Array.getElem?_eq_getElem hj)
    rw [H.frz _ _ h, Array.getElem?_eq_getElem hj]⟩
theorem cell_at {w : World} {a : Addr} {v : Value} (h : w.cell? a = some v) : a.spot = none ∧ ∃ c e fr, w.heap[a.block]? = some (.cells c e fr) ∧ c[a.off]? = some v := by
  unfold World.cell? at h
  split at h
  · rename_i c e fr hh
    split at h
    · cases h
    · rename_i hs
      exact ⟨by simpa using hs, c, e, fr, hh, h⟩
  · cases h
theorem slc_of_cells {w : World} {a : Addr} {size n c : Nat} {V : Nat → Value} (hn : n ≤ c) (hc : c ≤ maxLen) (hs : 0 < size) (h : ∀ i, i < n * size → w.cell? (a.add i) = some (V i)) :
    Slc (all w) size (some a) n c ((List.range (n * size)).map V) := by
  refine ⟨by simp, hn, hc, fun hp => ?_⟩
  have hp' : 0 < n * size := Nat.mul_pos hp hs
  have h0 := h 0 hp'
  rw [show a.add 0 = a by simp [Addr.add]] at h0
  obtain ⟨hspot, cs, e, fr, hb, _⟩ := cell_at h0
  obtain ⟨b, off, spot⟩ := a
  simp only at hspot hb
  subst hspot
  refine ⟨b, off, cs.toList, rfl, ⟨e, fr, by simpa [all] using hb⟩, ?_⟩
  have key : ∀ i, i < n * size → cs[off + i]? = some (V i) := by
    intro i hi
    obtain ⟨_, c2, e2, fr2, hb2, hv⟩ := cell_at (h i hi)
    have hblk : (Addr.add ⟨b, off, none⟩ i).block = b := by unfold Addr.add; split <;> rfl
    have hoff : (Addr.add ⟨b, off, none⟩ i).off = off + i := by unfold Addr.add; split <;> simp_all
    rw [hblk, hb] at hb2
    rw [hoff] at hv
    cases hb2
    exact hv
  apply List.ext_getElem?
  intro i
  by_cases hi : i < n * size
  · rw [List.getElem?_take_of_lt hi, List.getElem?_drop, Array.getElem?_toList, key i hi]
    simp [hi]
  · rw [List.getElem?_take_eq_none (by omega), List.getElem?_eq_none (by simp; omega)]

/-! ### 3. Slices of bytes -/
def byteOf (z : Int) : UInt8 := z.toNat.toUInt8
theorem u8_byteOf {z : Int} (h : (Lit.int .u8 z).wf = true) : Value.int .u8 z = u8 (byteOf z) := by
  simp only [Lit.wf, Bool.and_eq_true, decide_eq_true_eq] at h
  have h1 : 0 ≤ z := by simpa [IntKind.min, IntKind.signed] using h.1
  have h2 : z ≤ 255 := by simpa [IntKind.max, IntKind.signed, IntKind.bits] using h.2
  obtain ⟨n, rfl⟩ := Int.eq_ofNat_of_zero_le h1
  have : n < 256 := by omega
  simp [u8, byteOf, Nat.mod_eq_of_lt this]
section
variable {H : Type} {enc : TypeId × Value → H} {P : Program} {w : World} {held : Bool}
theorem open_bytes {t e fuel : Nat} {cs : List Value} {x : DataW H × List MemPlace} (ht : P.underlying t = some (.slice e)) (he : P.underlying e = some (.int .u8)) (hc : P.cellsOf e = 1)
    (h : DataW.trod enc P w 0 (fun _ => true) held fuel t cs = some x) :
    ∃ ad n c d, cs = [.slice ad n c] ∧ Slc (all w) 1 ad n c (List.map u8 d) ∧ n ≤ Rows.uptoBulk x.1 := by
  rcases open_ints ht he hc h with ⟨rfl, rfl⟩ | ⟨a, len, cap, zs, rfl, _, hl, hm, hz, rfl, hcell, hw⟩
  · exact ⟨none, 0, 0, [], rfl, Slc.nil _ _ _ _ (by unfold maxLen; omega), Nat.zero_le _⟩
  · simp only [if_true] at hz
    refine ⟨some a, len, cap, (zs.take len).map byteOf, rfl, ?_, ?_⟩
    · have := slc_of_cells (w := w) (a := a) (size := 1) (n := len) (c := cap) (V := fun i => u8 (byteOf (zs.getD i 0))) hl hm (by omega) (fun i hi => by
        have hi' : i < zs.length := by omega
        rw [hcell i hi', u8_byteOf (hw _ (by simp [List.getD, hi']))])
      have e : (List.range (len * 1)).map (fun i => u8 (byteOf (zs.getD i 0))) = List.map u8 ((zs.take len).map byteOf) := by
        apply List.ext_getElem?
        intro i
        by_cases hi : i < len
        · have hi' : i < zs.length := by omega
          simp [hi, hi', List.getD]
        · rw [List.getElem?_eq_none (by simp; omega), List.getElem?_eq_none (by simp; omega)]
      rwa [e] at this
    · have := bulk_slice (H := H) (lits .u8 (zs.take len)) (lits .u8 (zs.drop len))
      have e : (lits (H := H) .u8 (zs.take len)).length = len := by simp [lits]; omega
      rw [e] at this; exact this

/-! ### 4. Slices of slices of bytes -/
theorem dr_of {m : Mem} {n : Nat} {V : Nat → Value} {d : Nat → List UInt8} (h : ∀ i, i < n → Dat m (V i) (d i)) : DR m ((List.range n).map V) ((List.range n).map d) := by
  have gen : ∀ l : List Nat, (∀ i ∈ l, i < n) → DR m (l.map V) (l.map d) := by
    intro l
    induction l with
    | nil => intro _; trivial
    | cons i l ih => intro hl; exact ⟨h i (hl i (by simp)), ih fun j hj => hl j (by simp [hj])⟩
  exact gen _ fun i hi => List.mem_range.1 hi
theorem open_dats {t e q fuel : Nat} {cs : List Value} {x : DataW H × List MemPlace} (ht : P.underlying t = some (.slice e)) (hc1 : P.cellsOf e = 1) (he : P.underlying e = some (.slice q)) (hq : P.underlying q = some (.int .u8)) (hcq : P.cellsOf q = 1)
    (h : DataW.trod enc P w 0 (fun _ => true) held fuel t cs = some x) (hb : Rows.uptoBulk x.1 ≤ 1048576) :
    ∃ ad n c ls, cs = [.slice ad n c] ∧ Dats (all w) ad n c ls ∧ n ≤ Rows.uptoBulk x.1 := by
  rcases open_slice1 ht hc1 h with ⟨rfl, rfl⟩ | ⟨a, len, cap, m, n, V, D, Pl, rfl, _, hl, hm, hmm, rfl, hx⟩
  · exact ⟨none, 0, 0, [], rfl, ⟨rfl, [], Slc.nil _ _ _ _ (by unfold maxLen; omega), trivial⟩, Nat.zero_le _⟩
  · simp only [if_true] at hmm
    subst hmm
    have each : ∀ i, i < len → ∃ d, Dat (all w) (V i) d := by
      intro i hi
      obtain ⟨_, h2⟩ := hx i (by omega)
      obtain ⟨ad, n', c', d, e1, e2, e3⟩ := open_bytes he hq hcq h2
      have : V i = .slice ad n' c' := by simpa using e1
      have hp : Rows.uptoBulk (D i) ≤ Rows.uptoBulk (DataW.slice ((List.range len).map D) ((List.range (m - len)).map fun j => D (len + j))) := bulk_part (List.mem_map.2 ⟨i, List.mem_range.2 hi, rfl⟩)
      simp only at e3 hb
      exact ⟨d, ad, n', c', this, e2, by omega⟩
    obtain ⟨d, hd⟩ := choose_lt (α := List UInt8) each
    refine ⟨some a, len, m, (List.range len).map d, rfl, ⟨by simp, (List.range len).map V, ?_, dr_of hd⟩, ?_⟩
    · have := slc_of_cells (w := w) (a := a) (size := 1) (n := len) (c := m) (V := V) hl hm (by omega) (fun i hi => (hx i (by omega)).1)
      rwa [Nat.mul_one] at this
    · have := bulk_slice (H := H) ((List.range len).map D) ((List.range (m - len)).map fun j => D (len + j))
      simpa using this

/-! ### 5. Slices of triples of bytes -/
theorem open_tri {e q fuel : Nat} {cs : List Value} {x : DataW H × List MemPlace} (he : P.underlying e = some (.array 3 q)) (hce : P.cellsOf e = 3) (hq : P.underlying q = some (.int .u8)) (hcq : P.cellsOf q = 1)
    (h : DataW.trod enc P w 0 (fun _ => true) held fuel e cs = some x) : ∃ t, cs = triC t := by
  obtain ⟨xs, m, _, rfl, hl, hxl, hx⟩ := DataW.trod_array he h
  rw [hce] at hl
  match cs, hl with
  | [v0, v1, v2], _ =>
    have g : ∀ i, i < 3 → ∃ y, DataW.trod enc P w 0 (fun _ => true) held m q (([v0, v1, v2].drop i).take 1) = some y := by
      intro i hi
      have := hx i hi
      rw [hcq, Nat.mul_one] at this
      rw [this]
      exact ⟨_, List.getElem?_eq_getElem (by omega)⟩
    obtain ⟨y0, g0⟩ := g 0 (by omega)
    obtain ⟨y1, g1⟩ := g 1 (by omega)
    obtain ⟨y2, g2⟩ := g 2 (by omega)
    obtain ⟨z0, e0, _, w0⟩ := DataW.trod_int hq g0
    obtain ⟨z1, e1, _, w1⟩ := DataW.trod_int hq g1
    obtain ⟨z2, e2, _, w2⟩ := DataW.trod_int hq g2
    simp at e0 e1 e2
    subst e0 e1 e2
    exact ⟨(byteOf z0, byteOf z1, byteOf z2), by simp only [triC, u8_byteOf w0, u8_byteOf w1, u8_byteOf w2]⟩
theorem add_addr (a : Addr) (i j : Nat) : (a.add i).add j = a.add (i + j) := Deep.add_add a i j
theorem range_tri {n : Nat} {T : Nat → UInt8 × UInt8 × UInt8} {V : Nat → Value} (h : ∀ i, i < n → ∀ j, j < 3 → some (V (i * 3 + j)) = (triC (T i))[j]?) : (List.range (n * 3)).map V = ((List.range n).map T).flatMap triC := by
  apply List.ext_getElem?
  intro k
  by_cases hk : k < n * 3
  · have hi : k / 3 < n := by omega
    have hj : k % 3 < 3 := by omega
    have e : k = k / 3 * 3 + k % 3 := by omega
    have h1 := h (k / 3) hi (k % 3) hj
    rw [← e] at h1
    have h2 : ((List.range n).map T)[k / 3]? = some (T (k / 3)) := by simp [hi]
    have h3 := tri_at h2 hj
    rw [← e] at h3
    rw [h3, ← h1]
    simp [hk]
  · rw [List.getElem?_eq_none (by simp; omega), List.getElem?_eq_none]
    have : ∀ l : List (UInt8 × UInt8 × UInt8), (l.flatMap triC).length = l.length * 3 := by
      intro l
      induction l with
      | nil => rfl
      | cons t l ih => simp [List.flatMap_cons, ih, triC]; omega
    rw [this]; simp; omega
theorem open_tris {t e q fuel : Nat} {cs : List Value} {x : DataW H × List MemPlace} (ht : P.underlying t = some (.slice e)) (he : P.underlying e = some (.array 3 q)) (hce : P.cellsOf e = 3) (hq : P.underlying q = some (.int .u8)) (hcq : P.cellsOf q = 1)
    (h : DataW.trod enc P w 0 (fun _ => true) held fuel t cs = some x) :
    ∃ ad n c ts, cs = [.slice ad n c] ∧ Tris (all w) ad n c ts ∧ n ≤ Rows.uptoBulk x.1 := by
  rcases open_slice ht h with ⟨rfl, rfl⟩ | ⟨a, len, cap, m, n, D, Pl, rfl, _, hl, hm, hmm, rfl, hx⟩
  · exact ⟨none, 0, 0, [], rfl, ⟨rfl, Slc.nil _ _ _ _ (by unfold maxLen; omega)⟩, Nat.zero_le _⟩
  · simp only [if_true] at hmm
    subst hmm
    rw [hce] at hx
    obtain ⟨T, hT⟩ := choose_lt (α := UInt8 × UInt8 × UInt8) (n := len) (p := fun i t => w.cells? 0 (a.add (i * 3)) 3 = some (triC t)) (fun i hi => by
      obtain ⟨cs', h1, h2⟩ := hx i (by omega)
      obtain ⟨t, rfl⟩ := open_tri he hce hq hcq h2
      exact ⟨t, h1⟩)
    have cell : ∀ i, i < len → ∀ j, j < 3 → w.cell? (a.add (i * 3 + j)) = (triC (T i))[j]? := fun i hi j hj => by
      have := (World.cells?_some (hT i hi)).2.2 j hj
      rwa [add_addr] at this
    let V : Nat → Value := fun k => ((triC (T (k / 3)))[k % 3]?).getD (.bool false)
    have hV : ∀ i, i < len → ∀ j, j < 3 → some (V (i * 3 + j)) = (triC (T i))[j]? := by
      intro i hi j hj
      have e1 : (i * 3 + j) / 3 = i := by omega
      have e2 : (i * 3 + j) % 3 = j := by omega
      simp only [V, e1, e2]
      have : j < (triC (T i)).length := by simp [triC]; omega
      simp [this]
    refine ⟨some a, len, m, (List.range len).map T, rfl, ⟨by simp, ?_⟩, ?_⟩
    · have := slc_of_cells (w := w) (a := a) (size := 3) (n := len) (c := m) (V := V) hl hm (by omega) (fun k hk => by
        have e : k = k / 3 * 3 + k % 3 := by omega
        have h1 := cell (k / 3) (by omega) (k % 3) (by omega)
        have h2 := hV (k / 3) (by omega) (k % 3) (by omega)
        rw [← e] at h1 h2
        rw [h1, h2])
      rwa [range_tri hV] at this
    · have := bulk_slice (H := H) ((List.range len).map D) ((List.range (m - len)).map fun j => D (len + j))
      simpa using this
end
end Sl
end Go.Proofs.YtanhehbfbakdcaaGreatDoor
