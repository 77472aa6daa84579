/- The printer's walks: printed by my gen.py out of annotations. -/
import Derived.Test.YtanhehbfbakdcaaGreatDoorZ71
import Derived.Maps.RangeRun
import Derived.Laws.StructEq
import Derived.LaidEqlPtr
import Derived.Lib.AppendStr
import Derived.Test.YtanhehbfbakdcaaGreatDoorProg
import Derived.Deep.LoopGhost
import Derived.Lib.Builder
import Derived.Lib.UnsafeStr
import Derived.Lib.ItoaLen
/- Stores: the reference's Store: walk, printed by my gen.py out of annotations. -/
set_option linter.unusedSimpArgs false
set_option linter.unusedVariables false
namespace Go.Proofs.YtanhehbfbakdcaaGreatDoor
namespace Sl
open Go

def st1P (ls : List (List UInt8)) : List Obj := ls.foldl (fun s d => putR s (d.take 40)) []
def dmg1P (s : List Obj) (t : UInt8 × UInt8 × UInt8) : List Obj := match s[t.1.toNat % s.length]? with
  | some o => s.set (t.1.toNat % s.length) ⟨o.id, brkP o.data t.2.1 t.2.2⟩
  | none => s
def storeP (ls : List (List UInt8)) (ts : List (UInt8 × UInt8 × UInt8)) : List Obj := (ts.take 4).foldl dmg1P (st1P (ls.take 8))
theorem dmg_nil : ∀ (ts : List (UInt8 × UInt8 × UInt8)) (s : List Obj), s.length = 0 → ts.foldl dmg1P s = s
  | [], _, _ => rfl
  | t :: ts, s, h => by
    have e : dmg1P s t = s := by
      have : s = [] := List.eq_nil_of_length_eq_zero h
      subst this; rfl
    rw [List.foldl_cons, e, dmg_nil ts s h]
theorem putR_len (s : List Obj) (d : List UInt8) : (putR s d).length ≤ s.length + 1 := by
  unfold putR withP
  split
  · omega
  · simp only [List.length_append, List.length_take, List.length_drop, List.length_cons, List.length_nil]
    have := lbP_le s (dig d)
    omega
theorem st1P_snoc {ls : List (List UInt8)} {i : Nat} {d : List UInt8} (h : ls[i]? = some d) : st1P (ls.take (i + 1)) = putR (st1P (ls.take i)) (d.take 40) := by
  unfold st1P; rw [List.take_add_one, h, List.foldl_append]; rfl

theorem c_wireloomref18_Store {adL adB : Option Addr} {nL cL nB cB : Nat} {ls : List (List UInt8)} {ts : List (UInt8 × UInt8 × UInt8)} {m : Mem} (hLs : Dats m adL nL cL ls) (hB : Tris m adB nB cB ts) (hnL : nL ≤ 1100000) (hnB : nB ≤ 1100000) : Spec Tryz.prog 10 #[.agg #[.slice adL nL cL, .slice adB nB cB]] m [] (RetF fun m' v => ∃ ad' c', v = .slice ad' (storeP ls ts).length c' ∧ Objs m' ad' (storeP ls ts).length c' (storeP ls ts)) := by
  refine Spec.enter0 Tryz.func10 rfl 88 Tryz.ntmps10 rfl fun a w0 Lf A H => ?_
  have hM := Le.refl m
  have hmx : maxLen = 9223372036854775807 := rfl
  have eL := hLs.1
  have eB := hB.1
  refine wp_seq ?_
  refine wp_region_lit ?_
  refine step_box A H rfl (by simp only [Value.cells, List.toList_toArray]; rfl) rfl ?_; intro b1 a w A H
  refine step (Runs.assign A rfl) A rfl ?_; clear A a; intro a A
  refine wpList_nil ?_
  refine wp_seq ?_
  refine wp_region_lit ?_
  refine step_slice A H rfl rfl rfl rfl rfl rfl ?_; intro b2 a w A H
  refine step (Runs.assign A rfl) A rfl ?_; clear A a; intro a A
  refine wpList_nil ?_
  refine wp_seq ?_
  refine wp_seq ?_
  refine wp_region_lit ?_
  refine step (Runs.assign A rfl) A rfl ?_; clear A a; intro a A
  refine wpList_nil ?_
  refine wp_block ?_
  refine wp_loop_ghost (fun q a w => ∃ (i : Nat) (ad1 : Option Addr) (c1 : Nat) (s : List Obj) (m' : Mem), q = 9 - i ∧ (i ≤ nL ∧ i ≤ 8 ∧ s = st1P (ls.take i) ∧ s.length ≤ i ∧ Objs m' ad1 s.length c1 s) ∧ Le m m' ∧ Fr 88 a [(1, .pointer (some ⟨b1, 0, none⟩)), (3, .slice ad1 s.length c1), (4, .int .i64 i)] [] ∧ St w0 w m' (pt b1 [.slice adL nL cL, .slice adB nB cB] 25 :: Lf)) _ ⟨0, some ⟨b2, 0, none⟩, 0, [], m, rfl, ⟨by omega, by omega, rfl, by simp, rfl, [], Slc.nil m 2 _ 0 (by unfold maxLen; omega), trivial⟩, Le.refl m, (Fr.cons A rfl (Fr.cons A rfl (Fr.cons A rfl (Fr.nil A)))), H.subH⟩ ?_
  clear A H; rintro q a w ⟨i, ad1, c1, s, m, rfl, hinv, hm, A, H⟩
  have hM := hM.trans hm
  have hLs := hLs.mono hm
  have hB := hB.mono hm
  have hl1 := hm
  obtain ⟨hiL, hi8, hst, hsl, hs⟩ := hinv
  refine wp_seq ?_
  refine wp_seq ?_
  refine wp_region_lit ?_
  refine step (Runs.move A rfl) A rfl ?_; clear A a; intro a A
  refine step (Runs.fa A rfl) A rfl ?_; clear A a; intro a A
  refine step (Runs.ld1 A H rfl rfl) A rfl ?_; clear A a; intro a A
  refine step (Runs.lenL A rfl SlC.h) A rfl ?_; clear A a; intro a A
  refine step (Runs.lss A rfl rfl) A rfl ?_; clear A a; intro a A
  refine step (Runs.move A rfl) A rfl ?_; clear A a; intro a A
  refine onBool A (dj := 13) rfl (fun h1 => ?_) (fun h1 => ?_)
  · have g1 := h1
    try simp only [decide_eq_true_eq, decide_eq_false_iff_not, Bool.not_eq_true', Bool.not_eq_false', ne_eq, Decidable.not_not, Int.not_lt, Int.not_le] at g1
    refine stepG (dj := 13) rfl rfl h1 (Runs.move A rfl) A rfl ?_; clear A a; intro a A
    refine stepG (dj := 13) rfl rfl h1 (Runs.lss A rfl rfl) A rfl ?_; clear A a; intro a A
    refine step (Runs.pickT A rfl h1 rfl) A rfl ?_; clear A a; intro a A
    refine wpList_nil ?_
    refine cond_split A rfl (fun h2 => ?_) (fun h2 => ?_)
    · have g2 := h2
      try simp only [decide_eq_true_eq, decide_eq_false_iff_not, Bool.not_eq_true', Bool.not_eq_false', ne_eq, Decidable.not_not, Int.not_lt, Int.not_le] at g2
      refine wp_skip ?_
      refine wp_seq ?_
      refine wp_block ?_
      obtain ⟨d, hd⟩ := ex_at (l := ls) (i := i) (by omega)
      obtain ⟨bb, off, cs, e0, hfz, hcs⟩ := hLs.all_ (by omega)
      obtain ⟨vd, hd1, adx, nx, cx, rfl, hsx, hnx⟩ := hcs _ _ hd
      have hmn : (if (40 : Int) < (nx : Int) then (40 : Int) else (nx : Int)) = ((min nx 40 : Nat) : Int) := by split <;> omega
      have hcx := hsx.2.1
      have hsq : Slc m 1 (cutAd adx cx 0 1) (min nx 40) cx ((d.take 40).map u8) := by
        have := hsx.hi (hi := min nx 40) (by omega)
        rw [Nat.mul_one, ← List.map_take] at this
        rwa [show d.take (min nx 40) = d.take 40 by rw [← hsx.len8]; rcases Nat.le_total d.length 40 with h | h <;> simp [h, List.take_of_length_le]] at this
      refine draw_begin (ms := m) (Ls := [pt b1 [.slice adL nL cL, .slice adB nB cB] 25]) (by kernel_rfl) (N := 17) rfl (by kernel_rfl) H ?_; clear H; intro w H hR
      have hS : SW m [pt b1 [.slice adL nL cL, .slice adB nB cB] 25] w := H.sw (Le.refl m)
      have hL := Le.refl m
      refine dstep hR (i := 0) rfl (by kernel_rfl) (fun _ _ _ h => h) (fun _ _ H' => (Runs.move A rfl)) A rfl hS ?_; clear A a hR; intro a A hR
      refine dstep hR (i := 1) rfl (by kernel_rfl) (fun _ _ _ h => h) (fun _ _ H' => (Runs.fa A rfl)) A rfl hS ?_; clear A a hR; intro a A hR
      refine dstep hR (i := 2) rfl (by kernel_rfl) (fun _ _ _ h => h) (fun _ _ H' => (Runs.ld1 A H' rfl rfl)) A rfl hS ?_; clear A a hR; intro a A hR
      refine dstep hR (i := 3) rfl (by kernel_rfl) (fun _ _ _ h => h) (fun _ _ H' => (Runs.move A rfl)) A rfl hS ?_; clear A a hR; intro a A hR
      try rw [e0] at A
      refine dstep hR (i := 4) rfl (by kernel_rfl) (fun _ _ _ h => h) (fun _ _ H' => (Runs.indexAddr A rfl rfl SlC.h (by omega) (by omega))) A rfl hS ?_; clear A a hR; intro a A hR
      refine dstep hR (i := 5) rfl (by kernel_rfl) (fun _ _ _ h => h) (fun _ _ H' => (Runs.ld1 A H' rfl (v := .slice adx nx cx) (by simpa using hd1))) A rfl hS ?_; clear A a hR; intro a A hR
      refine dstep hR (i := 6) rfl (by kernel_rfl) (fun _ _ _ h => h) (fun _ _ H' => (Runs.fa A rfl)) A rfl hS ?_; clear A a hR; intro a A hR
      refine dstep hR (i := 7) rfl (by kernel_rfl) (fun _ _ _ h => h) (fun _ _ H' => (Runs.ld1 A H' rfl rfl)) A rfl hS ?_; clear A a hR; intro a A hR
      refine dstep hR (i := 8) rfl (by kernel_rfl) (fun _ _ _ h => h) (fun _ _ H' => (Runs.move A rfl)) A rfl hS ?_; clear A a hR; intro a A hR
      try rw [e0] at A
      refine dstep hR (i := 9) rfl (by kernel_rfl) (fun _ _ _ h => h) (fun _ _ H' => (Runs.indexAddr A rfl rfl SlC.h (by omega) (by omega))) A rfl hS ?_; clear A a hR; intro a A hR
      refine dstep hR (i := 10) rfl (by kernel_rfl) (fun _ _ _ h => h) (fun _ _ H' => (Runs.ld1 A H' rfl (v := .slice adx nx cx) (by simpa using hd1))) A rfl hS ?_; clear A a hR; intro a A hR
      refine dstep hR (i := 11) rfl (by kernel_rfl) (fun _ _ _ h => h) (fun _ _ H' => (Runs.lenL A rfl SlC.h)) A rfl hS ?_; clear A a hR; intro a A hR
      refine dstep hR (i := 12) rfl (by kernel_rfl) (fun _ _ _ h => h) (fun _ _ H' => (Runs.min2 A rfl rfl)) A rfl hS ?_; clear A a hR; intro a A hR
      rw [hmn] at A
      refine dstep hR (i := 13) rfl (by kernel_rfl) (fun _ _ _ h => h) (fun _ _ H' => (Runs.sliceLhi A rfl rfl SlC.h (by omega) (by omega))) A rfl hS ?_; clear A a hR; intro a A hR
      refine dlist hR (i := 14) rfl (by kernel_rfl) ?_
      have hR := hR.next (i := 14) (by kernel_rfl)
      refine step_callF A rfl rfl (c_wireloomref18_PutIn hs (by omega) ⟨_, _, _, rfl, hsq, by omega⟩) H ?_
      rintro v5_14 a w m hm ⟨adp, cp, rfl, hput⟩ A H
      have hM := hM.trans hm
      have hl1 := hl1.trans hm
      have hLs := hLs.mono hm
      have hB := hB.mono hm
      have hs := hs.mono hm
      have hL := hL.trans hm
      refine wpList_nil ?_
      clear hS; refine and_keep (H.sw hL) fun hS => ?_
      refine dstep hR (i := 15) rfl (by kernel_rfl) (fun _ _ _ h => h) (fun _ _ H' => (Runs.field1 (ty := 31) A rfl FldC.h (by kernel_rfl) TyC.h rfl)) A rfl hS ?_; clear A a hR; intro a A hR
      refine dstep hR (i := 16) rfl (by kernel_rfl) (fun _ _ _ h => h) (fun _ _ H' => (Runs.assign A rfl)) A rfl hS ?_; clear A a hR; intro a A hR
      refine draw_done hR (by kernel_rfl) ?_
      clear hS hL hR
      refine wp_region_lit ?_
      refine step (Runs.move A rfl) A rfl ?_; clear A a; intro a A
      refine step (Runs.add A rfl rfl (by omega)) A rfl ?_; clear A a; intro a A
      refine step (Runs.assign A rfl) A rfl ?_; clear A a; intro a A
      refine wpList_nil ?_
      exact ⟨_, by omega, i + 1, _, _, putR s (d.take 40), m, rfl, ⟨by omega, by omega, by rw [st1P_snoc hd, hst], by have := putR_len s (d.take 40); omega, hput⟩, hl1, (Fr.cons A rfl (Fr.cons A rfl (Fr.cons A rfl (Fr.nil A)))), H.subH⟩
    · have g2 := h2
      try simp only [decide_eq_true_eq, decide_eq_false_iff_not, Bool.not_eq_true', Bool.not_eq_false', ne_eq, Decidable.not_not, Int.not_lt, Int.not_le] at g2
      refine wp_exit ?_
      refine wp_seq ?_
      refine wp_region_lit ?_
      refine step_slice A H rfl rfl rfl rfl rfl rfl ?_; intro b3 a w A H
      refine step (Runs.move A rfl) A rfl ?_; clear A a; intro a A
      have H := H.row_pt (n := 0) (size := 2) rfl (by omega)
      have hs' := hs
      obtain ⟨_, ys, hS1, hO1⟩ := hs'
      refine step_appendR A H rfl rfl hS1 hO1.one (by decide) (by omega) (by omega) rfl rfl ?_; clear A a; intro ad1 c1 a w A H
      refine step (Runs.assign A rfl) A rfl ?_; clear A a; intro a A
      refine wpList_nil ?_
      refine wp_seq ?_
      refine wp_seq ?_
      refine wp_region_lit ?_
      refine step (Runs.assign A rfl) A rfl ?_; clear A a; intro a A
      refine wpList_nil ?_
      refine wp_block ?_
      rw [Nat.zero_add] at A H
      rw [List.nil_append] at H
      have hS8 : s = st1P (ls.take 8) := by
        rw [hst]; congr 1; rcases Nat.lt_or_ge i 8 with h | h
        · rw [List.take_of_length_le (by omega), List.take_of_length_le (by omega)]
        · rw [show i = 8 by omega]
      refine wp_loop_ghost (fun q a w => ∃ (i : Nat) (ad1 : Option Addr) (c1 : Nat) (s2 : List Obj) (xs : List Value) (m' : Mem), q = 5 - i ∧ (i ≤ nB ∧ i ≤ 4 ∧ s2 = (ts.take i).foldl dmg1P s ∧ s2.length = s.length ∧ OR m' xs s2) ∧ Le m m' ∧ Fr 88 a [(1, .pointer (some ⟨b1, 0, none⟩)), (3, .slice ad1 s2.length c1), (5, .int .i64 i)] [] ∧ St w0 w m' (row 66 2 ad1 s2.length c1 xs :: pt b1 [.slice adL nL cL, .slice adB nB cB] 25 :: Lf)) _ ⟨0, _, _, s, _, m, rfl, ⟨by omega, by omega, rfl, rfl, hO1⟩, Le.refl m, (Fr.cons A rfl (Fr.cons A rfl (Fr.cons A rfl (Fr.nil A)))), H⟩ ?_
      clear A H; rintro q a w ⟨i, ad1, c1, s2, xs, m, rfl, hinv, hm, A, H⟩
      have hM := hM.trans hm
      have hLs := hLs.mono hm
      have hB := hB.mono hm
      have hs := hs.mono hm
      have hl2 := hm
      obtain ⟨hiB, hi4, hs2, hsl2, hxs⟩ := hinv
      refine wp_seq ?_
      refine wp_seq ?_
      refine wp_region_lit ?_
      refine step (Runs.move A rfl) A rfl ?_; clear A a; intro a A
      refine step (Runs.fa A rfl) A rfl ?_; clear A a; intro a A
      refine step (Runs.ld1 A H rfl rfl) A rfl ?_; clear A a; intro a A
      refine step (Runs.lenL A rfl SlC.h) A rfl ?_; clear A a; intro a A
      refine step (Runs.lss A rfl rfl) A rfl ?_; clear A a; intro a A
      refine step (Runs.move A rfl) A rfl ?_; clear A a; intro a A
      refine onBool A (dj := 43) rfl (fun h3 => ?_) (fun h3 => ?_)
      · have g3 := h3
        try simp only [decide_eq_true_eq, decide_eq_false_iff_not, Bool.not_eq_true', Bool.not_eq_false', ne_eq, Decidable.not_not, Int.not_lt, Int.not_le] at g3
        refine stepG (dj := 43) rfl rfl h3 (Runs.move A rfl) A rfl ?_; clear A a; intro a A
        refine stepG (dj := 43) rfl rfl h3 (Runs.lss A rfl rfl) A rfl ?_; clear A a; intro a A
        refine step (Runs.pickT A rfl h3 rfl) A rfl ?_; clear A a; intro a A
        refine step (Runs.move A rfl) A rfl ?_; clear A a; intro a A
        refine onBool A (dj := 47) rfl (fun h4 => ?_) (fun h4 => ?_)
        · have g4 := h4
          try simp only [decide_eq_true_eq, decide_eq_false_iff_not, Bool.not_eq_true', Bool.not_eq_false', ne_eq, Decidable.not_not, Int.not_lt, Int.not_le] at g4
          refine stepG (dj := 47) rfl rfl h4 (Runs.move A rfl) A rfl ?_; clear A a; intro a A
          refine stepG (dj := 47) rfl rfl h4 (Runs.lenL A rfl SlC.h) A rfl ?_; clear A a; intro a A
          refine stepG (dj := 47) rfl rfl h4 (Runs.gtr A rfl rfl) A rfl ?_; clear A a; intro a A
          refine step (Runs.pickT A rfl h4 rfl) A rfl ?_; clear A a; intro a A
          refine wpList_nil ?_
          refine cond_split A rfl (fun h5 => ?_) (fun h5 => ?_)
          · have g5 := h5
            try simp only [decide_eq_true_eq, decide_eq_false_iff_not, Bool.not_eq_true', Bool.not_eq_false', ne_eq, Decidable.not_not, Int.not_lt, Int.not_le] at g5
            refine wp_skip ?_
            refine wp_seq ?_
            refine wp_block ?_
            refine wp_seq ?_
            obtain ⟨t, ht⟩ := ex_at (l := ts) (i := i) (by omega)
            obtain ⟨bb, off, cs, e0, hfz, hcs⟩ := hB.all_ (by omega)
            obtain ⟨ht1, ht2, ht3⟩ := hcs _ _ ht
            have hs0 : 0 < s2.length := by omega
            obtain ⟨j, hj⟩ : ∃ j, j = t.1.toNat % s2.length := ⟨_, rfl⟩
            have hjn : j < s2.length := by rw [hj]; exact Nat.mod_lt _ hs0
            have hix : ((t.1.toNat : Int) % (s2.length : Int)) = ((j : Nat) : Int) := by rw [hj]; exact (Int.natCast_emod _ _).symm
            have ht0 := u8_lt t.1
            refine wp_region_lit ?_
            refine step (Runs.fa A rfl) A rfl ?_; clear A a; intro a A
            refine step (Runs.ld1 A H rfl rfl) A rfl ?_; clear A a; intro a A
            refine step (Runs.move A rfl) A rfl ?_; clear A a; intro a A
            rw [e0] at A
            refine step (Runs.indexAddr A rfl rfl SlC.h (by omega) (by omega)) A rfl ?_; clear A a; intro a A
            refine step (Runs.indexArr A rfl rfl (by omega) (by omega)) A rfl ?_; clear A a; intro a A
            refine step (Runs.ld1 A H rfl (v := u8 t.1) (by simpa using ht1)) A rfl ?_; clear A a; intro a A
            refine step (Runs.convN A rfl (by first | exact wrap_i64 (by omega) (by omega) | rfl)) A rfl ?_; clear A a; intro a A
            refine step (Runs.move A rfl) A rfl ?_; clear A a; intro a A
            refine step (Runs.lenL A rfl SlC.h) A rfl ?_; clear A a; intro a A
            refine step (Runs.rem A rfl rfl (by omega) (by omega)) A rfl ?_; clear A a; intro a A
            rw [hix] at A
            refine step (Runs.assign A rfl) A rfl ?_; clear A a; intro a A
            refine wpList_nil ?_
            obtain ⟨hxl0, hsc, _⟩ := H.row_len
            obtain ⟨g, cur, rfl, hxl, hnc, hcm, hcl, hct, H⟩ := H.row_block (by omega)
            obtain ⟨x, hx⟩ := ex_at (l := s2) (i := j) hjn
            obtain ⟨vx, hv1, hv2, adx, nx, cx, rfl, hsx, hnx⟩ := hxs.at_ hx
            have hc1 : cur[j * 2]? = some (u64 x.id) := by rw [← hct, List.getElem?_take_of_lt (by omega)] at hv1; exact hv1
            have hc2 : cur[j * 2 + 1]? = some (.slice adx nx cx) := by rw [← hct, List.getElem?_take_of_lt (by omega)] at hv2; exact hv2
            refine draw_begin (ms := m) (Ls := [pt g cur 66, pt b1 [.slice adL nL cL, .slice adB nB cB] 25]) (by kernel_rfl) (N := 24) rfl (by kernel_rfl) H ?_; clear H; intro w H hR
            have hS : SW m [pt g cur 66, pt b1 [.slice adL nL cL, .slice adB nB cB] 25] w := H.sw (Le.refl m)
            have hL := Le.refl m
            refine dstep hR (i := 0) rfl (by kernel_rfl) (fun _ _ _ h => h) (fun _ _ H' => (Runs.move A rfl)) A rfl hS ?_; clear A a hR; intro a A hR
            refine dstep hR (i := 1) rfl (by kernel_rfl) (fun _ _ _ h => h) (fun _ _ H' => (Runs.move A rfl)) A rfl hS ?_; clear A a hR; intro a A hR
            refine dstep hR (i := 2) rfl (by kernel_rfl) (fun _ _ _ h => h) (fun _ _ H' => (Runs.move A rfl)) A rfl hS ?_; clear A a hR; intro a A hR
            refine dstep hR (i := 3) rfl (by kernel_rfl) (fun _ _ _ h => h) (fun _ _ H' => (Runs.move A rfl)) A rfl hS ?_; clear A a hR; intro a A hR
            refine dstep hR (i := 4) rfl (by kernel_rfl) (fun _ _ _ h => h) (fun _ _ H' => (Runs.indexAddr A rfl rfl SlC.h (by omega) (by omega))) A rfl hS ?_; clear A a hR; intro a A hR
            refine dstep hR (i := 5) rfl (by kernel_rfl) (fun _ _ _ h => h) (fun _ _ H' => (Runs.fa A rfl)) A rfl hS ?_; clear A a hR; intro a A hR
            refine dstep hR (i := 6) rfl (by kernel_rfl) (fun _ _ _ h => h) (fun _ _ H' => (Runs.ld1 A H' rfl (v := .slice adx nx cx) (by simpa using hc2))) A rfl hS ?_; clear A a hR; intro a A hR
            refine dstep hR (i := 7) rfl (by kernel_rfl) (fun _ _ _ h => h) (fun _ _ H' => (Runs.fa A rfl)) A rfl hS ?_; clear A a hR; intro a A hR
            refine dstep hR (i := 8) rfl (by kernel_rfl) (fun _ _ _ h => h) (fun _ _ H' => (Runs.ld1 A H' rfl rfl)) A rfl hS ?_; clear A a hR; intro a A hR
            refine dstep hR (i := 9) rfl (by kernel_rfl) (fun _ _ _ h => h) (fun _ _ H' => (Runs.move A rfl)) A rfl hS ?_; clear A a hR; intro a A hR
            try rw [e0] at A
            refine dstep hR (i := 10) rfl (by kernel_rfl) (fun _ _ _ h => h) (fun _ _ H' => (Runs.indexAddr A rfl rfl SlC.h (by omega) (by omega))) A rfl hS ?_; clear A a hR; intro a A hR
            refine dstep hR (i := 11) rfl (by kernel_rfl) (fun _ _ _ h => h) (fun _ _ H' => (Runs.indexArr A rfl rfl (by omega) (by omega))) A rfl hS ?_; clear A a hR; intro a A hR
            refine dstep hR (i := 12) rfl (by kernel_rfl) (fun _ _ _ h => h) (fun _ _ H' => (Runs.ld1 A H' rfl (v := u8 t.2.1) (by simpa using ht2))) A rfl hS ?_; clear A a hR; intro a A hR
            refine dstep hR (i := 13) rfl (by kernel_rfl) (fun _ _ _ h => h) (fun _ _ H' => (Runs.fa A rfl)) A rfl hS ?_; clear A a hR; intro a A hR
            refine dstep hR (i := 14) rfl (by kernel_rfl) (fun _ _ _ h => h) (fun _ _ H' => (Runs.ld1 A H' rfl rfl)) A rfl hS ?_; clear A a hR; intro a A hR
            refine dstep hR (i := 15) rfl (by kernel_rfl) (fun _ _ _ h => h) (fun _ _ H' => (Runs.move A rfl)) A rfl hS ?_; clear A a hR; intro a A hR
            try rw [e0] at A
            refine dstep hR (i := 16) rfl (by kernel_rfl) (fun _ _ _ h => h) (fun _ _ H' => (Runs.indexAddr A rfl rfl SlC.h (by omega) (by omega))) A rfl hS ?_; clear A a hR; intro a A hR
            refine dstep hR (i := 17) rfl (by kernel_rfl) (fun _ _ _ h => h) (fun _ _ H' => (Runs.indexArr A rfl rfl (by omega) (by omega))) A rfl hS ?_; clear A a hR; intro a A hR
            refine dstep hR (i := 18) rfl (by kernel_rfl) (fun _ _ _ h => h) (fun _ _ H' => (Runs.ld1 A H' rfl (v := u8 t.2.2) (by simpa using ht3))) A rfl hS ?_; clear A a hR; intro a A hR
            refine dstep hR (i := 19) rfl (by kernel_rfl) (fun _ _ _ h => h) (fun _ _ H' => (Runs.buildArr A rfl rfl rfl)) A rfl hS ?_; clear A a hR; intro a A hR
            refine dlist hR (i := 20) rfl (by kernel_rfl) ?_
            have hR := hR.next (i := 20) (by kernel_rfl)
            refine step_callF A rfl rfl (c_wireloomref18_Broken hsx (by omega)) H ?_
            rintro v11_20 a w m hm ⟨adk, nk, ck, rfl, hsk, hnk⟩ A H
            have hM := hM.trans hm
            have hl2 := hl2.trans hm
            have hLs := hLs.mono hm
            have hB := hB.mono hm
            have hs := hs.mono hm
            have hxs := hxs.mono hm
            have hL := hL.trans hm
            refine wpList_nil ?_
            clear hS; refine and_keep (H.sw hL) fun hS => ?_
            refine dstep hR (i := 21) rfl (by kernel_rfl) (fun _ _ _ h => h) (fun _ _ H' => (Runs.indexAddr A rfl rfl SlC.h (by omega) (by omega))) A rfl hS ?_; clear A a hR; intro a A hR
            refine dstep hR (i := 22) rfl (by kernel_rfl) (fun _ _ _ h => h) (fun _ _ H' => (Runs.fa A rfl)) A rfl hS ?_; clear A a hR; intro a A hR
            refine dlist hR (i := 23) rfl (by kernel_rfl) ?_
            have hR := hR.next (i := 23) (by kernel_rfl)
            refine step_store (cs' := cur.take (j * 2) ++ [u64 x.id, .slice adk nk ck] ++ cur.drop (j * 2 + 2)) A H rfl rfl rfl rfl rfl (by rw [Int.toNat_natCast, Nat.zero_add]; have := setN_put (cs := cur) (vs := [.slice adk nk ck]) (o := j * 2 + 1) (by show _ + 1 ≤ _; omega); rw [List.take_add_one, hc1] at this; refine Eq.trans this ?_; simp) ?_; intro w H
            refine wpList_nil ?_
            refine and_last (by kernel_rfl) ?_
            refine draw_done hR (by kernel_rfl) ?_
            clear hS hL hR
            refine wp_region_lit ?_
            refine step (Runs.move A rfl) A rfl ?_; clear A a; intro a A
            refine step (Runs.add A rfl rfl (by omega)) A rfl ?_; clear A a; intro a A
            refine step (Runs.assign A rfl) A rfl ?_; clear A a; intro a A
            refine wpList_nil ?_
            have hdm : dmg1P s2 t = s2.set j ⟨x.id, brkP x.data t.2.1 t.2.2⟩ := by rw [dmg1P, ← hj, hx]
            have hxs2 : OR m (xs.take (j * 2) ++ [u64 x.id, .slice adk nk ck] ++ xs.drop (j * 2 + 2)) (dmg1P s2 t) := by rw [hdm]; exact OR.set (o := ⟨x.id, brkP x.data t.2.1 t.2.2⟩) ⟨_, _, _, rfl, hsk, hnk⟩ j hjn hxs
            have hAl : (cur.take (j * 2)).length = j * 2 := by rw [List.length_take]; omega
            have H := H.block_row (k := s2.length) (c := c1) (size := 2) (xs := xs.take (j * 2) ++ [u64 x.id, .slice adk nk ck] ++ xs.drop (j * 2 + 2)) (by simp only [List.length_append, List.length_take, List.length_drop, List.length_cons, List.length_nil]; omega) (by omega) (by omega) (by simp only [List.length_append, List.length_take, List.length_drop, List.length_cons, List.length_nil]; omega) (by rw [← ins_take1 hct (show j * 2 ≤ s2.length * 2 by omega), ← ins_mid hct (show j * 2 + 2 ≤ s2.length * 2 by omega)]; exact take_put hAl rfl (by omega))
            have hlen : s2.length = (dmg1P s2 t).length := by rw [hdm, List.length_set]
            rw [hlen] at A H
            exact ⟨_, by omega, i + 1, _, _, dmg1P s2 t, _, m, rfl, ⟨by omega, by omega, by rw [List.take_add_one, ht, List.foldl_append, ← hs2]; rfl, by rw [hdm, List.length_set]; exact hsl2, hxs2⟩, hl2, (Fr.cons A rfl (Fr.cons A rfl (Fr.cons A rfl (Fr.nil A)))), H.subH⟩
          · have g5 := h5
            try simp only [decide_eq_true_eq, decide_eq_false_iff_not, Bool.not_eq_true', Bool.not_eq_false', ne_eq, Decidable.not_not, Int.not_lt, Int.not_le] at g5
            refine wp_exit ?_
            refine wp_seq ?_
            refine wp_region_lit ?_
            refine step (Runs.move A rfl) A rfl ?_; clear A a; intro a A
            refine step (Runs.assign A rfl) A rfl ?_; clear A a; intro a A
            refine wpList_nil ?_
            refine wp_ret ?_
            have e : storeP ls ts = s2 := by
              rw [storeP, ← hS8]
              have h0 : s.length = 0 := by omega
              rw [hs2, dmg_nil _ _ h0, dmg_nil _ _ h0]
            obtain ⟨m2, hm2, hO, H⟩ := H.row_objs hxs
            exact retF A rfl rfl (hM.trans hm2) H ⟨_, _, by rw [e], by rw [e]; exact hO⟩
        · have g4 := h4
          try simp only [decide_eq_true_eq, decide_eq_false_iff_not, Bool.not_eq_true', Bool.not_eq_false', ne_eq, Decidable.not_not, Int.not_lt, Int.not_le] at g4
          refine stepSkip (dj := 47) rfl rfl h4 A rfl ?_; clear A a; intro a A
          refine stepSkip (dj := 47) rfl rfl h4 A rfl ?_; clear A a; intro a A
          refine stepSkip (dj := 47) rfl rfl h4 A rfl ?_; clear A a; intro a A
          refine step (Runs.pickF A rfl h4 rfl) A rfl ?_; clear A a; intro a A
          refine wpList_nil ?_
          refine cond_false A rfl rfl ?_
          refine wp_exit ?_
          refine wp_seq ?_
          refine wp_region_lit ?_
          refine step (Runs.move A rfl) A rfl ?_; clear A a; intro a A
          refine step (Runs.assign A rfl) A rfl ?_; clear A a; intro a A
          refine wpList_nil ?_
          refine wp_ret ?_
          have e : storeP ls ts = s2 := by
            rw [storeP, ← hS8]
            rw [hs2, show i = 4 by omega]
          obtain ⟨m2, hm2, hO, H⟩ := H.row_objs hxs
          exact retF A rfl rfl (hM.trans hm2) H ⟨_, _, by rw [e], by rw [e]; exact hO⟩
      · have g3 := h3
        try simp only [decide_eq_true_eq, decide_eq_false_iff_not, Bool.not_eq_true', Bool.not_eq_false', ne_eq, Decidable.not_not, Int.not_lt, Int.not_le] at g3
        refine stepSkip (dj := 43) rfl rfl h3 A rfl ?_; clear A a; intro a A
        refine stepSkip (dj := 43) rfl rfl h3 A rfl ?_; clear A a; intro a A
        refine step (Runs.pickF A rfl h3 rfl) A rfl ?_; clear A a; intro a A
        refine step (Runs.move A rfl) A rfl ?_; clear A a; intro a A
        refine stepSkip (dj := 47) rfl rfl rfl A rfl ?_; clear A a; intro a A
        refine stepSkip (dj := 47) rfl rfl rfl A rfl ?_; clear A a; intro a A
        refine stepSkip (dj := 47) rfl rfl rfl A rfl ?_; clear A a; intro a A
        refine step (Runs.pickF A rfl rfl rfl) A rfl ?_; clear A a; intro a A
        refine wpList_nil ?_
        refine cond_false A rfl rfl ?_
        refine wp_exit ?_
        refine wp_seq ?_
        refine wp_region_lit ?_
        refine step (Runs.move A rfl) A rfl ?_; clear A a; intro a A
        refine step (Runs.assign A rfl) A rfl ?_; clear A a; intro a A
        refine wpList_nil ?_
        refine wp_ret ?_
        have e : storeP ls ts = s2 := by
          rw [storeP, ← hS8]
          rw [hs2, List.take_of_length_le (show ts.length ≤ i by omega), List.take_of_length_le (by omega)]
        obtain ⟨m2, hm2, hO, H⟩ := H.row_objs hxs
        exact retF A rfl rfl (hM.trans hm2) H ⟨_, _, by rw [e], by rw [e]; exact hO⟩
  · have g1 := h1
    try simp only [decide_eq_true_eq, decide_eq_false_iff_not, Bool.not_eq_true', Bool.not_eq_false', ne_eq, Decidable.not_not, Int.not_lt, Int.not_le] at g1
    refine stepSkip (dj := 13) rfl rfl h1 A rfl ?_; clear A a; intro a A
    refine stepSkip (dj := 13) rfl rfl h1 A rfl ?_; clear A a; intro a A
    refine step (Runs.pickF A rfl h1 rfl) A rfl ?_; clear A a; intro a A
    refine wpList_nil ?_
    refine cond_false A rfl rfl ?_
    refine wp_exit ?_
    refine wp_seq ?_
    refine wp_region_lit ?_
    refine step_slice A H rfl rfl rfl rfl rfl rfl ?_; intro b4 a w A H
    refine step (Runs.move A rfl) A rfl ?_; clear A a; intro a A
    have H := H.row_pt (n := 0) (size := 2) rfl (by omega)
    have hs' := hs
    obtain ⟨_, ys, hS1, hO1⟩ := hs'
    refine step_appendR A H rfl rfl hS1 hO1.one (by decide) (by omega) (by omega) rfl rfl ?_; clear A a; intro ad2 c2 a w A H
    refine step (Runs.assign A rfl) A rfl ?_; clear A a; intro a A
    refine wpList_nil ?_
    refine wp_seq ?_
    refine wp_seq ?_
    refine wp_region_lit ?_
    refine step (Runs.assign A rfl) A rfl ?_; clear A a; intro a A
    refine wpList_nil ?_
    refine wp_block ?_
    rw [Nat.zero_add] at A H
    rw [List.nil_append] at H
    have hS8 : s = st1P (ls.take 8) := by
      rw [hst]; congr 1; rcases Nat.lt_or_ge i 8 with h | h
      · rw [List.take_of_length_le (by omega), List.take_of_length_le (by omega)]
      · rw [show i = 8 by omega]
    refine wp_loop_ghost (fun q a w => ∃ (i : Nat) (ad1 : Option Addr) (c1 : Nat) (s2 : List Obj) (xs : List Value) (m' : Mem), q = 5 - i ∧ (i ≤ nB ∧ i ≤ 4 ∧ s2 = (ts.take i).foldl dmg1P s ∧ s2.length = s.length ∧ OR m' xs s2) ∧ Le m m' ∧ Fr 88 a [(1, .pointer (some ⟨b1, 0, none⟩)), (3, .slice ad1 s2.length c1), (5, .int .i64 i)] [] ∧ St w0 w m' (row 66 2 ad1 s2.length c1 xs :: pt b1 [.slice adL nL cL, .slice adB nB cB] 25 :: Lf)) _ ⟨0, _, _, s, _, m, rfl, ⟨by omega, by omega, rfl, rfl, hO1⟩, Le.refl m, (Fr.cons A rfl (Fr.cons A rfl (Fr.cons A rfl (Fr.nil A)))), H⟩ ?_
    clear A H; rintro q a w ⟨i, ad1, c1, s2, xs, m, rfl, hinv, hm, A, H⟩
    have hM := hM.trans hm
    have hLs := hLs.mono hm
    have hB := hB.mono hm
    have hs := hs.mono hm
    have hl3 := hm
    obtain ⟨hiB, hi4, hs2, hsl2, hxs⟩ := hinv
    refine wp_seq ?_
    refine wp_seq ?_
    refine wp_region_lit ?_
    refine step (Runs.move A rfl) A rfl ?_; clear A a; intro a A
    refine step (Runs.fa A rfl) A rfl ?_; clear A a; intro a A
    refine step (Runs.ld1 A H rfl rfl) A rfl ?_; clear A a; intro a A
    refine step (Runs.lenL A rfl SlC.h) A rfl ?_; clear A a; intro a A
    refine step (Runs.lss A rfl rfl) A rfl ?_; clear A a; intro a A
    refine step (Runs.move A rfl) A rfl ?_; clear A a; intro a A
    refine onBool A (dj := 43) rfl (fun h6 => ?_) (fun h6 => ?_)
    · have g6 := h6
      try simp only [decide_eq_true_eq, decide_eq_false_iff_not, Bool.not_eq_true', Bool.not_eq_false', ne_eq, Decidable.not_not, Int.not_lt, Int.not_le] at g6
      refine stepG (dj := 43) rfl rfl h6 (Runs.move A rfl) A rfl ?_; clear A a; intro a A
      refine stepG (dj := 43) rfl rfl h6 (Runs.lss A rfl rfl) A rfl ?_; clear A a; intro a A
      refine step (Runs.pickT A rfl h6 rfl) A rfl ?_; clear A a; intro a A
      refine step (Runs.move A rfl) A rfl ?_; clear A a; intro a A
      refine onBool A (dj := 47) rfl (fun h7 => ?_) (fun h7 => ?_)
      · have g7 := h7
        try simp only [decide_eq_true_eq, decide_eq_false_iff_not, Bool.not_eq_true', Bool.not_eq_false', ne_eq, Decidable.not_not, Int.not_lt, Int.not_le] at g7
        refine stepG (dj := 47) rfl rfl h7 (Runs.move A rfl) A rfl ?_; clear A a; intro a A
        refine stepG (dj := 47) rfl rfl h7 (Runs.lenL A rfl SlC.h) A rfl ?_; clear A a; intro a A
        refine stepG (dj := 47) rfl rfl h7 (Runs.gtr A rfl rfl) A rfl ?_; clear A a; intro a A
        refine step (Runs.pickT A rfl h7 rfl) A rfl ?_; clear A a; intro a A
        refine wpList_nil ?_
        refine cond_split A rfl (fun h8 => ?_) (fun h8 => ?_)
        · have g8 := h8
          try simp only [decide_eq_true_eq, decide_eq_false_iff_not, Bool.not_eq_true', Bool.not_eq_false', ne_eq, Decidable.not_not, Int.not_lt, Int.not_le] at g8
          refine wp_skip ?_
          refine wp_seq ?_
          refine wp_block ?_
          refine wp_seq ?_
          obtain ⟨t, ht⟩ := ex_at (l := ts) (i := i) (by omega)
          obtain ⟨bb, off, cs, e0, hfz, hcs⟩ := hB.all_ (by omega)
          obtain ⟨ht1, ht2, ht3⟩ := hcs _ _ ht
          have hs0 : 0 < s2.length := by omega
          obtain ⟨j, hj⟩ : ∃ j, j = t.1.toNat % s2.length := ⟨_, rfl⟩
          have hjn : j < s2.length := by rw [hj]; exact Nat.mod_lt _ hs0
          have hix : ((t.1.toNat : Int) % (s2.length : Int)) = ((j : Nat) : Int) := by rw [hj]; exact (Int.natCast_emod _ _).symm
          have ht0 := u8_lt t.1
          refine wp_region_lit ?_
          refine step (Runs.fa A rfl) A rfl ?_; clear A a; intro a A
          refine step (Runs.ld1 A H rfl rfl) A rfl ?_; clear A a; intro a A
          refine step (Runs.move A rfl) A rfl ?_; clear A a; intro a A
          rw [e0] at A
          refine step (Runs.indexAddr A rfl rfl SlC.h (by omega) (by omega)) A rfl ?_; clear A a; intro a A
          refine step (Runs.indexArr A rfl rfl (by omega) (by omega)) A rfl ?_; clear A a; intro a A
          refine step (Runs.ld1 A H rfl (v := u8 t.1) (by simpa using ht1)) A rfl ?_; clear A a; intro a A
          refine step (Runs.convN A rfl (by first | exact wrap_i64 (by omega) (by omega) | rfl)) A rfl ?_; clear A a; intro a A
          refine step (Runs.move A rfl) A rfl ?_; clear A a; intro a A
          refine step (Runs.lenL A rfl SlC.h) A rfl ?_; clear A a; intro a A
          refine step (Runs.rem A rfl rfl (by omega) (by omega)) A rfl ?_; clear A a; intro a A
          rw [hix] at A
          refine step (Runs.assign A rfl) A rfl ?_; clear A a; intro a A
          refine wpList_nil ?_
          obtain ⟨hxl0, hsc, _⟩ := H.row_len
          obtain ⟨g, cur, rfl, hxl, hnc, hcm, hcl, hct, H⟩ := H.row_block (by omega)
          obtain ⟨x, hx⟩ := ex_at (l := s2) (i := j) hjn
          obtain ⟨vx, hv1, hv2, adx, nx, cx, rfl, hsx, hnx⟩ := hxs.at_ hx
          have hc1 : cur[j * 2]? = some (u64 x.id) := by rw [← hct, List.getElem?_take_of_lt (by omega)] at hv1; exact hv1
          have hc2 : cur[j * 2 + 1]? = some (.slice adx nx cx) := by rw [← hct, List.getElem?_take_of_lt (by omega)] at hv2; exact hv2
          refine draw_begin (ms := m) (Ls := [pt g cur 66, pt b1 [.slice adL nL cL, .slice adB nB cB] 25]) (by kernel_rfl) (N := 24) rfl (by kernel_rfl) H ?_; clear H; intro w H hR
          have hS : SW m [pt g cur 66, pt b1 [.slice adL nL cL, .slice adB nB cB] 25] w := H.sw (Le.refl m)
          have hL := Le.refl m
          refine dstep hR (i := 0) rfl (by kernel_rfl) (fun _ _ _ h => h) (fun _ _ H' => (Runs.move A rfl)) A rfl hS ?_; clear A a hR; intro a A hR
          refine dstep hR (i := 1) rfl (by kernel_rfl) (fun _ _ _ h => h) (fun _ _ H' => (Runs.move A rfl)) A rfl hS ?_; clear A a hR; intro a A hR
          refine dstep hR (i := 2) rfl (by kernel_rfl) (fun _ _ _ h => h) (fun _ _ H' => (Runs.move A rfl)) A rfl hS ?_; clear A a hR; intro a A hR
          refine dstep hR (i := 3) rfl (by kernel_rfl) (fun _ _ _ h => h) (fun _ _ H' => (Runs.move A rfl)) A rfl hS ?_; clear A a hR; intro a A hR
          refine dstep hR (i := 4) rfl (by kernel_rfl) (fun _ _ _ h => h) (fun _ _ H' => (Runs.indexAddr A rfl rfl SlC.h (by omega) (by omega))) A rfl hS ?_; clear A a hR; intro a A hR
          refine dstep hR (i := 5) rfl (by kernel_rfl) (fun _ _ _ h => h) (fun _ _ H' => (Runs.fa A rfl)) A rfl hS ?_; clear A a hR; intro a A hR
          refine dstep hR (i := 6) rfl (by kernel_rfl) (fun _ _ _ h => h) (fun _ _ H' => (Runs.ld1 A H' rfl (v := .slice adx nx cx) (by simpa using hc2))) A rfl hS ?_; clear A a hR; intro a A hR
          refine dstep hR (i := 7) rfl (by kernel_rfl) (fun _ _ _ h => h) (fun _ _ H' => (Runs.fa A rfl)) A rfl hS ?_; clear A a hR; intro a A hR
          refine dstep hR (i := 8) rfl (by kernel_rfl) (fun _ _ _ h => h) (fun _ _ H' => (Runs.ld1 A H' rfl rfl)) A rfl hS ?_; clear A a hR; intro a A hR
          refine dstep hR (i := 9) rfl (by kernel_rfl) (fun _ _ _ h => h) (fun _ _ H' => (Runs.move A rfl)) A rfl hS ?_; clear A a hR; intro a A hR
          try rw [e0] at A
          refine dstep hR (i := 10) rfl (by kernel_rfl) (fun _ _ _ h => h) (fun _ _ H' => (Runs.indexAddr A rfl rfl SlC.h (by omega) (by omega))) A rfl hS ?_; clear A a hR; intro a A hR
          refine dstep hR (i := 11) rfl (by kernel_rfl) (fun _ _ _ h => h) (fun _ _ H' => (Runs.indexArr A rfl rfl (by omega) (by omega))) A rfl hS ?_; clear A a hR; intro a A hR
          refine dstep hR (i := 12) rfl (by kernel_rfl) (fun _ _ _ h => h) (fun _ _ H' => (Runs.ld1 A H' rfl (v := u8 t.2.1) (by simpa using ht2))) A rfl hS ?_; clear A a hR; intro a A hR
          refine dstep hR (i := 13) rfl (by kernel_rfl) (fun _ _ _ h => h) (fun _ _ H' => (Runs.fa A rfl)) A rfl hS ?_; clear A a hR; intro a A hR
          refine dstep hR (i := 14) rfl (by kernel_rfl) (fun _ _ _ h => h) (fun _ _ H' => (Runs.ld1 A H' rfl rfl)) A rfl hS ?_; clear A a hR; intro a A hR
          refine dstep hR (i := 15) rfl (by kernel_rfl) (fun _ _ _ h => h) (fun _ _ H' => (Runs.move A rfl)) A rfl hS ?_; clear A a hR; intro a A hR
          try rw [e0] at A
          refine dstep hR (i := 16) rfl (by kernel_rfl) (fun _ _ _ h => h) (fun _ _ H' => (Runs.indexAddr A rfl rfl SlC.h (by omega) (by omega))) A rfl hS ?_; clear A a hR; intro a A hR
          refine dstep hR (i := 17) rfl (by kernel_rfl) (fun _ _ _ h => h) (fun _ _ H' => (Runs.indexArr A rfl rfl (by omega) (by omega))) A rfl hS ?_; clear A a hR; intro a A hR
          refine dstep hR (i := 18) rfl (by kernel_rfl) (fun _ _ _ h => h) (fun _ _ H' => (Runs.ld1 A H' rfl (v := u8 t.2.2) (by simpa using ht3))) A rfl hS ?_; clear A a hR; intro a A hR
          refine dstep hR (i := 19) rfl (by kernel_rfl) (fun _ _ _ h => h) (fun _ _ H' => (Runs.buildArr A rfl rfl rfl)) A rfl hS ?_; clear A a hR; intro a A hR
          refine dlist hR (i := 20) rfl (by kernel_rfl) ?_
          have hR := hR.next (i := 20) (by kernel_rfl)
          refine step_callF A rfl rfl (c_wireloomref18_Broken hsx (by omega)) H ?_
          rintro v11_20 a w m hm ⟨adk, nk, ck, rfl, hsk, hnk⟩ A H
          have hM := hM.trans hm
          have hl3 := hl3.trans hm
          have hLs := hLs.mono hm
          have hB := hB.mono hm
          have hs := hs.mono hm
          have hxs := hxs.mono hm
          have hL := hL.trans hm
          refine wpList_nil ?_
          clear hS; refine and_keep (H.sw hL) fun hS => ?_
          refine dstep hR (i := 21) rfl (by kernel_rfl) (fun _ _ _ h => h) (fun _ _ H' => (Runs.indexAddr A rfl rfl SlC.h (by omega) (by omega))) A rfl hS ?_; clear A a hR; intro a A hR
          refine dstep hR (i := 22) rfl (by kernel_rfl) (fun _ _ _ h => h) (fun _ _ H' => (Runs.fa A rfl)) A rfl hS ?_; clear A a hR; intro a A hR
          refine dlist hR (i := 23) rfl (by kernel_rfl) ?_
          have hR := hR.next (i := 23) (by kernel_rfl)
          refine step_store (cs' := cur.take (j * 2) ++ [u64 x.id, .slice adk nk ck] ++ cur.drop (j * 2 + 2)) A H rfl rfl rfl rfl rfl (by rw [Int.toNat_natCast, Nat.zero_add]; have := setN_put (cs := cur) (vs := [.slice adk nk ck]) (o := j * 2 + 1) (by show _ + 1 ≤ _; omega); rw [List.take_add_one, hc1] at this; refine Eq.trans this ?_; simp) ?_; intro w H
          refine wpList_nil ?_
          refine and_last (by kernel_rfl) ?_
          refine draw_done hR (by kernel_rfl) ?_
          clear hS hL hR
          refine wp_region_lit ?_
          refine step (Runs.move A rfl) A rfl ?_; clear A a; intro a A
          refine step (Runs.add A rfl rfl (by omega)) A rfl ?_; clear A a; intro a A
          refine step (Runs.assign A rfl) A rfl ?_; clear A a; intro a A
          refine wpList_nil ?_
          have hdm : dmg1P s2 t = s2.set j ⟨x.id, brkP x.data t.2.1 t.2.2⟩ := by rw [dmg1P, ← hj, hx]
          have hxs2 : OR m (xs.take (j * 2) ++ [u64 x.id, .slice adk nk ck] ++ xs.drop (j * 2 + 2)) (dmg1P s2 t) := by rw [hdm]; exact OR.set (o := ⟨x.id, brkP x.data t.2.1 t.2.2⟩) ⟨_, _, _, rfl, hsk, hnk⟩ j hjn hxs
          have hAl : (cur.take (j * 2)).length = j * 2 := by rw [List.length_take]; omega
          have H := H.block_row (k := s2.length) (c := c1) (size := 2) (xs := xs.take (j * 2) ++ [u64 x.id, .slice adk nk ck] ++ xs.drop (j * 2 + 2)) (by simp only [List.length_append, List.length_take, List.length_drop, List.length_cons, List.length_nil]; omega) (by omega) (by omega) (by simp only [List.length_append, List.length_take, List.length_drop, List.length_cons, List.length_nil]; omega) (by rw [← ins_take1 hct (show j * 2 ≤ s2.length * 2 by omega), ← ins_mid hct (show j * 2 + 2 ≤ s2.length * 2 by omega)]; exact take_put hAl rfl (by omega))
          have hlen : s2.length = (dmg1P s2 t).length := by rw [hdm, List.length_set]
          rw [hlen] at A H
          exact ⟨_, by omega, i + 1, _, _, dmg1P s2 t, _, m, rfl, ⟨by omega, by omega, by rw [List.take_add_one, ht, List.foldl_append, ← hs2]; rfl, by rw [hdm, List.length_set]; exact hsl2, hxs2⟩, hl3, (Fr.cons A rfl (Fr.cons A rfl (Fr.cons A rfl (Fr.nil A)))), H.subH⟩
        · have g8 := h8
          try simp only [decide_eq_true_eq, decide_eq_false_iff_not, Bool.not_eq_true', Bool.not_eq_false', ne_eq, Decidable.not_not, Int.not_lt, Int.not_le] at g8
          refine wp_exit ?_
          refine wp_seq ?_
          refine wp_region_lit ?_
          refine step (Runs.move A rfl) A rfl ?_; clear A a; intro a A
          refine step (Runs.assign A rfl) A rfl ?_; clear A a; intro a A
          refine wpList_nil ?_
          refine wp_ret ?_
          have e : storeP ls ts = s2 := by
            rw [storeP, ← hS8]
            have h0 : s.length = 0 := by omega
            rw [hs2, dmg_nil _ _ h0, dmg_nil _ _ h0]
          obtain ⟨m2, hm2, hO, H⟩ := H.row_objs hxs
          exact retF A rfl rfl (hM.trans hm2) H ⟨_, _, by rw [e], by rw [e]; exact hO⟩
      · have g7 := h7
        try simp only [decide_eq_true_eq, decide_eq_false_iff_not, Bool.not_eq_true', Bool.not_eq_false', ne_eq, Decidable.not_not, Int.not_lt, Int.not_le] at g7
        refine stepSkip (dj := 47) rfl rfl h7 A rfl ?_; clear A a; intro a A
        refine stepSkip (dj := 47) rfl rfl h7 A rfl ?_; clear A a; intro a A
        refine stepSkip (dj := 47) rfl rfl h7 A rfl ?_; clear A a; intro a A
        refine step (Runs.pickF A rfl h7 rfl) A rfl ?_; clear A a; intro a A
        refine wpList_nil ?_
        refine cond_false A rfl rfl ?_
        refine wp_exit ?_
        refine wp_seq ?_
        refine wp_region_lit ?_
        refine step (Runs.move A rfl) A rfl ?_; clear A a; intro a A
        refine step (Runs.assign A rfl) A rfl ?_; clear A a; intro a A
        refine wpList_nil ?_
        refine wp_ret ?_
        have e : storeP ls ts = s2 := by
          rw [storeP, ← hS8]
          rw [hs2, show i = 4 by omega]
        obtain ⟨m2, hm2, hO, H⟩ := H.row_objs hxs
        exact retF A rfl rfl (hM.trans hm2) H ⟨_, _, by rw [e], by rw [e]; exact hO⟩
    · have g6 := h6
      try simp only [decide_eq_true_eq, decide_eq_false_iff_not, Bool.not_eq_true', Bool.not_eq_false', ne_eq, Decidable.not_not, Int.not_lt, Int.not_le] at g6
      refine stepSkip (dj := 43) rfl rfl h6 A rfl ?_; clear A a; intro a A
      refine stepSkip (dj := 43) rfl rfl h6 A rfl ?_; clear A a; intro a A
      refine step (Runs.pickF A rfl h6 rfl) A rfl ?_; clear A a; intro a A
      refine step (Runs.move A rfl) A rfl ?_; clear A a; intro a A
      refine stepSkip (dj := 47) rfl rfl rfl A rfl ?_; clear A a; intro a A
      refine stepSkip (dj := 47) rfl rfl rfl A rfl ?_; clear A a; intro a A
      refine stepSkip (dj := 47) rfl rfl rfl A rfl ?_; clear A a; intro a A
      refine step (Runs.pickF A rfl rfl rfl) A rfl ?_; clear A a; intro a A
      refine wpList_nil ?_
      refine cond_false A rfl rfl ?_
      refine wp_exit ?_
      refine wp_seq ?_
      refine wp_region_lit ?_
      refine step (Runs.move A rfl) A rfl ?_; clear A a; intro a A
      refine step (Runs.assign A rfl) A rfl ?_; clear A a; intro a A
      refine wpList_nil ?_
      refine wp_ret ?_
      have e : storeP ls ts = s2 := by
        rw [storeP, ← hS8]
        rw [hs2, List.take_of_length_le (show ts.length ≤ i by omega), List.take_of_length_le (by omega)]
      obtain ⟨m2, hm2, hO, H⟩ := H.row_objs hxs
      exact retF A rfl rfl (hM.trans hm2) H ⟨_, _, by rw [e], by rw [e]; exact hO⟩
end Sl
end Go.Proofs.YtanhehbfbakdcaaGreatDoor
/- The law's own small functions: walks, printed by my gen.py out of annotations. -/
set_option linter.unusedSimpArgs false
set_option linter.unusedVariables false
namespace Go.Proofs.YtanhehbfbakdcaaGreatDoor
namespace Sl
open Go

theorem c_wireloomlaw18_put {ad : Option Addr} {n c : Nat} {l : List Obj} {v0 : Value} {d : List UInt8} {m : Mem} (hl : Objs m ad n c l) (hb : n ≤ 1100000) (hs : Srt l) (hd : Dat m v0 d) : Spec Tryz.prog 17 #[.slice ad n c, v0] m [] (RetF fun m' v => ∃ ad' c', v = .agg #[.slice ad' (putP l d).length c', u64 (dig d), .int .i64 0] ∧ Objs m' ad' (putP l d).length c' (putP l d)) := by
  refine Spec.enter0 Tryz.func17 rfl 16 Tryz.ntmps17 rfl fun a w0 Lf A H => ?_
  have hM := Le.refl m
  refine wp_seq ?_
  refine wp_region_lit ?_
  refine step_alloc A H rfl ?_; clear A a; intro b1 a w A H
  refine wpList_nil ?_
  refine wp_seq ?_
  refine wp_region_lit ?_
  refine step (Runs.move A rfl) A rfl ?_; clear A a; intro a A
  refine step (Runs.move A rfl) A rfl ?_; clear A a; intro a A
  refine step_callF A rfl rfl (c_objects_Put hl (by omega) hs hd) H ?_
  rintro v1_2 a w m hm ⟨adp, cp, rfl, hput⟩ A H
  have hM := hM.trans hm
  have hl := hl.mono hm
  have hd := hd.mono hm
  refine step (Runs.move A rfl) A rfl ?_; clear A a; intro a A
  refine step (Runs.extract A rfl rfl) A rfl ?_; clear A a; intro a A
  refine step (Runs.extract A rfl rfl) A rfl ?_; clear A a; intro a A
  refine step (Runs.assign A rfl) A rfl ?_; clear A a; intro a A
  refine step (Runs.assign A rfl) A rfl ?_; clear A a; intro a A
  refine wpList_nil ?_
  refine wp_seq ?_
  refine wp_region_lit ?_
  refine step (Runs.move A rfl) A rfl ?_; clear A a; intro a A
  refine step (Runs.move A rfl) A rfl ?_; clear A a; intro a A
  refine step (Runs.build A rfl rfl rfl) A rfl ?_; clear A a; intro a A
  refine step_store A H rfl rfl rfl rfl rfl rfl ?_; intro w H
  refine wpList_nil ?_
  refine wp_ret ?_
  exact retFc A rfl rfl hM H rfl ⟨_, _, rfl, hput⟩

theorem c_wireloomlaw18_get {ad : Option Addr} {n c : Nat} {l : List Obj} {id : UInt64} {m : Mem} (hl : Objs m ad n c l) (hb : n ≤ 1100000) (hs : Srt l) : Spec Tryz.prog 32 #[.slice ad n c, u64 id] m [] (RetF fun m' v => match getP l id with | some d => ∃ u, v = .agg #[u, .int .i64 0] ∧ Dat m' u d | none => v = .agg #[.slice none 0 0, .int .i64 180]) := by
  refine Spec.enter0 Tryz.func32 rfl 16 Tryz.ntmps32 rfl fun a w0 Lf A H => ?_
  have hM := Le.refl m
  refine wp_seq ?_
  refine wp_region_lit ?_
  refine step_alloc A H rfl ?_; clear A a; intro b1 a w A H
  refine wpList_nil ?_
  refine wp_seq ?_
  refine wp_region_lit ?_
  refine step (Runs.move A rfl) A rfl ?_; clear A a; intro a A
  refine step (Runs.move A rfl) A rfl ?_; clear A a; intro a A
  refine step_callF A rfl rfl (c_objects_Get hl (by omega) hs) H ?_
  rintro v1_2 a w m hm hget A H
  have hM := hM.trans hm
  have hl := hl.mono hm
  rcases hgp : getP l id with _ | d <;> simp only [hgp] at hget
  · subst hget
    refine step (Runs.move A rfl) A rfl ?_; clear A a; intro a A
    refine step (Runs.extract A rfl rfl) A rfl ?_; clear A a; intro a A
    refine step (Runs.extract A rfl rfl) A rfl ?_; clear A a; intro a A
    refine step (Runs.assign A rfl) A rfl ?_; clear A a; intro a A
    refine step (Runs.assign A rfl) A rfl ?_; clear A a; intro a A
    refine wpList_nil ?_
    refine wp_seq ?_
    refine wp_region_lit ?_
    refine step (Runs.move A rfl) A rfl ?_; clear A a; intro a A
    refine step (Runs.move A rfl) A rfl ?_; clear A a; intro a A
    refine step (Runs.build A rfl rfl rfl) A rfl ?_; clear A a; intro a A
    refine step_store A H rfl rfl rfl rfl rfl rfl ?_; intro w H
    refine wpList_nil ?_
    refine wp_ret ?_
    exact retFc A rfl rfl hM H rfl (by simp only [hgp])
  · obtain ⟨u, rfl, adu, nu, cu, rfl, hsu, hnu⟩ := hget
    refine step (Runs.move A rfl) A rfl ?_; clear A a; intro a A
    refine step (Runs.extract A rfl rfl) A rfl ?_; clear A a; intro a A
    refine step (Runs.extract A rfl rfl) A rfl ?_; clear A a; intro a A
    refine step (Runs.assign A rfl) A rfl ?_; clear A a; intro a A
    refine step (Runs.assign A rfl) A rfl ?_; clear A a; intro a A
    refine wpList_nil ?_
    refine wp_seq ?_
    refine wp_region_lit ?_
    refine step (Runs.move A rfl) A rfl ?_; clear A a; intro a A
    refine step (Runs.move A rfl) A rfl ?_; clear A a; intro a A
    refine step (Runs.build A rfl rfl rfl) A rfl ?_; clear A a; intro a A
    refine step_store A H rfl rfl rfl rfl rfl rfl ?_; intro w H
    refine wpList_nil ?_
    refine wp_ret ?_
    exact retFc A rfl rfl hM H rfl (by simp only [hgp]; exact ⟨_, rfl, _, _, _, rfl, hsu, hnu⟩)

theorem c_law18_same {u1 u2 : Value} {d1 d2 : List UInt8} {e1 e2 : Int} {m : Mem} (h1 : Dat m u1 d1) (h2 : Dat m u2 d2) : Spec Tryz.prog 31 #[.agg #[u1, .int .i64 e1], .agg #[u2, .int .i64 e2]] m [] (RetE (.bool (decide (e1 = e2 ∧ d1 = d2)))) := by
  refine Spec.enter0 Tryz.func31 rfl 17 Tryz.ntmps31 rfl fun a w0 Lf A H => ?_
  have hM := Le.refl m
  obtain ⟨ad, n, c, rfl, hs, hn⟩ := h1
  obtain ⟨ad2, n2, c2, rfl, hs2, hn2⟩ := h2
  refine wp_seq ?_
  refine wp_region_lit ?_
  refine step_box A H rfl (by simp only [Value.cells, List.toList_toArray]; rfl) rfl ?_; intro b1 a w A H
  refine step_box A H rfl (by simp only [Value.cells, List.toList_toArray]; rfl) rfl ?_; intro b2 a w A H
  refine step (Runs.assign A rfl) A rfl ?_; clear A a; intro a A
  refine wpList_nil ?_
  refine wp_seq ?_
  refine wp_region_lit ?_
  refine step (Runs.fa A rfl) A rfl ?_; clear A a; intro a A
  refine step (Runs.ld1 A H rfl rfl) A rfl ?_; clear A a; intro a A
  refine step (Runs.fa A rfl) A rfl ?_; clear A a; intro a A
  refine step (Runs.ld1 A H rfl rfl) A rfl ?_; clear A a; intro a A
  refine step (Runs.eql A rfl rfl) A rfl ?_; clear A a; intro a A
  refine step (Runs.move A rfl) A rfl ?_; clear A a; intro a A
  refine onBool A (dj := 10) rfl (fun h1 => ?_) (fun h1 => ?_)
  · have g1 := h1
    try simp only [decide_eq_true_eq, decide_eq_false_iff_not, Bool.not_eq_true', Bool.not_eq_false', ne_eq, Decidable.not_not, Int.not_lt, Int.not_le] at g1
    refine stepG (dj := 10) rfl rfl h1 (Runs.fa A rfl) A rfl ?_; clear A a; intro a A
    refine stepG (dj := 10) rfl rfl h1 (Runs.ld1 A H rfl rfl) A rfl ?_; clear A a; intro a A
    refine stepG (dj := 10) rfl rfl h1 (Runs.fa A rfl) A rfl ?_; clear A a; intro a A
    refine stepG (dj := 10) rfl rfl h1 (Runs.ld1 A H rfl rfl) A rfl ?_; clear A a; intro a A
    refine step_callFG (dj := 10) rfl rfl h1 A rfl rfl (c_wireloomref06_Same hs hs2) H ?_
    rintro v1_10 a w m hm rfl A H
    have hM := hM.trans hm
    have hs := hs.mono hm
    have hs2 := hs2.mono hm
    refine step (Runs.pickT A rfl h1 rfl) A rfl ?_; clear A a; intro a A
    refine step (Runs.assign A rfl) A rfl ?_; clear A a; intro a A
    refine wpList_nil ?_
    refine wp_ret ?_
    have g : e1 = e2 := by simpa using h1
    exact retF A rfl rfl hM H (by simp [g])
  · have g1 := h1
    try simp only [decide_eq_true_eq, decide_eq_false_iff_not, Bool.not_eq_true', Bool.not_eq_false', ne_eq, Decidable.not_not, Int.not_lt, Int.not_le] at g1
    refine stepSkip (dj := 10) rfl rfl h1 A rfl ?_; clear A a; intro a A
    refine stepSkip (dj := 10) rfl rfl h1 A rfl ?_; clear A a; intro a A
    refine stepSkip (dj := 10) rfl rfl h1 A rfl ?_; clear A a; intro a A
    refine stepSkip (dj := 10) rfl rfl h1 A rfl ?_; clear A a; intro a A
    refine stepSkip (dj := 10) rfl rfl h1 A rfl ?_; clear A a; intro a A
    refine step (Runs.pickF A rfl h1 rfl) A rfl ?_; clear A a; intro a A
    refine step (Runs.assign A rfl) A rfl ?_; clear A a; intro a A
    refine wpList_nil ?_
    refine wp_ret ?_
    have g : ¬ e1 = e2 := by simpa using h1
    exact retF A rfl rfl hM H (by simp [g])

theorem c_wireloomlaw18_chosen {ad : Option Addr} {n c : Nat} {l : List Obj} {mk : Int} {more : UInt64} {m : Mem} (hl : Objs m ad n c l) (hb : n ≤ 1100000) : Spec Tryz.prog 25 #[.slice ad n c, .int .u16 mk, u64 more] m [] (RetF fun m' v => ∃ ad' n' c' k, v = .slice ad' n' c' ∧ Ws m' ad' n' c' k ∧ n' ≤ n + 1) := by
  refine Spec.enter0 Tryz.func25 rfl 35 Tryz.ntmps25 rfl fun a w0 Lf A H => ?_
  have hM := Le.refl m
  have hn := hl.1
  have hcap := hl.cap
  have hmx : maxLen = 9223372036854775807 := rfl
  refine wp_seq ?_
  refine wp_region_lit ?_
  refine step (Runs.assign A rfl) A rfl ?_; clear A a; intro a A
  refine wpList_nil ?_
  refine wp_seq ?_
  refine wp_region_lit ?_
  refine step_slice A H rfl rfl rfl rfl rfl rfl ?_; intro b1 a w A H
  refine step (Runs.assign A rfl) A rfl ?_; clear A a; intro a A
  refine wpList_nil ?_
  refine wp_seq ?_
  refine wp_seq ?_
  refine wp_region_lit ?_
  refine step (Runs.assign A rfl) A rfl ?_; clear A a; intro a A
  refine wpList_nil ?_
  refine wp_block ?_
  have H := H.row_pt (n := 0) (size := 1) rfl (by omega)
  refine wp_loop_ghost (fun q a w => ∃ (i : Nat) (ad2 : Option Addr) (c2 : Nat) (k : List UInt64) (m' : Mem), q = n + 1 - i ∧ (i ≤ n ∧ k.length ≤ i) ∧ Le m m' ∧ Fr 35 a [(0, .slice ad n c), (1, .int .u16 mk), (2, u64 more), (7, .slice ad2 k.length c2), (8, .int .i64 i)] [] ∧ St w0 w m' (row 29 1 ad2 k.length c2 (k.map u64) :: Lf)) _ ⟨0, some ⟨b1, 0, none⟩, 0, [], m, rfl, ⟨by omega, by simp⟩, Le.refl m, (Fr.cons A rfl (Fr.cons A rfl (Fr.cons A rfl (Fr.cons A rfl (Fr.cons A rfl (Fr.nil A)))))), H⟩ ?_
  clear A H; rintro q a w ⟨i, ad2, c2, k, m, rfl, hinv, hm, A, H⟩
  have hM := hM.trans hm
  have hl := hl.mono hm
  have hl1 := hm
  obtain ⟨hin, hkl⟩ := hinv
  refine wp_seq ?_
  refine wp_seq ?_
  refine wp_region_lit ?_
  refine step (Runs.move A rfl) A rfl ?_; clear A a; intro a A
  refine step (Runs.move A rfl) A rfl ?_; clear A a; intro a A
  refine step (Runs.lenL A rfl SlC.h) A rfl ?_; clear A a; intro a A
  refine step (Runs.lss A rfl rfl) A rfl ?_; clear A a; intro a A
  refine wpList_nil ?_
  refine cond_split A rfl (fun h1 => ?_) (fun h1 => ?_)
  · have g1 := h1
    try simp only [decide_eq_true_eq, decide_eq_false_iff_not, Bool.not_eq_true', Bool.not_eq_false', ne_eq, Decidable.not_not, Int.not_lt, Int.not_le] at g1
    refine wp_skip ?_
    refine wp_seq ?_
    refine wp_block ?_
    refine wp_seq ?_
    refine wp_region_lit ?_
    refine step (Runs.move A rfl) A rfl ?_; clear A a; intro a A
    refine step (Runs.move A rfl) A rfl ?_; clear A a; intro a A
    refine step (Runs.rem A rfl rfl (by omega) (by omega)) A rfl ?_; clear A a; intro a A
    refine step (Runs.convN A rfl (wrap_u64 (by omega) (by omega))) A rfl ?_; clear A a; intro a A
    refine step (Runs.shrK A rfl rfl (by omega)) A rfl ?_; clear A a; intro a A
    refine step (Runs.andK A rfl rfl) A rfl ?_; clear A a; intro a A
    refine step (Runs.eql A rfl rfl) A rfl ?_; clear A a; intro a A
    refine wpList_nil ?_
    refine cond_split A rfl (fun h2 => ?_) (fun h2 => ?_)
    · have g2 := h2
      try simp only [decide_eq_true_eq, decide_eq_false_iff_not, Bool.not_eq_true', Bool.not_eq_false', ne_eq, Decidable.not_not, Int.not_lt, Int.not_le] at g2
      refine wp_region_lit ?_
      refine step (Runs.move A rfl) A rfl ?_; clear A a; intro a A
      refine step (Runs.move A rfl) A rfl ?_; clear A a; intro a A
      refine step (Runs.move A rfl) A rfl ?_; clear A a; intro a A
      obtain ⟨x, hx⟩ := ex_at (l := l) (i := i) (by omega)
      obtain ⟨bb, off, cs, rfl, hfz, hcs⟩ := hl.all_ (by omega)
      obtain ⟨vx, hx1, hx2, hx3, hxd⟩ := hcs _ _ hx
      refine step (Runs.indexAddr A rfl rfl SlC.h (by omega) (by omega)) A rfl ?_; clear A a; intro a A
      refine step (Runs.fa A rfl) A rfl ?_; clear A a; intro a A
      refine step (Runs.ld1 A H rfl (v := u64 x.id) (by rw [Int.toNat_natCast]; exact hx1)) A rfl ?_; clear A a; intro a A
      refine step_slice A H rfl rfl rfl rfl rfl rfl ?_; intro b2 a w A H
      refine step_append A H rfl rfl rfl rfl (by decide) (by omega) (by simp only [maxLen]; omega) rfl rfl ?_; clear A a; intro ad1 c1 a w A H
      refine step (Runs.assign A rfl) A rfl ?_; clear A a; intro a A
      refine wpList_nil ?_
      refine wp_region_lit ?_
      refine step (Runs.move A rfl) A rfl ?_; clear A a; intro a A
      refine step (Runs.add A rfl rfl (by omega)) A rfl ?_; clear A a; intro a A
      refine step (Runs.assign A rfl) A rfl ?_; clear A a; intro a A
      refine wpList_nil ?_
      have e1 : k.length + 1 = (k ++ [x.id]).length := by simp
      have e2 : k.map u64 ++ [u64 x.id] = (k ++ [x.id]).map u64 := by simp
      rw [e1] at A H
      rw [e2] at H
      exact ⟨_, by omega, i + 1, _, _, k ++ [x.id], m, rfl, ⟨by omega, by simp; omega⟩, hl1, (Fr.cons A rfl (Fr.cons A rfl (Fr.cons A rfl (Fr.cons A rfl (Fr.cons A rfl (Fr.nil A)))))), H.subH⟩
    · have g2 := h2
      try simp only [decide_eq_true_eq, decide_eq_false_iff_not, Bool.not_eq_true', Bool.not_eq_false', ne_eq, Decidable.not_not, Int.not_lt, Int.not_le] at g2
      refine wp_skip ?_
      refine wp_region_lit ?_
      refine step (Runs.move A rfl) A rfl ?_; clear A a; intro a A
      refine step (Runs.add A rfl rfl (by omega)) A rfl ?_; clear A a; intro a A
      refine step (Runs.assign A rfl) A rfl ?_; clear A a; intro a A
      refine wpList_nil ?_
      skip
      exact ⟨_, by omega, i + 1, _, _, k, m, rfl, ⟨by omega, by omega⟩, hl1, (Fr.cons A rfl (Fr.cons A rfl (Fr.cons A rfl (Fr.cons A rfl (Fr.cons A rfl (Fr.nil A)))))), H.subH⟩
  · have g1 := h1
    try simp only [decide_eq_true_eq, decide_eq_false_iff_not, Bool.not_eq_true', Bool.not_eq_false', ne_eq, Decidable.not_not, Int.not_lt, Int.not_le] at g1
    refine wp_exit ?_
    refine wp_seq ?_
    refine wp_region_lit ?_
    refine step (Runs.move A rfl) A rfl ?_; clear A a; intro a A
    refine step (Runs.move A rfl) A rfl ?_; clear A a; intro a A
    refine step_slice A H rfl rfl rfl rfl rfl rfl ?_; intro b3 a w A H
    refine step_append A H rfl rfl rfl rfl (by decide) (by omega) (by simp only [maxLen]; omega) rfl rfl ?_; clear A a; intro ad2 c2 a w A H
    refine step (Runs.assign A rfl) A rfl ?_; clear A a; intro a A
    refine wpList_nil ?_
    refine wp_ret ?_
    have e1 : k.length + 1 = (k ++ [more]).length := by simp
    have e2 : k.map u64 ++ [u64 more] = (k ++ [more]).map u64 := by simp
    rw [e1] at A H
    rw [e2] at H
    obtain ⟨m2, hm2, hw, H⟩ := H.row_freeze
    exact retF A rfl rfl (hM.trans hm2) H ⟨_, _, _, _, rfl, hw, by simp; omega⟩
end Sl
end Go.Proofs.YtanhehbfbakdcaaGreatDoor
/- Ways that meet again; structs held against one another; maps. Own work; nothing about a program stands here. -/
set_option linter.unusedVariables false
set_option linter.unusedSimpArgs false
namespace Go.Proofs.YtanhehbfbakdcaaGreatDoor
namespace Sl
open Go Go.RowKit

/-! ### 1. Frames cut back -/
class Suf (F G : List (Nat × Value)) (X : outParam (List Nat)) : Prop where
  h : ∀ i, i ∉ X → lk G i = lk F i
instance (priority := high) Suf.refl {F : List (Nat × Value)} : Suf F F [] := ⟨fun _ _ => rfl⟩
instance (priority := low) Suf.cons {F G : List (Nat × Value)} {X : List Nat} {i : Nat} {v : Value} [h : Suf F G X] : Suf F ((i, v) :: G) (i :: X) := ⟨fun j hj => by
  have hne : j ≠ i := fun e => hj (by simp [e])
  have : Nat.beq i j = false := by
    cases hh : Nat.beq i j
    · rfl
    · exact absurd (Nat.eq_of_beq_eq_true hh).symm hne
  rw [lk, this]
  exact h.h j (fun hx => hj (by simp [hx]))⟩
def hasK (F : List (Nat × Value)) (i : Nat) : Bool := F.any fun p => Nat.beq p.1 i
theorem lk_hasK {F : List (Nat × Value)} {i : Nat} {v : Value} (h : lk F i = some v) : hasK F i = true := by
  induction F with
  | nil => cases h
  | cons p F ih =>
    obtain ⟨j, u⟩ := p
    simp only [lk, cond_eq_ite] at h
    simp only [hasK, List.any_cons, Bool.or_eq_true]
    split at h
    · rename_i hb; exact .inl hb
    · exact .inr (ih h)
theorem Fr.suf {n : Nat} {a : Act} {F G : List (Nat × Value)} {X : List Nat} {D : List Deferred} [s : Suf F G X] (A : Fr n a G D) (h : X.all (fun i => !hasK F i) = true) : Fr n a F D :=
  A.weaken fun i v hv => by
    rw [s.h i fun hx => ?_]
    · exact hv
    · have h1 := List.all_eq_true.1 h i hx
      rw [lk_hasK hv] at h1; cases h1
theorem Fr.with1 {n d : Nat} {a : Act} {F G : List (Nat × Value)} {D : List Deferred} {u v : Value} (B : Fr n a F D) (A : Fr n a G D) (h : lk G d = some u) (e : u = v) : Fr n a ((d, v) :: F) D := by
  subst e
  refine ⟨B.size, B.defers, fun i x hx => ?_⟩
  simp only [lk, cond_eq_ite] at hx
  split at hx
  · rename_i hb
    have : d = i := Nat.eq_of_beq_eq_true hb
    subst this; cases hx; exact A.at_ _ _ h
  · exact B.at_ i x hx

/-! ### 2. Ways that meet -/
section
variable {P : Program} {n : Nat} {a : Act} {F : List (Nat × Value)} {D : List Deferred} {w0 w : World} {m : Mem} {L : List Res} {ops : Array Oper} {Q : Exit → Act → World → Prop} {l : List Oper}
theorem joinSame (k : Nat) (N : List (Nat × Value) → List (Nat × Value)) (_A : Fr n a F D) (_H : St w0 w m L)
    (h1 : (∀ a w m', Le m m' → Fr n a (N F) D → St w0 w m' L → wpList P ops Q (l.drop k) a w) → wpList P ops Q l a w)
    (h2 : ∀ a w m', Le m m' → Fr n a (N F) D → St w0 w m' L → wpList P ops Q (l.drop k) a w) : wpList P ops Q l a w := h1 h2
theorem joinC {c : Code} (N : List (Nat × Value) → List (Nat × Value)) (L' : List Res) (_A : Fr n a F D) (_H : St w0 w m L)
    (h1 : (∀ a w m', Le m m' → Fr n a (N F) D → St w0 w m' L' → Q .normal a w) → c.wp P Q a w)
    (h2 : ∀ a w m', Le m m' → Fr n a (N F) D → St w0 w m' L' → Q .normal a w) : c.wp P Q a w := h1 h2
end

/-! ### 3. Flat structs -/
inductive K1 | i (k : IntKind) | s | b
  deriving DecidableEq
def okF (P : Program) (f : Field) (k : K1) (o : Nat) : Bool := Nat.beq f.offset o && !(f.name == "_") && (match P.underlying f.type, k with
  | some (.int k'), .i k => decide (k = k')
  | some .string, .s => true
  | some .bool, .b => true
  | _, _ => false)
def flatF (P : Program) : List Field → List K1 → Nat → Bool
  | [], [], _ => true
  | f :: fs, k :: ks, o => okF P f k o && flatF P fs ks (o + 1)
  | _, _, _ => false
class FlatC (P : Program) (t : Nat) (ks : outParam (List K1)) : Prop where
  u : P.underlying t = some (.struct (P.fieldsOf t))
  p : P.stoodInHeld t = false
  g : P.eqGuardType P.depth t = false
  f : flatF P (P.fieldsOf t).toList ks 0 = true
def fitK : K1 → Value → Bool
  | .i k, .int k' _ => decide (k = k')
  | .s, .string _ => true
  | .b, .bool _ => true
  | _, _ => false
def fitsK : List K1 → List Value → Bool
  | [], [] => true
  | k :: ks, v :: vs => fitK k v && fitsK ks vs
  | _, _ => false
def eqV : Value → Value → Bool
  | .int _ p, .int _ q => decide (p = q)
  | .string s, .string r => decide (s = r)
  | .bool b, .bool c => decide (b = c)
  | _, _ => false
def eqL : List Value → List Value → Bool
  | x :: xs, y :: ys => eqV x y && eqL xs ys
  | _, _ => true
section
variable {P : Program} {n : Nat} {a : Act} {F : List (Nat × Value)} {D : List Deferred} {w0 w : World} {m : Mem} {L L' : List Res} {ops : Array Oper} {Q : Exit → Act → World → Prop} {rest : List Oper}
variable {d t t' : Nat} {pos : String} {after : Array Edge} {x y : Operand}
theorem part_one {k : K1} {o : Nat} {f : Field} {xs : Array Value} {v : Value} (h : okF P f k o = true) (hv : xs[o]? = some v) : (part f.type xs f.offset).run P w = .ok v w := by
  simp only [okF, Bool.and_eq_true] at h
  obtain ⟨⟨h1, _⟩, h3⟩ := h
  have ho := Nat.eq_of_beq_eq_true h1
  have : (isAgg f.type).run P w = .ok false w := by
    unfold isAgg
    rw [Sem.run_bind]
    split at h3 <;> first | (rename_i hu; rw [run_underlying hu w]; rfl) | cases h3
  simp [part, Sem.run_bind, this, ho, hv]
theorem eq_one {k : K1} {o dd : Nat} {f : Field} {u v : Value} (h : okF P f k o = true) (hu : fitK k u = true) (hv : fitK k v = true) : (Op.equalIn (dd + 1) f.type u v).run P w = .ok (eqV u v) w := by
  simp only [okF, Bool.and_eq_true] at h
  obtain ⟨_, h3⟩ := h
  split at h3
  · rename_i k1 k2 hd
    have hk : k2 = k1 := of_decide_eq_true h3
    subst hk
    cases u <;> simp [fitK] at hu
    cases v <;> simp [fitK] at hv
    subst hu; subst hv
    rw [run_equalIn_int _ _ _ _ _ _ _ hd, eqV, Bool.beq_eq_decide_eq]
  · rename_i hd
    cases u <;> simp [fitK] at hu
    cases v <;> simp [fitK] at hv
    rw [run_equalIn_string _ _ _ _ _ hd, eqV, toList_inj]
  · rename_i hd
    cases u <;> simp [fitK] at hu
    cases v <;> simp [fitK] at hv
    rw [run_equalIn_bool _ _ _ _ _ hd, eqV, Bool.beq_eq_decide_eq]
  · cases h3
theorem eq_flat {dd : Nat} : ∀ (fs : List Field) (ks : List K1) (o : Nat) (xs ys us vs : List Value), flatF P fs ks o = true → fitsK ks us = true → fitsK ks vs = true → xs.drop o = us → ys.drop o = vs →
    (Op.eqFields (dd + 1) xs.toArray ys.toArray fs).run P w = .ok (eqL us vs) w
  | [], [], _, _, _, us, vs, _, hu, hv, _, _ => by
    cases us <;> simp [fitsK] at hu
    rfl
  | [], _ :: _, _, _, _, _, _, h, _, _, _, _ => by cases h
  | _ :: _, [], _, _, _, _, _, h, _, _, _, _ => by cases h
  | f :: fs, k :: ks, o, xs, ys, [], vs, h, hu, _, _, _ => by cases hu
  | f :: fs, k :: ks, o, xs, ys, u :: us, [], h, _, hv, _, _ => by cases hv
  | f :: fs, k :: ks, o, xs, ys, u :: us, v :: vs, h, hu, hv, ex, ey => by
    simp only [flatF, Bool.and_eq_true] at h
    simp only [fitsK, Bool.and_eq_true] at hu hv
    have hx : xs[o]? = some u := by have := List.getElem?_drop (xs := xs) (i := o) (j := 0); rw [ex] at this; simpa using this.symm
    have hy : ys[o]? = some v := by have := List.getElem?_drop (xs := ys) (i := o) (j := 0); rw [ey] at this; simpa using this.symm
    have ex' : xs.drop (o + 1) = us := by rw [← List.tail_drop, ex]; rfl
    have ey' : ys.drop (o + 1) = vs := by rw [← List.tail_drop, ey]; rfl
    have hn : f.name ≠ "_" := by
      have := h.1
      simp only [okF, Bool.and_eq_true, Bool.not_eq_true', beq_eq_false_iff_ne] at this
      exact this.1.2
    simp only [Op.eqFields, hn, ne_eq, not_false_iff, if_true, Sem.run_bind, part_one (w := w) h.1 (show xs.toArray[o]? = some u by simpa using hx), part_one (w := w) h.1 (show ys.toArray[o]? = some v by simpa using hy), Result.andThen_ok, eq_one (dd := dd) (w := w) h.1 hu.1 hv.1]
    cases hb : eqV u v
    · simp [eqL, hb]
    · simp only [Bool.not_true, Bool.false_eq_true, if_false, eqL, hb, Bool.true_and]
      exact eq_flat fs ks (o + 1) xs ys us vs h.2 hu.2 hv.2 ex' ey'
theorem equal_flat {ks : List K1} {xs ys : List Value} [h : FlatC P t ks] (hx : fitsK ks xs = true) (hy : fitsK ks ys = true) : (Op.equalIn 10000 t (.agg xs.toArray) (.agg ys.toArray)).run P w = .ok (eqL xs ys) w := by
  rw [run_equalIn_struct w 9999 t _ _ h.u h.p]
  exact eq_flat (dd := 9998) _ ks 0 xs ys xs ys h.f hx hy rfl rfl
theorem Runs.aeql {ks : List K1} {xs ys : List Value} (A : Fr n a F D) (hx : ev F x = some (.agg xs.toArray)) (hy : ev F y = some (.agg ys.toArray)) [h : FlatC P t ks] (h1 : fitsK ks xs = true) (h2 : fitsK ks ys = true) : Runs P a w (.binOp .eql t x y t') (.bool (eqL xs ys)) := by
  intro _ _ _ _ _
  have e := equal_flat (P := P) (t := t) (w := w) h1 h2
  have g := run_eqGuard_agg (P := P) w .eql t x y xs.toArray ys.toArray h.g
  simp only [execOp, A.ev hx, A.ev hy, Sem.run_bind, g, Result.andThen_ok, run_eql_struct, e, Sem.run_pure]
theorem Runs.negW {p : Int} (A : Fr n a F D) (hx : ev F x = some (.int .i64 p)) : Runs P a w (.unOp .neg t x) (.int .i64 (IntKind.i64.wrap (-p))) := by
  intro _ _ _ _ _
  simp [execOp, A.ev hx, Op.unary, Op.intArith]
theorem Runs.max2 {k : IntKind} {p q : Int} {tys : Array TypeId} (A : Fr n a F D) (hx : ev F x = some (.int k p)) (hy : ev F y = some (.int k q)) : Runs P a w (.call { callee := .builtin .max, args := #[x, y], argTypes := tys }) (.int k (if q > p then q else p)) := by
  intro _ _ _ _ _
  simp [execOp, resolve, invoke, builtin, A.ev hx, A.ev hy, Builtin.max_, Builtin.max2]
/-- pointers of a struct's type held against one another -/
class PtrC (P : Program) (t : Nat) : Prop where
  h : ∃ te, P.underlying t = some (.pointer te) ∧ (P.info? te).isSome = true
theorem Runs.peqlNil {ad : Addr} (A : Fr n a F D) (hx : ev F x = some (.pointer (some ad))) (hy : ev F y = some (.pointer none)) [h : PtrC P t] : Runs P a w (.binOp .eql t x y t') (.bool false) := by
  intro _ _ _ _ _
  obtain ⟨te, h1, _⟩ := h.h
  have e : (Op.equal t (.pointer (some ad)) (.pointer none)).run P w = .ok false w := by
    unfold Op.equal
    rw [show Op.maxDepth = 9999 + 1 from rfl]
    generalize 9999 = dd
    simp only [Op.equalIn, Sem.run_bind, run_underlying h1, Result.andThen_ok, Sem.run_pure]
  simp only [execOp, A.ev hx, A.ev hy, eqGuard, Bool.not_true, Bool.false_eq_true, if_false, Sem.run_bind, Sem.run_pure, Result.andThen_ok, binOp, e]
theorem Runs.peqlNN (A : Fr n a F D) (hx : ev F x = some (.pointer none)) (hy : ev F y = some (.pointer none)) [h : PtrC P t] : Runs P a w (.binOp .eql t x y t') (.bool true) := by
  intro _ _ _ _ _
  obtain ⟨te, h1, _⟩ := h.h
  have e : (Op.equal t (.pointer none) (.pointer none)).run P w = .ok true w := by
    unfold Op.equal
    rw [show Op.maxDepth = 9999 + 1 from rfl]
    generalize 9999 = dd
    simp [Op.equalIn, Sem.run_bind, run_underlying h1]
  simp only [execOp, A.ev hx, A.ev hy, eqGuard, Bool.not_true, Bool.false_eq_true, if_false, Sem.run_bind, Sem.run_pure, Result.andThen_ok, binOp, e]
theorem Runs.pneqSame {ad : Addr} (A : Fr n a F D) (hx : ev F x = some (.pointer (some ad))) (hy : ev F y = some (.pointer (some ad))) [h : PtrC P t] : Runs P a w (.binOp .neq t x y t') (.bool false) := by
  intro _ _ _ _ _
  obtain ⟨te, h1, h2⟩ := h.h
  obtain ⟨j, h2⟩ := Option.isSome_iff_exists.1 h2
  have e : (Op.equal t (.pointer (some ad)) (.pointer (some ad))).run P w = .ok true w := by
    unfold Op.equal
    rw [show Op.maxDepth = 9999 + 1 from rfl]
    generalize 9999 = dd
    simp [Op.equalIn, run_underlying h1, sizeOf, typeInfo, h2, run_sameAddr_same]
  simp only [execOp, A.ev hx, A.ev hy, eqGuard, Sem.run_bind, Sem.run_pure, Result.andThen_ok, binOp, e, Bool.not_true, Bool.false_eq_true, if_false]
end
end Sl
end Go.Proofs.YtanhehbfbakdcaaGreatDoor
/- Maps keyed by strings: looks, loops over them, maps that are made. Strings laid behind bytes. Own work; nothing about a program stands here. -/
set_option linter.unusedVariables false
set_option linter.unusedSimpArgs false
namespace Go.Proofs.YtanhehbfbakdcaaGreatDoor
namespace Sl
open Go Go.RowKit
class MapC (P : Program) (t : Nat) (k e : outParam Nat) : Prop where
  h : P.underlying t = some (.map k e)
class ZrC (P : Program) (t : Nat) (z : outParam Value) : Prop where
  h : (P.info? t).bind (·.zero) = some z
/-- what a list of entries has at a key -/
def mget (l : List (ByteArray × Value)) (s : ByteArray) : Option Value := (l.find? fun p => decide (p.1 = s)).map (·.2)
theorem mget_some {l : List (ByteArray × Value)} {s : ByteArray} {v : Value} (hn : (l.map (·.1)).Nodup) (h : (s, v) ∈ l) : mget l s = some v := by
  induction l with
  | nil => cases h
  | cons p l ih =>
    rw [List.map_cons, List.nodup_cons] at hn
    rcases List.mem_cons.1 h with rfl | h'
    · simp [mget]
    · have hne : p.1 ≠ s := fun e => hn.1 (e ▸ List.mem_map.2 ⟨_, h', rfl⟩)
      have := ih hn.2 h'
      simpa [mget, hne] using this
theorem mget_none {l : List (ByteArray × Value)} {s : ByteArray} (h : ∀ p ∈ l, p.1 ≠ s) : mget l s = none := by
  simp only [mget, Option.map_eq_none_iff, List.find?_eq_none, decide_eq_true_eq]
  exact h
theorem mem_ment {l : List (ByteArray × Value)} {k v : Value} : (k, v) ∈ ment l ↔ ∃ s, k = .string s ∧ (s, v) ∈ l := by
  simp only [ment, List.mem_map, Prod.mk.injEq]
  constructor
  · rintro ⟨p, hp, rfl, rfl⟩; exact ⟨p.1, rfl, hp⟩
  · rintro ⟨s, rfl, h⟩; exact ⟨_, h, rfl, rfl⟩
theorem beqB (a b : ByteArray) : (a == b) = decide (a = b) := by rw [beq_toListBytes, toList_inj]
theorem findNow_str {s : ByteArray} : ∀ (es : List MapEntry) (i : Nat), (∀ e ∈ es, ∃ k, e.key = .string k) →
    (Instr.findNow .string (.string s) es i = some none ∧ ∀ e ∈ es, e.key ≠ .string s) ∨ ∃ j e, Instr.findNow .string (.string s) es i = some (some (j, e.val)) ∧ e ∈ es ∧ e.key = .string s
  | [], _, _ => .inl ⟨rfl, by simp⟩
  | e :: es, i, h => by
    obtain ⟨k, hk⟩ := h e (by simp)
    by_cases hs : s = k
    · subst hs
      exact .inr ⟨i, e, by simp [Instr.findNow, hk, Instr.sameNow, beqB], by simp, hk⟩
    · have hb : (s == k) = false := by rw [beqB]; exact decide_eq_false hs
      rcases findNow_str (s := s) es (i + 1) (fun e he => h e (by simp [he])) with ⟨h1, h2⟩ | ⟨j, e', h1, h2, h3⟩
      · refine .inl ⟨by simp [Instr.findNow, hk, Instr.sameNow, hb, h1], fun x hx => ?_⟩
        rcases List.mem_cons.1 hx with rfl | hx
        · rw [hk]; intro e2; cases e2; exact hs rfl
        · exact h2 x hx
      · exact .inr ⟨j, e', by simp [Instr.findNow, hk, Instr.sameNow, hb, h1], by simp [h2], h3⟩
section
variable {P : Program} {n : Nat} {a : Act} {F : List (Nat × Value)} {D : List Deferred} {w0 w : World} {m : Mem} {L L' : List Res} {ops : Array Oper} {Q : Exit → Act → World → Prop} {rest : List Oper}
variable {d t : Nat} {pos : String} {after : Array Edge} {x y : Operand}
theorem checkKey_str {em : Bool} {k : Nat} {s : ByteArray} (hk : P.underlying k = some .string) : (Instr.checkKey em 10000 k (.string s)).run P w = .ok () w := by
  rw [show (10000 : Nat) = 9999 + 1 from rfl]
  generalize 9999 = dd
  simp only [Instr.checkKey, Sem.run_bind, run_underlying hk, Result.andThen_ok, Sem.run_pure]
def lookV (l : List (ByteArray × Value)) (s : ByteArray) (z : Value) (ok : Bool) : Value := if ok then .tuple #[(mget l s).getD z, .bool (mget l s).isSome] else (mget l s).getD z
theorem look_run {k e r : Nat} {l : List (ByteArray × Value)} {s : ByteArray} {ok : Bool} {z : Value} [M : MapC P t k e] [S : StrC P k] [Z : ZrC P e z] (H : St w0 w m L) (hm : MapIs m r (ment l)) (hn : (l.map (·.1)).Nodup) :
    (Instr.lookup t (.map (some r)) (.string s) ok).run P w = .ok (lookV l s z ok) w := by
  obtain ⟨es, c, h1, h2, h3, h4⟩ := hm
  have hg : (getObj r).run P w = .ok (.map es c) w := by simp [getObj, Sem.run, H.frz _ _ h1]
  have hz : (zeroValue e).run P w = .ok z w := by
    have := Z.h
    simp only [Option.bind_eq_some_iff] at this
    obtain ⟨i, hi, hz⟩ := this
    simp [zeroValue, typeInfo, hi, hz]
  have hstr : ∀ q ∈ es.toList, ∃ k, q.key = .string k := fun q hq => by
    have : (q.key, q.val) ∈ ment l := h2.mem_iff.1 (List.mem_map.2 ⟨q, hq, rfl⟩)
    obtain ⟨s', h, _⟩ := mem_ment.1 this
    exact ⟨s', h⟩
  unfold lookV
  rcases findNow_str (s := s) es.toList 0 hstr with ⟨f1, f2⟩ | ⟨j, q, f1, f2, f3⟩
  · have hno : mget l s = none := mget_none fun p hp e => by
      have : ((.string p.1 : Value), p.2) ∈ ment l := mem_ment.2 ⟨_, rfl, hp⟩
      obtain ⟨q, hq, he⟩ := List.mem_map.1 (h2.mem_iff.2 this)
      simp only [Prod.mk.injEq] at he
      exact f2 q hq (by rw [he.1, e])
    simp only [Instr.lookup, Sem.run_bind, run_underlying M.h, Result.andThen_ok, hg, Sem.run_pure, checkKey_str S.h, Instr.findKey, run_underlying S.h, f1, hz, hno, Option.getD_none, Option.isSome_none]
  · have hs : mget l s = some q.val := mget_some hn (by
      have : (q.key, q.val) ∈ ment l := h2.mem_iff.1 (List.mem_map.2 ⟨q, f2, rfl⟩)
      obtain ⟨s', h, h'⟩ := mem_ment.1 this
      rw [f3] at h; cases h; exact h')
    simp only [Instr.lookup, Sem.run_bind, run_underlying M.h, Result.andThen_ok, hg, Sem.run_pure, checkKey_str S.h, Instr.findKey, run_underlying S.h, f1, hs, Option.getD_some, Option.isSome_some]
theorem Runs.look {k e r : Nat} {l : List (ByteArray × Value)} {s : ByteArray} {ok : Bool} {z : Value} [M : MapC P t k e] [S : StrC P k] [Z : ZrC P e z] (A : Fr n a F D) (H : St w0 w m L) (hx : ev F x = some (.map (some r))) (hy : ev F y = some (.string s)) (hm : MapIs m r (ment l)) (hn : (l.map (·.1)).Nodup) :
    Runs P a w (.lookup t x y ok) (lookV l s z ok) := by
  intro _ _ _ _ _
  simp only [execOp, A.ev hx, A.ev hy, Sem.run_bind, look_run H hm hn, Result.andThen_ok, Sem.run_pure]

/-! ### A loop over a map that is read -/
theorem step_rangeM {k e r c : Nat} {es : Array MapEntry} [M : MapC P t k e] (A : Fr n a F D) (H : St w0 w m L) (hx : ev F x = some (.map (some r))) (hm : m r = some (.map es c)) (hd : Nat.blt d n = true) {ts : Nat}
    (K : ∀ b a' w', Fr n a' ((d, .pointer (some ⟨b, 0, none⟩)) :: F) D → St w0 w' m (ob b (.mapIter (some r) c #[] c) :: L) → wpList P ops Q rest a' w') :
    wpList P ops Q (⟨some d, .range t x, ts, pos, after, none⟩ :: rest) a w := by
  have hg : (getObj r).run P w = .ok (.map es c) w := by simp [getObj, Sem.run, H.frz _ _ hm]
  refine stepW (w1 := w.alloc (.mapIter (some r) c #[] c)) (v := .pointer (some ⟨w.heap.size, 0, none⟩)) (fun _ _ _ _ _ => ?_) A hd fun a' A' => K _ a' _ A' (H.alloc _)
  simp only [execOp, Instr.range, A.ev hx, Sem.run_bind, run_underlying M.h, Result.andThen_ok, hg, Sem.run_pure, newObj]
  rfl
theorem setBlock_upd {b : Nat} {o o' : Go.Obj} (H : St w0 w m (ob b o :: L)) (w1 : World) (hw : w1 = w ∨ w1 = w.drew) : St w0 (ChangeMaps.setBlock w1 b o') m (ob b o' :: L) := by
  have hb := H.block
  have hl := (Array.getElem?_eq_some_iff.1 hb).1
  refine H.update ?_ ?_ ?_
  · rcases hw with rfl | rfl <;> exact ⟨rfl, rfl, rfl, by simp [ChangeMaps.setBlock]⟩
  · rcases hw with rfl | rfl <;> simp [ChangeMaps.setBlock, hl]
  · intro k hk hk2
    rcases hw with rfl | rfl <;> simp [ChangeMaps.setBlock, Ne.symm hk]
    rfl
theorem step_nextMap {b r c : Nat} {es : Array MapEntry} {seen : Array Nat} (A : Fr n a F D) (H : St w0 w m L) (hx : ev F x = some (.pointer (some ⟨b, 0, none⟩))) [hp : HasOb L b (.mapIter (some r) c seen c) L'] (hm : m r = some (.map es c)) (hlt : ∀ e ∈ es.toList, e.born < c) (hd : Nat.blt d n = true) {ts : Nat}
    (k1 : ∀ e, e ∈ es.toList → seen.contains e.born = false → (leftOf es (seen.push e.born)).size < (leftOf es seen).size → ∀ a' w', Fr n a' ((d, .tuple #[.bool true, e.key, e.val]) :: F) D → St w0 w' m (ob b (.mapIter (some r) c (seen.push e.born) c) :: L') → wpList P ops Q rest a' w')
    (k0 : (∀ e ∈ es.toList, seen.contains e.born = true) → ∀ a', Fr n a' ((d, .tuple #[.bool false]) :: F) D → wpList P ops Q rest a' w) :
    wpList P ops Q (⟨some d, .next x false, ts, pos, after, none⟩ :: rest) a w := by
  have H' : St w0 w m (ob b (.mapIter (some r) c seen c) :: L') := H.perm hp.p
  rcases run_next_at (P := P) w ts b r c c seen es c H'.block (H.frz _ _ hm) hlt (Nat.le_refl _) with ⟨h0, hr⟩ | ⟨e, he, w1, hw, hr⟩
  · refine wpList_plain rfl fun K hK => ?_
    unfold Oper.wp
    simp only [execOp, A.ev hx, Sem.run_bind, hr, Result.andThen_ok, Sem.run_pure]
    exact hK _ _ (k0 (all_seen es seen h0) _ (A.put hd _))
  · refine wpList_plain rfl fun K hK => ?_
    unfold Oper.wp
    simp only [execOp, A.ev hx, Sem.run_bind, hr, Result.andThen_ok, Sem.run_pure]
    exact hK _ _ (k1 e (mem_left he).1 (mem_left he).2 (left_shrinks es seen e he) _ _ (A.put hd _) (setBlock_upd H' w1 hw))
theorem Runs.entry {b r c : Nat} {es : Array MapEntry} {seen : Array Nat} {e : MapEntry} (A : Fr n a F D) (H : St w0 w m L) (hx : ev F x = some (.pointer (some ⟨b, 0, none⟩))) [hp : HasOb L b (.mapIter (some r) c (seen.push e.born) c) L'] (hm : m r = some (.map es c)) (he : e ∈ es.toList) (hn : (es.toList.map (·.born)).Nodup) :
    Runs P a w (.entry x) (.tuple #[e.key, e.val]) := by
  intro _ _ _ _ _
  have hb := St.block (H.perm hp.p)
  have := run_entry_at (P := P) w b r c seen es c e hb (H.frz _ _ hm) he hn
  simp only [execOp, A.ev hx, Sem.run_bind, this, Result.andThen_ok, Sem.run_pure]

/-! ### A map that is made -/

/-! ### Strings laid behind bytes -/
theorem strCells_u8 (s : ByteArray) : Lib.strCells s = s.data.toList.map u8 := by simp [Lib.strCells, u8]
theorem append_str_at {ty e u : Nat} {i : TypeInfo} {s : ByteArray} {ad : Option Addr} {k c : Nat} {xs : List Value} (ht : P.underlying t = some (.slice e)) (hu : P.underlying u = some .string) (hi : P.info? e = some i) (hz : i.zero = some (.int .u8 0)) (hs1 : i.size = 1) (hb1 : i.bytes = 1)
    (hown : w.ownsRow 0 e 1 (.slice ad k c) k xs) (hln : k + s.size ≤ 140737488355328) :
    ∃ v' w', (Builtin.append_ #[t, u] ty #[.slice ad k c, .string s]).run P w = .ok v' w' ∧ w'.ownsRow 0 e 1 v' (k + s.size) (xs ++ Lib.strCells s) ∧ w.grownBy w' (Value.slice ad k c).ownBlock ∧ (v'.ownBlock = (Value.slice ad k c).ownBlock ∨ v'.ownBlock = some w.heap.size) ∧ (v' = .slice none 0 0 ↔ Value.slice ad k c = .slice none 0 0 ∧ s.size = 0) := by
  obtain ⟨v', w', h1, h2, h3, h4⟩ := Lib.run_append_own_string (P := P) w 0 t u ty e i ht hu hi hz hs1 hb1 _ k xs hown s (by simp only [maxLen]; omega) hln (Nat.zero_le _)
  refine ⟨v', w', h1, h2, h3, ?_, h4⟩
  have hsz : (Lib.strCells s).length = s.size := Lib.strCells_length s
  rcases hown.2 with ⟨ho, _⟩ | ⟨g, cap, cur, ho, _, hg, hnc, _, hcs, _⟩
  · cases ho
    by_cases h0 : s.size = 0
    · have := h4.2 ⟨rfl, h0⟩
      subst this; exact .inl rfl
    · have hr := run_append_nil_string (P := P) w t u ty e i (.int .u8 0) ht hu hi hz s (by omega) (by omega) (by rw [hb1]; omega)
      rw [hr] at h1
      injection h1 with h1 _
      subst h1; exact .inr rfl
  · cases ho
    by_cases hroom : k + s.size ≤ c
    · have hr := Lib.run_append_room_string (P := P) w t u ty e i ht hu hi hs1 g k c cur hg s hroom (by simp at hcs; omega)
      rw [hr] at h1
      injection h1 with h1 _
      subst h1; exact .inl rfl
    · have hr := Lib.run_append_grow_string (P := P) w t u ty e i (.int .u8 0) ht hu hi hz ⟨g, 0, none⟩ k c xs (by rw [hs1]; exact hown.1) (hown.cells (g := g) rfl) s (by omega) (by omega) (by rw [hb1]; exact growslice_fits (by omega) (by omega))
      rw [hr] at h1
      injection h1 with h1 _
      subst h1; exact .inr rfl
theorem step_appendStr {e u k c by_ ts : Nat} {xs zs : List Value} {ad : Option Addr} {s : ByteArray} {ag : Bool} (A : Fr n a F D) (H : St w0 w m L) (hx : ev F x = some (.slice ad k c)) (hy : ev F y = some (.string s))
    [hr : HasRow L e 1 ad k c xs L'] [hs : SlC P t e 1] [hu : StrC P u] [T : TyC P e ag 1 by_ zs] [Z : ZrC P e (.int .u8 0)] (hb : Nat.beq by_ 1 = true) (hln : k + s.size ≤ 140737488355328) (hd : Nat.blt d n = true)
    (K : ∀ ad' c' a' w', (ad = none → s.size = 0 → ad' = none) → Fr n a' ((d, .slice ad' (k + s.size) c') :: F) D → St w0 w' m (row e 1 ad' (k + s.size) c' (xs ++ s.data.toList.map u8) :: L') → wpList P ops Q rest a' w') :
    wpList P ops Q (⟨some d, .call { callee := .builtin .append, args := #[x, y], argTypes := #[t, u] }, ts, pos, after, none⟩ :: rest) a w := by
  have HR : St w0 w m (row e 1 ad k c xs :: L') := H.perm hr.p
  obtain ⟨i, z, g1, g2, g3, g4, g5⟩ := T.h.info
  obtain ⟨q0, j1, j2, j3⟩ := slEl_spec hs.h
  have hz : i.zero = some (.int .u8 0) := by have := Z.h; rw [g1] at this; simpa using this
  obtain ⟨v', w', r1, r2, r3, r4, r5⟩ := append_str_at (P := P) (ty := ts) j1 hu.h g1 hz g2 (by rw [g3]; exact Nat.eq_of_beq_eq_true hb) HR.row_owns hln
  obtain ⟨ad', c', rfl, H'⟩ := HR.row_grown r2 r3 r4
  rw [strCells_u8] at H'
  refine wpList_plain rfl fun K' hK => ?_
  unfold Oper.wp execOp
  simp only [resolve, invoke, builtin, Sem.run_bind, Sem.run_pure, Result.andThen_ok, List.map_toArray, List.map_cons, List.map_nil, A.ev hx, A.ev hy, r1]
  refine hK _ _ (K ad' c' _ w' (fun e h0 => ?_) (A.put hd _) H')
  subst e
  have hnil : Value.slice none k c = .slice none 0 0 := by
    rcases HR.row_owns.2 with ⟨h, _⟩ | ⟨g, cap, cur, h, _⟩
    · exact h
    · cases h
  have := r5.2 ⟨hnil, h0⟩
  simp only [Value.slice.injEq] at this
  exact this.1
end
end Sl
end Go.Proofs.YtanhehbfbakdcaaGreatDoor
/- More facts on the types of the loaded program, each a closed fact of the kernel's. Printed by my gen.py. -/
namespace Go.Proofs.YtanhehbfbakdcaaGreatDoor
namespace Sl
open Go
instance : PtrC Tryz.prog 113 := ⟨115, by kernel_rfl, by kernel_rfl⟩
instance : FlatC Tryz.prog 125 [K1.i .i64, K1.s] := ⟨by kernel_rfl, by kernel_rfl, by kernel_rfl, by kernel_rfl⟩
instance : FlatC Tryz.prog 130 [K1.i .i64, K1.s, K1.i .i64] := ⟨by kernel_rfl, by kernel_rfl, by kernel_rfl, by kernel_rfl⟩
instance : MapC Tryz.prog 224 9 4 := ⟨by kernel_rfl⟩
instance : MapC Tryz.prog 262 9 3 := ⟨by kernel_rfl⟩
instance : ZrC Tryz.prog 4 (.bool false) := ⟨by kernel_rfl⟩
instance : ZrC Tryz.prog 5 (.int .u8 0) := ⟨by kernel_rfl⟩
end Sl
end Go.Proofs.YtanhehbfbakdcaaGreatDoor
/- Files as trees, and how they lie in memory. Own work. -/
set_option linter.unusedVariables false
set_option linter.unusedSimpArgs false
namespace Go.Proofs.YtanhehbfbakdcaaGreatDoor
namespace Sl
open Go
def I64 (n : Int) : Prop := -9223372036854775808 ≤ n ∧ n ≤ 9223372036854775807
structure PNum where
  n : Int
  p : ByteArray
  deriving DecidableEq
structure PRule where
  kind : Int
  src : ByteArray
  n : Int
  deriving DecidableEq
structure PBind where
  port : ByteArray
  chan : ByteArray
  deriving DecidableEq
inductive Ex where
  | mk (op : Int) (name : ByteArray) (k w : PNum) (args : List Ex)
def Ex.op : Ex → Int | .mk o _ _ _ _ => o
def Ex.name : Ex → ByteArray | .mk _ s _ _ _ => s
def Ex.k : Ex → PNum | .mk _ _ k _ _ => k
def Ex.w : Ex → PNum | .mk _ _ _ w _ => w
def Ex.args : Ex → List Ex | .mk _ _ _ _ l => l
structure PItem where
  kind : Int
  name : ByteArray
  width : PNum
  depth : PNum
  init : PNum
  a : Ex
  b : Ex
  c : Ex
  rule : PRule
  of_ : ByteArray
  args : List PNum
  ports : List PBind
structure PMod where
  name : ByteArray
  clock : ByteArray
  params : List ByteArray
  items : List PItem

/-! ### 1. Lists in memory, their elements of k cells each -/
section
variable {α : Type} {R : Mem → List Value → α → Prop} {k : Nat} {m m' : Mem}
def LR (R : Mem → List Value → α → Prop) (k : Nat) (m : Mem) : List Value → List α → Prop
  | xs, [] => xs = []
  | xs, a :: l => (xs.take k).length = k ∧ R m (xs.take k) a ∧ LR R k m (xs.drop k) l
theorem LR.mono (hR : ∀ cs a, R m cs a → R m' cs a) : ∀ {l : List α} {xs : List Value}, LR R k m xs l → LR R k m' xs l
  | [], _, h => h
  | _ :: _, _, ⟨h1, h2, h3⟩ => ⟨h1, hR _ _ h2, LR.mono hR h3⟩
theorem LR.len : ∀ {l : List α} {xs : List Value}, LR R k m xs l → xs.length = l.length * k
  | [], _, h => by rw [show _ = [] from h]; simp
  | a :: l, xs, ⟨h1, _, h3⟩ => by
    have := LR.len h3
    simp only [List.length_take, List.length_drop, List.length_cons, Nat.add_mul, Nat.one_mul] at *
    omega
theorem LR.at_ : ∀ {l : List α} {xs : List Value} {i : Nat} {a : α}, LR R k m xs l → l[i]? = some a → R m ((xs.drop (i * k)).take k) a ∧ (i + 1) * k ≤ xs.length
  | [], _, _, _, _, h => by simp at h
  | b :: l, xs, 0, a, ⟨h1, h2, _⟩, h => by
    have : b = a := by simpa using h
    subst this
    rw [List.length_take] at h1
    exact ⟨by simpa using h2, by omega⟩
  | b :: l, xs, i + 1, a, ⟨h1, _, h3⟩, h => by
    obtain ⟨g1, g2⟩ := LR.at_ (i := i) h3 (by simpa using h)
    rw [List.drop_drop] at g1
    rw [List.length_take] at h1
    rw [List.length_drop] at g2
    have e : (i + 1) * k = k + i * k := by rw [Nat.add_mul, Nat.one_mul, Nat.add_comm]
    exact ⟨by rw [e]; exact g1, by rw [Nat.add_mul, Nat.one_mul]; omega⟩
theorem LR.app : ∀ {l l' : List α} {xs ys : List Value}, LR R k m xs l → LR R k m ys l' → LR R k m (xs ++ ys) (l ++ l')
  | [], _, _, _, h, h' => by rw [show _ = [] from h]; exact h'
  | a :: l, l', xs, ys, ⟨h1, h2, h3⟩, h' => by
    have hk : k ≤ xs.length := by rw [List.length_take] at h1; omega
    refine ⟨?_, ?_, ?_⟩
    · rw [List.take_append_of_le_length hk]; exact h1
    · rw [List.take_append_of_le_length hk]; exact h2
    · rw [List.drop_append_of_le_length hk]; exact LR.app h3 h'
theorem LR.one {cs : List Value} {a : α} (h : R m cs a) (hl : cs.length = k) : LR R k m cs [a] := by
  refine ⟨by rw [List.length_take, hl, Nat.min_self], ?_, ?_⟩
  · rw [← hl, List.take_length]; exact h
  · show _ = []
    rw [← hl, List.drop_length]
theorem LR.take : ∀ {l : List α} {xs : List Value} (i : Nat), LR R k m xs l → LR R k m (xs.take (i * k)) (l.take i)
  | l, xs, 0, _ => by rw [Nat.zero_mul, List.take_zero, List.take_zero]; rfl
  | [], xs, i + 1, h => by rw [show _ = [] from h, List.take_nil, List.take_nil]; rfl
  | a :: l, xs, i + 1, ⟨h1, h2, h3⟩ => by
    have e : (i + 1) * k = k + i * k := by rw [Nat.add_mul, Nat.one_mul, Nat.add_comm]
    rw [e, List.take_succ_cons]
    refine ⟨?_, ?_, ?_⟩
    · rw [List.take_take, Nat.min_eq_left (by omega)]; exact h1
    · rw [List.take_take, Nat.min_eq_left (by omega)]; exact h2
    · rw [List.drop_take, Nat.add_sub_cancel_left]; exact LR.take i h3
theorem LR.drop : ∀ {l : List α} {xs : List Value} (i : Nat), LR R k m xs l → LR R k m (xs.drop (i * k)) (l.drop i)
  | l, xs, 0, h => by rw [Nat.zero_mul, List.drop_zero, List.drop_zero]; exact h
  | [], xs, i + 1, h => by rw [show _ = [] from h, List.drop_nil, List.drop_nil]; rfl
  | a :: l, xs, i + 1, ⟨h1, h2, h3⟩ => by
    have e : (i + 1) * k = k + i * k := by rw [Nat.add_mul, Nat.one_mul, Nat.add_comm]
    rw [e, List.drop_succ_cons, ← List.drop_drop]
    exact LR.drop i h3
/-- A slice that is read, with what its elements are. -/
def Lst (R : Mem → List Value → α → Prop) (k : Nat) (m : Mem) (ad : Option Addr) (c : Nat) (l : List α) : Prop := ∃ xs, Slc m k ad l.length c xs ∧ LR R k m xs l
theorem Lst.mono' {ad : Option Addr} {c : Nat} {l : List α} (h : Lst R k m ad c l) (hm : Le m m') (hR : ∀ cs a, R m cs a → R m' cs a) : Lst R k m' ad c l := by
  obtain ⟨xs, h1, h2⟩ := h
  exact ⟨xs, h1.mono hm, h2.mono hR⟩
class MonoR (R : Mem → List Value → α → Prop) : Prop where
  h : ∀ m m', Le m m' → ∀ cs a, R m cs a → R m' cs a
theorem Lst.mono [q : MonoR R] {ad : Option Addr} {c : Nat} {l : List α} (h : Lst R k m ad c l) (hm : Le m m') : Lst R k m' ad c l := h.mono' hm (q.h _ _ hm)
theorem Lst.nil {ad : Option Addr} {c : Nat} (hc : c ≤ maxLen) : Lst R k m ad c ([] : List α) := ⟨[], Slc.nil m k ad c hc, rfl⟩
theorem Lst.cap {ad : Option Addr} {c : Nat} {l : List α} (h : Lst R k m ad c l) : l.length ≤ c ∧ c ≤ maxLen := by
  obtain ⟨_, h1, _⟩ := h; exact ⟨h1.2.1, h1.2.2.1⟩
theorem Lst.all_ {ad : Option Addr} {c : Nat} {l : List α} (h : Lst R k m ad c l) (hk : 0 < k) (hn : 0 < l.length) :
    ∃ b off cs, ad = some ⟨b, off, none⟩ ∧ Fz m b cs ∧ ∀ i a, l[i]? = some a → ∃ us, us.length = k ∧ R m us a ∧ getN cs (off + i * k) k = some us := by
  obtain ⟨xs, h1, h2⟩ := h
  obtain ⟨b, off, cs, e, hf, hcs⟩ := h1.at_ hn
  refine ⟨b, off, cs, e, hf, fun i a ha => ?_⟩
  obtain ⟨g1, g2⟩ := h2.at_ ha
  have hxl := h2.len
  have hi1 : (i + 1) * k ≤ l.length * k := by rw [← hxl]; exact g2
  have eik : (i + 1) * k = i * k + k := by rw [Nat.add_mul, Nat.one_mul]
  refine ⟨(xs.drop (i * k)).take k, by rw [List.length_take, List.length_drop]; omega, g1, ?_⟩
  have hsub : ∀ j, j < k → cs[off + i * k + j]? = ((xs.drop (i * k)).take k)[j]? := fun j hj => by
    rw [List.getElem?_take_of_lt hj, List.getElem?_drop, Nat.add_assoc, hcs _ (by omega)]
  have hle : off + i * k + k ≤ cs.length := by
    have := hsub (k - 1) (by omega)
    rw [List.getElem?_eq_getElem (l := (xs.drop (i * k)).take k) (by rw [List.length_take, List.length_drop]; omega)] at this
    have := (List.getElem?_eq_some_iff.1 this).1
    omega
  rw [getN_of hle]
  congr 1
  apply List.ext_getElem?
  intro j
  by_cases hj : j < k
  · rw [List.getElem?_take_of_lt hj, List.getElem?_drop, hsub j hj]
  · rw [List.getElem?_eq_none (by rw [List.length_take]; omega), List.getElem?_eq_none (by rw [List.length_take]; omega)]
end

/-! ### 2. What stands in memory -/
def NumR (_ : Mem) (cs : List Value) (x : PNum) : Prop := cs = [.int .i64 x.n, .string x.p] ∧ I64 x.n
def StrR (_ : Mem) (cs : List Value) (s : ByteArray) : Prop := cs = [.string s]
def BindR (_ : Mem) (cs : List Value) (x : PBind) : Prop := cs = [.string x.port, .string x.chan]
instance : MonoR NumR := ⟨fun _ _ _ _ _ q => q⟩
instance : MonoR StrR := ⟨fun _ _ _ _ _ q => q⟩
instance : MonoR BindR := ⟨fun _ _ _ _ _ q => q⟩
def exC (e : Ex) (ad : Option Addr) (c : Nat) : List Value := [.int .i64 e.op, .string e.name, .int .i64 e.k.n, .string e.k.p, .int .i64 e.w.n, .string e.w.p, .slice ad e.args.length c]
mutual
def ExR (m : Mem) (cs : List Value) : Ex → Prop
  | .mk op name k w args => ∃ ad c, cs = [.int .i64 op, .string name, .int .i64 k.n, .string k.p, .int .i64 w.n, .string w.p, .slice ad args.length c] ∧ I64 op ∧ I64 k.n ∧ I64 w.n ∧ ∃ xs, Slc m 7 ad args.length c xs ∧ ExsR m xs args
def ExsR (m : Mem) (xs : List Value) : List Ex → Prop
  | [] => xs = []
  | e :: l => (xs.take 7).length = 7 ∧ ExR m (xs.take 7) e ∧ ExsR m (xs.drop 7) l
end
theorem exsR_iff {m : Mem} : ∀ {l : List Ex} {xs : List Value}, ExsR m xs l ↔ LR ExR 7 m xs l
  | [], xs => by simp [ExsR, LR]
  | e :: l, xs => by simp only [ExsR, LR, exsR_iff (l := l)]
mutual
theorem ExR.mono {m m' : Mem} (hm : Le m m') : ∀ (e : Ex) (cs : List Value), ExR m cs e → ExR m' cs e
  | .mk op name k w args, cs, h => by
    simp only [ExR] at *
    obtain ⟨ad, c, h1, h2, h3, h4, xs, h5, h6⟩ := h
    exact ⟨ad, c, h1, h2, h3, h4, xs, h5.mono hm, ExsR.mono hm args xs h6⟩
theorem ExsR.mono {m m' : Mem} (hm : Le m m') : ∀ (l : List Ex) (xs : List Value), ExsR m xs l → ExsR m' xs l
  | [], _, h => by simp only [ExsR] at *; exact h
  | e :: l, xs, h => by
    simp only [ExsR] at *
    exact ⟨h.1, ExR.mono hm e _ h.2.1, ExsR.mono hm l _ h.2.2⟩
end
/-- The parts of an expression whose arguments lie at (ad, c). -/
def ExA (m : Mem) (ad : Option Addr) (c : Nat) (e : Ex) : Prop := I64 e.op ∧ I64 e.k.n ∧ I64 e.w.n ∧ Lst ExR 7 m ad c e.args
theorem ExR.open_ {m : Mem} {cs : List Value} {e : Ex} (h : ExR m cs e) : ∃ ad c, cs = exC e ad c ∧ ExA m ad c e := by
  cases e with
  | mk op name k w args =>
    simp only [ExR] at h
    obtain ⟨ad, c, h1, h2, h3, h4, xs, h5, h6⟩ := h
    exact ⟨ad, c, h1, h2, h3, h4, xs, h5, exsR_iff.1 h6⟩
theorem ExA.mono {m m' : Mem} {ad : Option Addr} {c : Nat} {e : Ex} (h : ExA m ad c e) (hm : Le m m') : ExA m' ad c e := ⟨h.1, h.2.1, h.2.2.1, h.2.2.2.mono' hm fun cs a => ExR.mono hm a cs⟩
/-- where the three expressions and the two lists of an item lie -/
structure IP where
  aa : Option Addr
  ca : Nat
  ab : Option Addr
  cb : Nat
  ac : Option Addr
  cc : Nat
  an : Option Addr
  cn : Nat
  ap : Option Addr
  cp : Nat
def itC (x : PItem) (p : IP) : List Value :=
  [.int .i64 x.kind, .string x.name, .int .i64 x.width.n, .string x.width.p, .int .i64 x.depth.n, .string x.depth.p, .int .i64 x.init.n, .string x.init.p,
   .int .i64 x.a.op, .string x.a.name, .int .i64 x.a.k.n, .string x.a.k.p, .int .i64 x.a.w.n, .string x.a.w.p, .slice p.aa x.a.args.length p.ca,
   .int .i64 x.b.op, .string x.b.name, .int .i64 x.b.k.n, .string x.b.k.p, .int .i64 x.b.w.n, .string x.b.w.p, .slice p.ab x.b.args.length p.cb,
   .int .i64 x.c.op, .string x.c.name, .int .i64 x.c.k.n, .string x.c.k.p, .int .i64 x.c.w.n, .string x.c.w.p, .slice p.ac x.c.args.length p.cc,
   .int .i64 x.rule.kind, .string x.rule.src, .int .i64 x.rule.n, .string x.of_, .slice p.an x.args.length p.cn, .slice p.ap x.ports.length p.cp]
structure ItA (m : Mem) (x : PItem) (p : IP) : Prop where
  kind : I64 x.kind
  width : I64 x.width.n
  depth : I64 x.depth.n
  init : I64 x.init.n
  a : ExA m p.aa p.ca x.a
  b : ExA m p.ab p.cb x.b
  c : ExA m p.ac p.cc x.c
  rk : I64 x.rule.kind
  rn : I64 x.rule.n
  args : Lst NumR 2 m p.an p.cn x.args
  ports : Lst BindR 2 m p.ap p.cp x.ports
theorem ItA.mono {m m' : Mem} {x : PItem} {p : IP} (h : ItA m x p) (hm : Le m m') : ItA m' x p :=
  ⟨h.kind, h.width, h.depth, h.init, h.a.mono hm, h.b.mono hm, h.c.mono hm, h.rk, h.rn, h.args.mono' hm fun _ _ q => q, h.ports.mono' hm fun _ _ q => q⟩
def ItR (m : Mem) (cs : List Value) (x : PItem) : Prop := ∃ p, cs = itC x p ∧ ItA m x p
theorem ItR.mono {m m' : Mem} {cs : List Value} {x : PItem} (h : ItR m cs x) (hm : Le m m') : ItR m' cs x := by
  obtain ⟨p, h1, h2⟩ := h; exact ⟨p, h1, h2.mono hm⟩
def moC (x : PMod) (ap : Option Addr) (cp : Nat) (ai : Option Addr) (ci : Nat) : List Value := [.string x.name, .string x.clock, .slice ap x.params.length cp, .slice ai x.items.length ci]
def MoA (m : Mem) (x : PMod) (ap : Option Addr) (cp : Nat) (ai : Option Addr) (ci : Nat) : Prop := Lst StrR 1 m ap cp x.params ∧ Lst ItR 35 m ai ci x.items
def MoR (m : Mem) (cs : List Value) (x : PMod) : Prop := ∃ ap cp ai ci, cs = moC x ap cp ai ci ∧ MoA m x ap cp ai ci
instance : MonoR ItR := ⟨fun _ _ hm _ _ q => ItR.mono q hm⟩
theorem MoA.mono {m m' : Mem} {x : PMod} {ap : Option Addr} {cp : Nat} {ai : Option Addr} {ci : Nat} (h : MoA m x ap cp ai ci) (hm : Le m m') : MoA m' x ap cp ai ci := ⟨h.1.mono' hm fun _ _ q => q, h.2.mono hm⟩
theorem MoR.mono {m m' : Mem} {cs : List Value} {x : PMod} (h : MoR m cs x) (hm : Le m m') : MoR m' cs x := by
  obtain ⟨ap, cp, ai, ci, h1, h2⟩ := h; exact ⟨ap, cp, ai, ci, h1, h2.mono hm⟩
instance : MonoR MoR := ⟨fun _ _ hm _ _ q => MoR.mono q hm⟩

/-! ### 3. Sizes -/
mutual
def szEx : Ex → Nat
  | .mk _ name k w args => 200 + name.size + k.p.size + w.p.size + szExs args
def szExs : List Ex → Nat
  | [] => 0
  | e :: l => szEx e + szExs l
end
def szL {α : Type} (g : α → Nat) (l : List α) : Nat := (l.map g).sum
abbrev szNums (l : List PNum) : Nat := szL (fun x => 70 + x.p.size) l
abbrev szBinds (l : List PBind) : Nat := szL (fun x => 10 + x.port.size + x.chan.size) l
abbrev szStrs (l : List ByteArray) : Nat := szL (fun x => 4 + x.size) l
theorem szL_take {α : Type} {g : α → Nat} {l : List α} {i : Nat} {a : α} (h : l[i]? = some a) : szL g (l.take (i + 1)) = szL g (l.take i) + g a := by
  unfold szL; rw [List.take_add_one, h, List.map_append, List.sum_append]; simp
theorem szL_le {α : Type} {g : α → Nat} {l : List α} (i : Nat) : szL g (l.take i) ≤ szL g l := by
  have : szL g l = szL g (l.take i) + szL g (l.drop i) := by unfold szL; rw [← List.sum_append, ← List.map_append, List.take_append_drop]
  omega
theorem szL_mem {α : Type} {g : α → Nat} {l : List α} {i : Nat} {a : α} (h : l[i]? = some a) : g a ≤ szL g l := by
  have h1 := szL_take (g := g) h
  have h2 := szL_le (g := g) (l := l) (i + 1)
  omega
theorem getN_1 {cs : List Value} {o : Nat} {v : Value} (h : getN cs o 1 = some [v]) : cs[o]? = some v := by
  obtain ⟨h1, h2⟩ := getN_some h
  have : cs[o]? = ([v] : List Value)[0]? := by rw [h2, List.getElem?_take_of_lt (by omega), List.getElem?_drop]; rfl
  exact this
def szItem (x : PItem) : Nat := 500 + x.name.size + x.width.p.size + x.depth.p.size + x.init.p.size + szEx x.a + szEx x.b + szEx x.c + x.rule.src.size + x.of_.size + szNums x.args + szBinds x.ports
def szMod (x : PMod) : Nat := 100 + x.name.size + x.clock.size + szStrs x.params + szL (fun i => 10 + szItem i) x.items
abbrev szFile (l : List PMod) : Nat := szL szMod l
theorem szEx_eq (e : Ex) : szEx e = 200 + e.name.size + e.k.p.size + e.w.p.size + szExs e.args := by cases e; rw [szEx]; rfl
end Sl
end Go.Proofs.YtanhehbfbakdcaaGreatDoor
/- The lexer as plain functions on lists of bytes. Own work. -/
set_option linter.unusedSimpArgs false
set_option linter.unusedVariables false
namespace Go.Proofs.YtanhehbfbakdcaaGreatDoor
namespace Sl
open Go

/-- class of a byte: 1 letter, 2 digit, 3 white, 4 sign, 0 other -/
def signL : List Nat := [40, 41, 123, 125, 91, 93, 44, 59, 58, 61, 43, 45, 38, 124, 94, 126, 60, 63, 64, 35, 46]
def cls (c : Nat) : Int := if 97 ≤ c ∧ c ≤ 122 then 1 else if 48 ≤ c ∧ c ≤ 57 then 2 else if c = 32 ∨ c = 10 then 3 else if c ∈ signL then 4 else 0
def tab (f : Nat → Int) : List Value := (List.range 256).map fun i => .int .u8 (f i)
theorem tab_length (f : Nat → Int) : (tab f).length = 256 := by simp [tab]
theorem tab_at (f : Nat → Int) (i : Nat) (h : i < 256) : (tab f)[i]? = some (.int .u8 (f i)) := by simp [tab, h]
def upd (f : Nat → Int) (j : Nat) (v : Int) : Nat → Int := fun i => if i = j then v else f i
theorem setN_of {cs vs : List Value} {o : Nat} (h : o + vs.length ≤ cs.length) : setN cs o vs = some (cs.take o ++ vs ++ cs.drop (o + vs.length)) := by
  induction cs generalizing o vs with
  | nil =>
    obtain ⟨rfl, rfl⟩ : o = 0 ∧ vs = [] := by simpa using h
    simp [setN]
  | cons c cs ih =>
    cases o with
    | zero =>
      cases vs with
      | nil => simp [setN]
      | cons v vs =>
        have := ih (o := 0) (vs := vs) (by simp at *; omega)
        simp only [setN, this]
        simp [consO]
    | succ o =>
      have := ih (o := o) (vs := vs) (by simp at *; omega)
      have e : setN (c :: cs) (o + 1) vs = consO c (setN cs o vs) := by cases vs <;> rfl
      rw [e, this]
      simp [consO, Nat.add_right_comm]
theorem setN_one : ∀ {cs : List Value} {j : Nat} {v : Value}, j < cs.length → setN cs j [v] = some (cs.set j v)
  | [], _, _, h => by simp at h
  | c :: cs, 0, v, _ => by simp [setN, consO]
  | c :: cs, j + 1, v, h => by
    have := setN_one (cs := cs) (j := j) (v := v) (by simpa using h)
    simp [setN, this, consO]
theorem setN_tab (f : Nat → Int) (j : Nat) (v : Int) (h : j < 256) : setN (tab f) j [.int .u8 v] = some (tab (upd f j v)) := by
  rw [setN_one (by rw [tab_length]; exact h)]
  congr 1
  apply List.ext_getElem
  · simp [tab]
  · intro i h1 h2
    by_cases e : i = j
    · subst e; simp [tab, upd]
    · simp [tab, upd, e, List.getElem_set_ne (Ne.symm e)]

structure Tok where
  kind : Int
  text : ByteArray
  at_ : Int
  deriving DecidableEq
def Tok.cells (t : Tok) : List Value := [.int .i64 t.kind, .string t.text, .int .i64 t.at_]
def tokCells (l : List Tok) : List Value := l.flatMap Tok.cells
/-- The cells of a scanner. -/
def scn (s : ByteArray) (i : Int) (tv : Value) : List Value := .string s :: .int .i64 i :: (tab cls ++ [tv])
theorem scn_cls (s : ByteArray) (i : Int) (tv : Value) (c : Nat) (h : c < 256) : (scn s i tv)[2 + c]? = some (.int .u8 (cls c)) := by
  rw [Nat.add_comm 2 c]
  show (tab cls ++ [tv])[c]? = _
  rw [List.getElem?_append_left (by rw [tab_length]; exact h), tab_at _ _ h]
theorem scn_tok (s : ByteArray) (i : Int) (tv : Value) : (scn s i tv)[258]? = some tv := by
  show (tab cls ++ [tv])[256]? = _
  rw [List.getElem?_append_right (by rw [tab_length]; omega), tab_length]
  rfl
theorem scn_set (s : ByteArray) (i : Int) (tv u : Value) : setN (scn s i tv) 258 [u] = some (scn s i u) := by
  rw [setN_one (by simp [scn, tab_length])]
  simp [scn, tab_length]
theorem scn_at (s : ByteArray) (i j : Int) (tv : Value) : setN (scn s i tv) 1 [.int .i64 j] = some (scn s j tv) := by
  rw [setN_one (by simp [scn])]
  rfl
/-- The bytes from 'i' on. -/
def rest (s : ByteArray) (i : Nat) : List UInt8 := s.data.toList.drop i
def isB (s : ByteArray) (j : Nat) (cl : List Int) : Bool := decide (j < s.size) && cl.contains (cls (bt s j).toNat)
theorem bt_lt (s : ByteArray) (j : Nat) : (bt s j).toNat < 256 := by have := bt_range s j; omega
def inC (cl : List Int) (c : UInt8) : Bool := cl.contains (cls c.toNat)
theorem rest_at (s : ByteArray) (i j : Nat) (h : i + j < s.size) : (rest s i)[j]? = some (s.data[i + j]'h) := by
  simp only [rest, List.getElem?_drop]
  rw [List.getElem?_eq_getElem (by simpa using h)]
  simp
theorem rest_none (s : ByteArray) (i j : Nat) (h : s.size ≤ i + j) : (rest s i)[j]? = none := by
  simp only [rest, List.getElem?_drop]
  exact List.getElem?_eq_none (by simpa using h)
theorem bt_eq (s : ByteArray) (i : Nat) (h : i < s.size) : (bt s i).toNat = (s.data[i]'h).toNat := by
  unfold bt
  rw [Array.getElem?_eq_getElem h]
  simp
theorem isB_rest (s : ByteArray) (i j : Nat) (cl : List Int) : isB s (i + j) cl = ((rest s i)[j]?).any (inC cl) := by
  unfold isB
  by_cases h : i + j < s.size
  · rw [rest_at s i j h, bt_eq s (i + j) h]
    simp [h, inC]
  · rw [rest_none s i j (by omega)]
    simp [h]
theorem takeWhile_len {α : Type} {l : List α} {p : α → Bool} : ∀ {n : Nat}, (∀ j, j < n → (l[j]?).any p = true) → (l[n]?).any p = false → (l.takeWhile p).length = n := by
  induction l with
  | nil =>
    intro n h1 _
    cases n with
    | zero => rfl
    | succ n => have := h1 0 (by omega); simp at this
  | cons c l ih =>
    intro n h1 h2
    cases n with
    | zero =>
      have : p c = false := by simpa using h2
      simp [this]
    | succ n =>
      have h0 : p c = true := by simpa using h1 0 (by omega)
      rw [List.takeWhile_cons, if_pos h0, List.length_cons, ih (n := n) (fun j hj => by simpa using h1 (j + 1) (by omega)) (by simpa using h2)]
/-- How many letters and digits stand at 'i'. -/
def wl (s : ByteArray) (i : Nat) : Nat := ((rest s i).takeWhile (inC [1, 2])).length
theorem wl_of {s : ByteArray} {i n : Nat} (h1 : ∀ j, j < n → isB s (i + j) [1, 2] = true) (h2 : isB s (i + n) [1, 2] = false) : wl s i = n :=
  takeWhile_len (fun j hj => by rw [← isB_rest]; exact h1 j hj) (by rw [← isB_rest]; exact h2)
theorem extract_rest (s : ByteArray) (i : Nat) : (s.extract i s.size).data.toList = rest s i := by
  rw [Lib.extract_data]
  unfold rest
  exact List.take_of_length_le (by simp)
theorem rest_length (s : ByteArray) (i : Nat) : (rest s i).length = s.size - i := by simp [rest]
theorem index_take (l : List UInt8) (c : UInt8) : (Lib.indexByte l c = -1 ∧ (l.takeWhile (· != c)).length = l.length) ∨ (0 ≤ Lib.indexByte l c ∧ Lib.indexByte l c = (l.takeWhile (· != c)).length) := by
  induction l with
  | nil => exact .inl ⟨rfl, rfl⟩
  | cons b l ih =>
    by_cases h : b = c
    · subst h
      exact .inr (by simp [Lib.indexByte])
    · have hb : (b == c) = false := by simp [h]
      rcases ih with ⟨h1, h2⟩ | ⟨h1, h2⟩
      · left
        simp [Lib.indexByte, hb, h1, h, h2]
      · right
        have : (Lib.indexByte l c == -1) = false := by simp; omega
        simp only [Lib.indexByte, hb, this, Bool.false_eq_true, if_false, List.takeWhile_cons]
        simp [h]
        omega
/-- How many bytes of white space or comment stand at 'i'. -/
def spN (s : ByteArray) (i : Nat) : Nat := if isB s i [3] then 1 else if Lib.hasPrefix (rest s i) [47, 47] then ((rest s i).takeWhile (· != 10)).length else 0
/-- How long a sign stands at 'i'. -/
def sgn (s : ByteArray) (i : Nat) : Nat := if Lib.hasPrefix (rest s i) [45, 62] then 2 else if Lib.hasPrefix (rest s i) [61, 61] then 2 else if isB s i [4] then 1 else 0
theorem prefix_le {l p : List UInt8} (h : Lib.hasPrefix l p = true) : p.length ≤ l.length := (List.isPrefixOf_iff_prefix.1 h).length_le
theorem wl_le (s : ByteArray) (i : Nat) (h : i ≤ s.size) : i + wl s i ≤ s.size := by
  have := (List.takeWhile_sublist (l := rest s i) (inC [1, 2])).length_le
  rw [rest_length] at this
  unfold wl; omega
theorem sgn_le (s : ByteArray) (i : Nat) (h : i ≤ s.size) : i + sgn s i ≤ s.size := by
  unfold sgn
  split
  · rename_i h1; have := prefix_le h1; rw [rest_length] at this; simp at this; omega
  · split
    · rename_i h1; have := prefix_le h1; rw [rest_length] at this; simp at this; omega
    · split
      · rename_i h1; simp [isB] at h1; omega
      · omega
theorem spN_le (s : ByteArray) (i : Nat) (h : i ≤ s.size) : i + spN s i ≤ s.size := by
  unfold spN
  split
  · rename_i h1; simp [isB] at h1; omega
  · split
    · have := (List.takeWhile_sublist (l := rest s i) (· != 10)).length_le
      rw [rest_length] at this; omega
    · omega
end Sl
end Go.Proofs.YtanhehbfbakdcaaGreatDoor
/- The lexer's walks: printed by my gen.py out of annotations. -/
set_option linter.unusedSimpArgs false
set_option linter.unusedVariables false
namespace Go.Proofs.YtanhehbfbakdcaaGreatDoor
namespace Sl
open Go

theorem c_lexer_scanner_is {b bc i k c n : Nat} {s : ByteArray} {tv : Value} {cl : List Int} {bcs : List Value} {m : Mem} (hbc : bcs = cl.map (.int .u8)) (hn : n = cl.length) (hik : i + k ≤ 9223372036854775807) (hcl : cl.length ≤ 1000) : Spec Tryz.prog 179 #[.pointer (some ⟨b, 0, none⟩), .int .i64 k, .slice (some ⟨bc, 0, none⟩) n c] m [pt b (scn s i tv) 244, pt bc bcs 5] (RetV fun _ v L => v = .bool (isB s (i + k) cl) ∧ L = [pt b (scn s i tv) 244, pt bc bcs 5]) := by
  subst hbc; subst hn
  refine Spec.enter Tryz.func179 rfl 46 Tryz.ntmps179 rfl fun a w0 Lf A H => ?_
  simp only [List.cons_append, List.nil_append] at H
  have hM := Le.refl m
  refine wp_seq ?_
  refine wp_region_lit ?_
  refine step (Runs.assign A rfl) A rfl ?_; clear A a; intro a A
  refine wpList_nil ?_
  refine wp_seq ?_
  refine wp_seq ?_
  refine draw_begin0 (by kernel_rfl) (N := 12) rfl (by kernel_rfl) H ?_; clear H; intro w H hR
  have hS : SW m _ w := ⟨_, H⟩
  have hL := Le.refl m
  refine dstep hR (i := 0) rfl (by kernel_rfl) (fun _ _ _ h => h) (fun _ _ H' => (Runs.move A rfl)) A rfl hS ?_; clear A a hR; intro a A hR
  refine dstep hR (i := 1) rfl (by kernel_rfl) (fun _ _ _ h => h) (fun _ _ H' => (Runs.nilCheck A rfl)) A rfl hS ?_; clear A a hR; intro a A hR
  refine dstep hR (i := 2) rfl (by kernel_rfl) (fun _ _ _ h => h) (fun _ _ H' => (Runs.fa A rfl)) A rfl hS ?_; clear A a hR; intro a A hR
  refine dstep hR (i := 3) rfl (by kernel_rfl) (fun _ _ _ h => h) (fun _ _ H' => (Runs.ld1 A H' rfl rfl)) A rfl hS ?_; clear A a hR; intro a A hR
  refine dstep hR (i := 4) rfl (by kernel_rfl) (fun _ _ _ h => h) (fun _ _ H' => (Runs.move A rfl)) A rfl hS ?_; clear A a hR; intro a A hR
  refine dstep hR (i := 5) rfl (by kernel_rfl) (fun _ _ _ h => h) (fun _ _ H' => (Runs.add A rfl rfl (by omega))) A rfl hS ?_; clear A a hR; intro a A hR
  refine dstep hR (i := 6) rfl (by kernel_rfl) (fun _ _ _ h => h) (fun _ _ H' => (Runs.move A rfl)) A rfl hS ?_; clear A a hR; intro a A hR
  refine dstep hR (i := 7) rfl (by kernel_rfl) (fun _ _ _ h => h) (fun _ _ H' => (Runs.nilCheck A rfl)) A rfl hS ?_; clear A a hR; intro a A hR
  refine dstep hR (i := 8) rfl (by kernel_rfl) (fun _ _ _ h => h) (fun _ _ H' => (Runs.fa A rfl)) A rfl hS ?_; clear A a hR; intro a A hR
  refine dstep hR (i := 9) rfl (by kernel_rfl) (fun _ _ _ h => h) (fun _ _ H' => (Runs.ld1 A H' rfl rfl)) A rfl hS ?_; clear A a hR; intro a A hR
  refine dstep hR (i := 10) rfl (by kernel_rfl) (fun _ _ _ h => h) (fun _ _ H' => (Runs.lenS A rfl StrC.h)) A rfl hS ?_; clear A a hR; intro a A hR
  refine dstep hR (i := 11) rfl (by kernel_rfl) (fun _ _ _ h => h) (fun _ _ H' => (Runs.geq A rfl rfl)) A rfl hS ?_; clear A a hR; intro a A hR
  refine draw_done hR (by kernel_rfl) ?_
  clear hS hL hR
  refine cond_split A rfl (fun h1 => ?_) (fun h1 => ?_)
  · have g1 := h1
    try simp only [decide_eq_true_eq, decide_eq_false_iff_not, Bool.not_eq_true', Bool.not_eq_false', ne_eq, Decidable.not_not, Int.not_lt, Int.not_le] at g1
    refine wp_seq ?_
    refine wp_region_lit ?_
    refine step (Runs.assign A rfl) A rfl ?_; clear A a; intro a A
    refine wpList_nil ?_
    refine wp_ret ?_
    refine retV A rfl rfl hM H ⟨congrArg Value.bool ?_, rfl⟩
    have : ¬ (i + k < s.size) := by omega
    simp [isB, this]
  · have g1 := h1
    try simp only [decide_eq_true_eq, decide_eq_false_iff_not, Bool.not_eq_true', Bool.not_eq_false', ne_eq, Decidable.not_not, Int.not_lt, Int.not_le] at g1
    refine wp_skip ?_
    refine wp_seq ?_
    refine wp_seq ?_
    refine wp_region_lit ?_
    refine step (Runs.move A rfl) A rfl ?_; clear A a; intro a A
    refine step (Runs.lenL A rfl SlC.h) A rfl ?_; clear A a; intro a A
    refine step (Runs.move A rfl) A rfl ?_; clear A a; intro a A
    refine wpList_nil ?_
    refine wp_block ?_
    refine wp_loop_ghost (fun q a w => ∃ (j : Nat) (m' : Mem), q = cl.length - j ∧ (j ≤ cl.length ∧ (cl.take j).contains (cls (bt s (i + k)).toNat) = false) ∧ Le m m' ∧ Fr 46 a [(0, .pointer (some ⟨b, 0, none⟩)), (1, .int .i64 k), (21, .slice (some ⟨bc, 0, none⟩) cl.length c), (22, .int .i64 cl.length), (23, .int .i64 j)] [] ∧ St w0 w m' (pt b (scn s i tv) 244 :: pt bc (cl.map (.int .u8)) 5 :: Lf)) _ ⟨0, m, rfl, ⟨by omega, by simp⟩, Le.refl m, (Fr.cons A rfl (Fr.cons A rfl (Fr.cons A rfl (Fr.cons A rfl (Fr.cons A rfl (Fr.nil A)))))), H⟩ ?_
    clear A H; rintro q a w ⟨j, m, rfl, hinv, hm, A, H⟩
    have hM := hM.trans hm
    have hl1 := hm
    obtain ⟨hj, hno⟩ := hinv
    refine wp_seq ?_
    refine wp_region_lit ?_
    refine step (Runs.lss A rfl rfl) A rfl ?_; clear A a; intro a A
    refine wpList_nil ?_
    refine wp_seq ?_
    refine cond_split A rfl (fun h2 => ?_) (fun h2 => ?_)
    · have g2 := h2
      try simp only [decide_eq_true_eq, decide_eq_false_iff_not, Bool.not_eq_true', Bool.not_eq_false', ne_eq, Decidable.not_not, Int.not_lt, Int.not_le] at g2
      refine wp_skip ?_
      refine wp_seq ?_
      refine wp_block ?_
      refine wp_seq ?_
      refine wp_region_lit ?_
      refine step (Runs.indexAddr A rfl rfl SlC.h (by omega) (by omega)) A rfl ?_; clear A a; intro a A
      have hjl : j < cl.length := by omega
      obtain ⟨x, hjx⟩ : ∃ x, cl[j]? = some x := ⟨_, List.getElem?_eq_getElem hjl⟩
      refine step (Runs.ld1 A H rfl (v := .int .u8 x) (by simp [hjx])) A rfl ?_; clear A a; intro a A
      refine step (Runs.assign A rfl) A rfl ?_; clear A a; intro a A
      refine wpList_nil ?_
      refine wp_seq ?_
      refine draw_begin0 (by kernel_rfl) (N := 18) rfl (by kernel_rfl) H ?_; clear H; intro w H hR
      have hS : SW m _ w := ⟨_, H⟩
      have hL := Le.refl m
      refine dstep hR (i := 0) rfl (by kernel_rfl) (fun _ _ _ h => h) (fun _ _ H' => (Runs.move A rfl)) A rfl hS ?_; clear A a hR; intro a A hR
      refine dstep hR (i := 1) rfl (by kernel_rfl) (fun _ _ _ h => h) (fun _ _ H' => (Runs.move A rfl)) A rfl hS ?_; clear A a hR; intro a A hR
      refine dstep hR (i := 2) rfl (by kernel_rfl) (fun _ _ _ h => h) (fun _ _ H' => (Runs.nilCheck A rfl)) A rfl hS ?_; clear A a hR; intro a A hR
      refine dstep hR (i := 3) rfl (by kernel_rfl) (fun _ _ _ h => h) (fun _ _ H' => (Runs.fa A rfl)) A rfl hS ?_; clear A a hR; intro a A hR
      refine dstep hR (i := 4) rfl (by kernel_rfl) (fun _ _ _ h => h) (fun _ _ H' => (Runs.ld1 A H' rfl rfl)) A rfl hS ?_; clear A a hR; intro a A hR
      refine dstep hR (i := 5) rfl (by kernel_rfl) (fun _ _ _ h => h) (fun _ _ H' => (Runs.move A rfl)) A rfl hS ?_; clear A a hR; intro a A hR
      refine dstep hR (i := 6) rfl (by kernel_rfl) (fun _ _ _ h => h) (fun _ _ H' => (Runs.nilCheck A rfl)) A rfl hS ?_; clear A a hR; intro a A hR
      refine dstep hR (i := 7) rfl (by kernel_rfl) (fun _ _ _ h => h) (fun _ _ H' => (Runs.fa A rfl)) A rfl hS ?_; clear A a hR; intro a A hR
      refine dstep hR (i := 8) rfl (by kernel_rfl) (fun _ _ _ h => h) (fun _ _ H' => (Runs.ld1 A H' rfl rfl)) A rfl hS ?_; clear A a hR; intro a A hR
      refine dstep hR (i := 9) rfl (by kernel_rfl) (fun _ _ _ h => h) (fun _ _ H' => (Runs.move A rfl)) A rfl hS ?_; clear A a hR; intro a A hR
      refine dstep hR (i := 10) rfl (by kernel_rfl) (fun _ _ _ h => h) (fun _ _ H' => (Runs.add A rfl rfl (by omega))) A rfl hS ?_; clear A a hR; intro a A hR
      refine dstep hR (i := 11) rfl (by kernel_rfl) (fun _ _ _ h => h) (fun _ _ H' => (Runs.indexS A rfl rfl StrC.h (by omega) (by omega))) A rfl hS ?_; clear A a hR; intro a A hR
      refine dstep hR (i := 12) rfl (by kernel_rfl) (fun _ _ _ h => h) (fun _ _ H' => (Runs.nilCheck A rfl)) A rfl hS ?_; clear A a hR; intro a A hR
      refine dstep hR (i := 13) rfl (by kernel_rfl) (fun _ _ _ h => h) (fun _ _ H' => (Runs.fa A rfl)) A rfl hS ?_; clear A a hR; intro a A hR
      have hbt := bt_range s (i + k)
      have hbe : ((i : Int) + (k : Int)).toNat = i + k := by omega
      refine dstep hR (i := 14) rfl (by kernel_rfl) (fun _ _ _ h => h) (fun _ _ H' => (Runs.indexArr A rfl rfl (by rw [hbe]; omega) (by rw [hbe]; omega))) A rfl hS ?_; clear A a hR; intro a A hR
      refine dstep hR (i := 15) rfl (by kernel_rfl) (fun _ _ _ h => h) (fun _ _ H' => (Runs.ld1 A H' rfl (v := .int .u8 (cls (bt s (i + k)).toNat)) (by rw [Nat.mul_one, Nat.zero_add, hbe]; exact scn_cls _ _ _ _ (bt_lt s _)))) A rfl hS ?_; clear A a hR; intro a A hR
      refine dstep hR (i := 16) rfl (by kernel_rfl) (fun _ _ _ h => h) (fun _ _ H' => (Runs.move A rfl)) A rfl hS ?_; clear A a hR; intro a A hR
      refine dstep hR (i := 17) rfl (by kernel_rfl) (fun _ _ _ h => h) (fun _ _ H' => (Runs.eql A rfl rfl)) A rfl hS ?_; clear A a hR; intro a A hR
      refine draw_done hR (by kernel_rfl) ?_
      clear hS hL hR
      refine cond_split A rfl (fun h3 => ?_) (fun h3 => ?_)
      · have g3 := h3
        try simp only [decide_eq_true_eq, decide_eq_false_iff_not, Bool.not_eq_true', Bool.not_eq_false', ne_eq, Decidable.not_not, Int.not_lt, Int.not_le] at g3
        refine wp_seq ?_
        refine wp_region_lit ?_
        refine step (Runs.assign A rfl) A rfl ?_; clear A a; intro a A
        refine wpList_nil ?_
        refine wp_ret ?_
        refine retV A rfl rfl hM H ⟨congrArg Value.bool ?_, rfl⟩
        have h1 : i + k < s.size := by omega
        have h2 : cl.contains (cls (bt s (i + k)).toNat) = true := by rw [List.contains_iff_mem, g3]; exact List.mem_of_getElem? hjx
        rw [isB, decide_eq_true h1, h2]; rfl
      · have g3 := h3
        try simp only [decide_eq_true_eq, decide_eq_false_iff_not, Bool.not_eq_true', Bool.not_eq_false', ne_eq, Decidable.not_not, Int.not_lt, Int.not_le] at g3
        refine wp_skip ?_
        refine wp_region_lit ?_
        refine step (Runs.add A rfl rfl (by omega)) A rfl ?_; clear A a; intro a A
        refine step (Runs.move A rfl) A rfl ?_; clear A a; intro a A
        refine wpList_nil ?_
        exact ⟨_, by omega, j + 1, m, rfl, ⟨by omega, by rw [List.take_add_one, List.contains_eq_any_beq, List.any_append]; simp only [List.contains_eq_any_beq] at hno; rw [hno]; simp [hjx]; omega⟩, hl1, (Fr.cons A rfl (Fr.cons A rfl (Fr.cons A rfl (Fr.cons A rfl (Fr.cons A rfl (Fr.nil A)))))), H⟩
    · have g2 := h2
      try simp only [decide_eq_true_eq, decide_eq_false_iff_not, Bool.not_eq_true', Bool.not_eq_false', ne_eq, Decidable.not_not, Int.not_lt, Int.not_le] at g2
      refine wp_exit ?_
      refine wp_seq ?_
      refine wp_region_lit ?_
      refine step (Runs.assign A rfl) A rfl ?_; clear A a; intro a A
      refine wpList_nil ?_
      refine wp_ret ?_
      refine retV A rfl rfl hM H ⟨congrArg Value.bool ?_, rfl⟩
      have h2 : cl.take j = cl := List.take_of_length_le (by omega)
      rw [h2] at hno
      rw [isB, hno, Bool.and_false]

theorem c_lexer_scanner_take {b i k c : Nat} {s : ByteArray} {ad : Option Addr} {kind : Int} {toks : List Tok} {m : Mem} (hik : i + k ≤ s.size) (hs : s.size ≤ 9223372036854775807) (ht : toks.length ≤ 1000000) : Spec Tryz.prog 150 #[.pointer (some ⟨b, 0, none⟩), .int .i64 kind, .int .i64 k] m [pt b (scn s i (.slice ad toks.length c)) 244, row 170 3 ad toks.length c (tokCells toks)] (RetV fun _ v L => v = .bool true ∧ ∃ ad' c', L = [pt b (scn s ((i : Int) + k) (.slice ad' (toks.length + 1) c')) 244, row 170 3 ad' (toks.length + 1) c' (tokCells (toks ++ [⟨kind, s.extract i (i + k), i⟩]))]) := by
  refine Spec.enter Tryz.func150 rfl 45 Tryz.ntmps150 rfl fun a w0 Lf A H => ?_
  simp only [List.cons_append, List.nil_append] at H
  have hM := Le.refl m
  refine wp_seq ?_
  refine wp_region_lit ?_
  refine step (Runs.assign A rfl) A rfl ?_; clear A a; intro a A
  refine wpList_nil ?_
  refine wp_seq ?_
  refine draw_begin (ms := m) (Ls := [pt b (scn s i (.slice ad toks.length c)) 244]) (by kernel_rfl) (N := 31) rfl (by kernel_rfl) H ?_; clear H; intro w H hR
  have hS : SW m [pt b (scn s i (.slice ad toks.length c)) 244] w := H.sw (Le.refl m)
  have hL := Le.refl m
  refine dstep hR (i := 0) rfl (by kernel_rfl) (fun _ _ _ h => h) (fun _ _ H' => (Runs.move A rfl)) A rfl hS ?_; clear A a hR; intro a A hR
  refine dstep hR (i := 1) rfl (by kernel_rfl) (fun _ _ _ h => h) (fun _ _ H' => (Runs.move A rfl)) A rfl hS ?_; clear A a hR; intro a A hR
  refine dstep hR (i := 2) rfl (by kernel_rfl) (fun _ _ _ h => h) (fun _ _ H' => (Runs.nilCheck A rfl)) A rfl hS ?_; clear A a hR; intro a A hR
  refine dstep hR (i := 3) rfl (by kernel_rfl) (fun _ _ _ h => h) (fun _ _ H' => (Runs.fa A rfl)) A rfl hS ?_; clear A a hR; intro a A hR
  refine dstep hR (i := 4) rfl (by kernel_rfl) (fun _ _ _ h => h) (fun _ _ H' => (Runs.ld1 A H' rfl (scn_tok _ _ _))) A rfl hS ?_; clear A a hR; intro a A hR
  refine dstep hR (i := 5) rfl (by kernel_rfl) (fun _ _ _ h => h) (fun _ _ H' => (Runs.move A rfl)) A rfl hS ?_; clear A a hR; intro a A hR
  refine dstep hR (i := 6) rfl (by kernel_rfl) (fun _ _ _ h => h) (fun _ _ H' => (Runs.move A rfl)) A rfl hS ?_; clear A a hR; intro a A hR
  refine dstep hR (i := 7) rfl (by kernel_rfl) (fun _ _ _ h => h) (fun _ _ H' => (Runs.nilCheck A rfl)) A rfl hS ?_; clear A a hR; intro a A hR
  refine dstep hR (i := 8) rfl (by kernel_rfl) (fun _ _ _ h => h) (fun _ _ H' => (Runs.fa A rfl)) A rfl hS ?_; clear A a hR; intro a A hR
  refine dstep hR (i := 9) rfl (by kernel_rfl) (fun _ _ _ h => h) (fun _ _ H' => (Runs.ld1 A H' rfl rfl)) A rfl hS ?_; clear A a hR; intro a A hR
  refine dstep hR (i := 10) rfl (by kernel_rfl) (fun _ _ _ h => h) (fun _ _ H' => (Runs.move A rfl)) A rfl hS ?_; clear A a hR; intro a A hR
  refine dstep hR (i := 11) rfl (by kernel_rfl) (fun _ _ _ h => h) (fun _ _ H' => (Runs.nilCheck A rfl)) A rfl hS ?_; clear A a hR; intro a A hR
  refine dstep hR (i := 12) rfl (by kernel_rfl) (fun _ _ _ h => h) (fun _ _ H' => (Runs.fa A rfl)) A rfl hS ?_; clear A a hR; intro a A hR
  refine dstep hR (i := 13) rfl (by kernel_rfl) (fun _ _ _ h => h) (fun _ _ H' => (Runs.ld1 A H' rfl rfl)) A rfl hS ?_; clear A a hR; intro a A hR
  refine dstep hR (i := 14) rfl (by kernel_rfl) (fun _ _ _ h => h) (fun _ _ H' => (Runs.move A rfl)) A rfl hS ?_; clear A a hR; intro a A hR
  refine dstep hR (i := 15) rfl (by kernel_rfl) (fun _ _ _ h => h) (fun _ _ H' => (Runs.nilCheck A rfl)) A rfl hS ?_; clear A a hR; intro a A hR
  refine dstep hR (i := 16) rfl (by kernel_rfl) (fun _ _ _ h => h) (fun _ _ H' => (Runs.fa A rfl)) A rfl hS ?_; clear A a hR; intro a A hR
  refine dstep hR (i := 17) rfl (by kernel_rfl) (fun _ _ _ h => h) (fun _ _ H' => (Runs.ld1 A H' rfl rfl)) A rfl hS ?_; clear A a hR; intro a A hR
  refine dstep hR (i := 18) rfl (by kernel_rfl) (fun _ _ _ h => h) (fun _ _ H' => (Runs.move A rfl)) A rfl hS ?_; clear A a hR; intro a A hR
  refine dstep hR (i := 19) rfl (by kernel_rfl) (fun _ _ _ h => h) (fun _ _ H' => (Runs.add A rfl rfl (by omega))) A rfl hS ?_; clear A a hR; intro a A hR
  refine dstep hR (i := 20) rfl (by kernel_rfl) (fun _ _ _ h => h) (fun _ _ H' => (Runs.sliceS A rfl rfl rfl StrC.h (by omega) (by omega) (by omega))) A rfl hS ?_; clear A a hR; intro a A hR
  refine dstep hR (i := 21) rfl (by kernel_rfl) (fun _ _ _ h => h) (fun _ _ H' => (Runs.move A rfl)) A rfl hS ?_; clear A a hR; intro a A hR
  refine dstep hR (i := 22) rfl (by kernel_rfl) (fun _ _ _ h => h) (fun _ _ H' => (Runs.nilCheck A rfl)) A rfl hS ?_; clear A a hR; intro a A hR
  refine dstep hR (i := 23) rfl (by kernel_rfl) (fun _ _ _ h => h) (fun _ _ H' => (Runs.fa A rfl)) A rfl hS ?_; clear A a hR; intro a A hR
  refine dstep hR (i := 24) rfl (by kernel_rfl) (fun _ _ _ h => h) (fun _ _ H' => (Runs.ld1 A H' rfl rfl)) A rfl hS ?_; clear A a hR; intro a A hR
  refine dstep hR (i := 25) rfl (by kernel_rfl) (fun _ _ _ h => h) (fun _ _ H' => (Runs.build A rfl rfl rfl)) A rfl hS ?_; clear A a hR; intro a A hR
  refine dlist hR (i := 26) rfl (by kernel_rfl) ?_
  have hR := hR.next (i := 26) (by kernel_rfl)
  refine step_slice A H rfl rfl rfl rfl rfl rfl ?_; intro b1 a w A H
  refine wpList_nil ?_
  clear hS; refine and_keep (H.sw hL) fun hS => ?_
  refine dlist hR (i := 27) rfl (by kernel_rfl) ?_
  have hR := hR.next (i := 27) (by kernel_rfl)
  refine step_append A H rfl rfl rfl rfl (by decide) (by omega) (by simp only [maxLen]; omega) rfl rfl ?_; clear A a; intro ad1 c1 a w A H
  refine wpList_nil ?_
  clear hS; refine and_keep (H.sw hL) fun hS => ?_
  refine dstep hR (i := 28) rfl (by kernel_rfl) (fun _ _ _ h => h) (fun _ _ H' => (Runs.nilCheck A rfl)) A rfl hS ?_; clear A a hR; intro a A hR
  refine dstep hR (i := 29) rfl (by kernel_rfl) (fun _ _ _ h => h) (fun _ _ H' => (Runs.fa A rfl)) A rfl hS ?_; clear A a hR; intro a A hR
  refine dlist hR (i := 30) rfl (by kernel_rfl) ?_
  have hR := hR.next (i := 30) (by kernel_rfl)
  refine step_store A H rfl rfl rfl rfl rfl (scn_set _ _ _ _) ?_; intro w H
  refine wpList_nil ?_
  refine and_last (by kernel_rfl) ?_
  refine draw_done hR (by kernel_rfl) ?_
  clear hS hL hR
  refine wp_seq ?_
  refine wp_region_lit ?_
  refine step (Runs.move A rfl) A rfl ?_; clear A a; intro a A
  refine step (Runs.nilCheck A rfl) A rfl ?_; clear A a; intro a A
  refine step (Runs.fa A rfl) A rfl ?_; clear A a; intro a A
  refine step (Runs.ld1 A H rfl rfl) A rfl ?_; clear A a; intro a A
  refine step (Runs.move A rfl) A rfl ?_; clear A a; intro a A
  refine step (Runs.add A rfl rfl (by omega)) A rfl ?_; clear A a; intro a A
  refine step (Runs.nilCheck A rfl) A rfl ?_; clear A a; intro a A
  refine step (Runs.fa A rfl) A rfl ?_; clear A a; intro a A
  refine step_store A H rfl rfl rfl rfl rfl (scn_at _ _ _ _) ?_; intro w H
  refine wpList_nil ?_
  refine wp_seq ?_
  refine wp_region_lit ?_
  refine step (Runs.assign A rfl) A rfl ?_; clear A a; intro a A
  refine wpList_nil ?_
  refine wp_ret ?_
  have e1 : ((i : Int)).toNat = i := by omega
  have e2 : ((i : Int) + (k : Int)).toNat = i + k := by omega
  rw [e1, e2] at H
  have e3 : tokCells toks ++ [.int .i64 kind, .string (s.extract i (i + k)), .int .i64 i] = tokCells (toks ++ [⟨kind, s.extract i (i + k), i⟩]) := by simp [tokCells, Tok.cells]
  rw [e3] at H
  refine retV A rfl rfl hM H ⟨rfl, ad1, c1, rfl⟩

theorem atoi_range {l : List UInt8} {n : Int} (h : Lib.atoiAll l = .ok n) : -9223372036854775808 ≤ n ∧ n ≤ 9223372036854775807 := by
  unfold Lib.atoiAll at h
  cases l with
  | nil => cases h
  | cons c r =>
    simp only at h
    split at h
    · cases h
    · cases h
    · split at h
      · cases h
      · split at h
        · cases h
        · injection h with h
          rename_i h1 h2
          split at h <;> omega
/-- The kind of letters and digits. -/
def wkind (s : ByteArray) : Int :=
  if s = ⟨#[]⟩ then 0 else if 97 ≤ bt s 0 ∧ bt s 0 ≤ 122 then 1 else
  match Lib.atoiAll s.data.toList with
  | .ok n => if n > 1000000 then 0 else if (⟨(Lib.itoa n).toArray⟩ : ByteArray) ≠ s then 0 else 2
  | _ => 0
theorem size_pos {s : ByteArray} (h : ¬ s = ⟨#[]⟩) : 0 < s.size := by
  rcases Nat.eq_zero_or_pos s.size with h0 | h0
  · exact absurd (by cases s with | mk d => exact congrArg ByteArray.mk (Array.eq_empty_of_size_eq_zero h0)) h
  · exact h0

theorem c_lexer_wordKind {s : ByteArray} {m : Mem} (G : Glob m) (hs : s.size ≤ 140737488355328) : Spec Tryz.prog 182 #[.string s] m [] (RetE (.int .i64 (wkind s))) := by
  refine Spec.enter0 Tryz.func182 rfl 32 Tryz.ntmps182 rfl fun a w0 Lf A H => ?_
  have hM := Le.refl m
  refine wp_seq ?_
  refine wp_region_lit ?_
  refine step (Runs.assign A rfl) A rfl ?_; clear A a; intro a A
  refine wpList_nil ?_
  refine wp_seq ?_
  refine wp_seq ?_
  refine wp_region_lit ?_
  refine step (Runs.move A rfl) A rfl ?_; clear A a; intro a A
  refine step (Runs.seql A rfl rfl) A rfl ?_; clear A a; intro a A
  refine wpList_nil ?_
  refine cond_split A rfl (fun h1 => ?_) (fun h1 => ?_)
  · have g1 := h1
    try simp only [decide_eq_true_eq, decide_eq_false_iff_not, Bool.not_eq_true', Bool.not_eq_false', ne_eq, Decidable.not_not, Int.not_lt, Int.not_le] at g1
    refine wp_seq ?_
    refine wp_region_lit ?_
    refine step (Runs.assign A rfl) A rfl ?_; clear A a; intro a A
    refine wpList_nil ?_
    refine wp_ret ?_
    refine retF A rfl rfl hM H ?_
    simp only [wkind, if_pos g1]
  · have g1 := h1
    try simp only [decide_eq_true_eq, decide_eq_false_iff_not, Bool.not_eq_true', Bool.not_eq_false', ne_eq, Decidable.not_not, Int.not_lt, Int.not_le] at g1
    refine wp_skip ?_
    refine wp_seq ?_
    refine wp_seq ?_
    refine wp_region_lit ?_
    refine step (Runs.move A rfl) A rfl ?_; clear A a; intro a A
    have hpos := size_pos g1
    refine step (Runs.indexS A rfl rfl StrC.h (by omega) (by omega)) A rfl ?_; clear A a; intro a A
    refine step (Runs.geq A rfl rfl) A rfl ?_; clear A a; intro a A
    refine step (Runs.move A rfl) A rfl ?_; clear A a; intro a A
    refine onBool A (dj := 10) rfl (fun h2 => ?_) (fun h2 => ?_)
    · have g2 := h2
      try simp only [decide_eq_true_eq, decide_eq_false_iff_not, Bool.not_eq_true', Bool.not_eq_false', ne_eq, Decidable.not_not, Int.not_lt, Int.not_le] at g2
      refine stepG (dj := 10) rfl rfl h2 (Runs.move A rfl) A rfl ?_; clear A a; intro a A
      refine stepG (dj := 10) rfl rfl h2 (Runs.indexS A rfl rfl StrC.h (by omega) (by omega)) A rfl ?_; clear A a; intro a A
      refine stepG (dj := 10) rfl rfl h2 (Runs.leq A rfl rfl) A rfl ?_; clear A a; intro a A
      refine step (Runs.pickT A rfl h2 rfl) A rfl ?_; clear A a; intro a A
      refine wpList_nil ?_
      refine cond_split A rfl (fun h3 => ?_) (fun h3 => ?_)
      · have g3 := h3
        try simp only [decide_eq_true_eq, decide_eq_false_iff_not, Bool.not_eq_true', Bool.not_eq_false', ne_eq, Decidable.not_not, Int.not_lt, Int.not_le] at g3
        refine wp_seq ?_
        refine wp_region_lit ?_
        refine step (Runs.assign A rfl) A rfl ?_; clear A a; intro a A
        refine wpList_nil ?_
        refine wp_ret ?_
        refine retF A rfl rfl hM H ?_
        try simp only [show Int.toNat 0 = 0 from rfl] at *
        first | (simp [wkind, *]; done) | (simp [wkind, *]; intros; exfalso; omega) | (have hc : ¬ (97 ≤ bt s 0 ∧ bt s 0 ≤ 122) := (by omega); rw [wkind, if_neg g1, if_neg hc, hn]; simp [*]; done)
      · have g3 := h3
        try simp only [decide_eq_true_eq, decide_eq_false_iff_not, Bool.not_eq_true', Bool.not_eq_false', ne_eq, Decidable.not_not, Int.not_lt, Int.not_le] at g3
        refine wp_skip ?_
        refine wp_seq ?_
        refine wp_seq ?_
        refine wp_region_lit ?_
        refine step (Runs.move A rfl) A rfl ?_; clear A a; intro a A
        refine step_callF A rfl rfl (c_Atoi G (by omega)) H ?_
        rintro v5_1 a w m hm hat A H
        have hM := hM.trans hm
        have G := G.mono hm
        rcases hat with ⟨nn, hn, rfl⟩ | ⟨hno, nn, tt, pp, rfl⟩
        · have hr := atoi_range hn
          refine step (Runs.move A rfl) A rfl ?_; clear A a; intro a A
          refine step (Runs.extract A rfl rfl) A rfl ?_; clear A a; intro a A
          refine step (Runs.extract A rfl rfl) A rfl ?_; clear A a; intro a A
          refine step (Runs.assign A rfl) A rfl ?_; clear A a; intro a A
          refine step (Runs.assign A rfl) A rfl ?_; clear A a; intro a A
          refine wpList_nil ?_
          refine wp_seq ?_
          refine wp_region_lit ?_
          refine step (Runs.move A rfl) A rfl ?_; clear A a; intro a A
          refine step (Runs.nilErr A rfl (by kernel_rfl)) A rfl ?_; clear A a; intro a A
          refine step (Runs.move A rfl) A rfl ?_; clear A a; intro a A
          refine stepG (dj := 22) rfl rfl rfl (Runs.move A rfl) A rfl ?_; clear A a; intro a A
          refine stepG (dj := 22) rfl rfl rfl (Runs.gtr A rfl rfl) A rfl ?_; clear A a; intro a A
          refine step (Runs.pickF A rfl rfl rfl) A rfl ?_; clear A a; intro a A
          refine step (Runs.move A rfl) A rfl ?_; clear A a; intro a A
          refine onBool A (dj := 26) rfl (fun h4 => ?_) (fun h4 => ?_)
          · have g4 := h4
            try simp only [decide_eq_true_eq, decide_eq_false_iff_not, Bool.not_eq_true', Bool.not_eq_false', ne_eq, Decidable.not_not, Int.not_lt, Int.not_le] at g4
            refine stepSkip (dj := 26) rfl rfl h4 A rfl ?_; clear A a; intro a A
            refine stepSkip (dj := 26) rfl rfl h4 A rfl ?_; clear A a; intro a A
            refine stepSkip (dj := 26) rfl rfl h4 A rfl ?_; clear A a; intro a A
            refine stepSkip (dj := 26) rfl rfl h4 A rfl ?_; clear A a; intro a A
            refine step (Runs.pickT A rfl h4 rfl) A rfl ?_; clear A a; intro a A
            refine wpList_nil ?_
            refine cond_true A rfl rfl ?_
            refine wp_seq ?_
            refine wp_region_lit ?_
            refine step (Runs.assign A rfl) A rfl ?_; clear A a; intro a A
            refine wpList_nil ?_
            refine wp_ret ?_
            refine retF A rfl rfl hM H ?_
            try simp only [show Int.toNat 0 = 0 from rfl] at *
            first | (simp [wkind, *]; done) | (simp [wkind, *]; intros; exfalso; omega) | (have hc : ¬ (97 ≤ bt s 0 ∧ bt s 0 ≤ 122) := (by omega); rw [wkind, if_neg g1, if_neg hc, hn]; simp [*]; done)
          · have g4 := h4
            try simp only [decide_eq_true_eq, decide_eq_false_iff_not, Bool.not_eq_true', Bool.not_eq_false', ne_eq, Decidable.not_not, Int.not_lt, Int.not_le] at g4
            refine stepG (dj := 26) rfl rfl h4 (Runs.move A rfl) A rfl ?_; clear A a; intro a A
            refine step_callFG (dj := 26) rfl rfl h4 A rfl rfl (c_Itoa G (by omega) (by omega)) H ?_
            rintro v6_8 a w m hm rfl A H
            have hM := hM.trans hm
            have G := G.mono hm
            refine stepG (dj := 26) rfl rfl h4 (Runs.move A rfl) A rfl ?_; clear A a; intro a A
            refine stepG (dj := 26) rfl rfl h4 (Runs.sneq A rfl rfl) A rfl ?_; clear A a; intro a A
            refine step (Runs.pickF A rfl h4 rfl) A rfl ?_; clear A a; intro a A
            refine wpList_nil ?_
            refine cond_split A rfl (fun h5 => ?_) (fun h5 => ?_)
            · have g5 := h5
              try simp only [decide_eq_true_eq, decide_eq_false_iff_not, Bool.not_eq_true', Bool.not_eq_false', ne_eq, Decidable.not_not, Int.not_lt, Int.not_le] at g5
              refine wp_seq ?_
              refine wp_region_lit ?_
              refine step (Runs.assign A rfl) A rfl ?_; clear A a; intro a A
              refine wpList_nil ?_
              refine wp_ret ?_
              refine retF A rfl rfl hM H ?_
              try simp only [show Int.toNat 0 = 0 from rfl] at *
              first | (simp [wkind, *]; done) | (simp [wkind, *]; intros; exfalso; omega) | (have hc : ¬ (97 ≤ bt s 0 ∧ bt s 0 ≤ 122) := (by omega); rw [wkind, if_neg g1, if_neg hc, hn]; simp [*]; done)
            · have g5 := h5
              try simp only [decide_eq_true_eq, decide_eq_false_iff_not, Bool.not_eq_true', Bool.not_eq_false', ne_eq, Decidable.not_not, Int.not_lt, Int.not_le] at g5
              refine wp_skip ?_
              refine wp_seq ?_
              refine wp_region_lit ?_
              refine step (Runs.assign A rfl) A rfl ?_; clear A a; intro a A
              refine wpList_nil ?_
              refine wp_ret ?_
              refine retF A rfl rfl hM H ?_
              try simp only [show Int.toNat 0 = 0 from rfl] at *
              first | (simp [wkind, *]; done) | (simp [wkind, *]; intros; exfalso; omega) | (have hc : ¬ (97 ≤ bt s 0 ∧ bt s 0 ≤ 122) := (by omega); rw [wkind, if_neg g1, if_neg hc, hn]; simp [*]; done)
        · refine step (Runs.move A rfl) A rfl ?_; clear A a; intro a A
          refine step (Runs.extract A rfl rfl) A rfl ?_; clear A a; intro a A
          refine step (Runs.extract A rfl rfl) A rfl ?_; clear A a; intro a A
          refine step (Runs.assign A rfl) A rfl ?_; clear A a; intro a A
          refine step (Runs.assign A rfl) A rfl ?_; clear A a; intro a A
          refine wpList_nil ?_
          refine wp_seq ?_
          refine wp_region_lit ?_
          refine step (Runs.move A rfl) A rfl ?_; clear A a; intro a A
          refine step (Runs.someErr A rfl (by kernel_rfl)) A rfl ?_; clear A a; intro a A
          refine step (Runs.move A rfl) A rfl ?_; clear A a; intro a A
          refine stepSkip (dj := 22) rfl rfl rfl A rfl ?_; clear A a; intro a A
          refine stepSkip (dj := 22) rfl rfl rfl A rfl ?_; clear A a; intro a A
          refine step (Runs.pickT A rfl rfl rfl) A rfl ?_; clear A a; intro a A
          refine step (Runs.move A rfl) A rfl ?_; clear A a; intro a A
          refine stepSkip (dj := 26) rfl rfl rfl A rfl ?_; clear A a; intro a A
          refine stepSkip (dj := 26) rfl rfl rfl A rfl ?_; clear A a; intro a A
          refine stepSkip (dj := 26) rfl rfl rfl A rfl ?_; clear A a; intro a A
          refine stepSkip (dj := 26) rfl rfl rfl A rfl ?_; clear A a; intro a A
          refine step (Runs.pickT A rfl rfl rfl) A rfl ?_; clear A a; intro a A
          refine wpList_nil ?_
          refine cond_true A rfl rfl ?_
          refine wp_seq ?_
          refine wp_region_lit ?_
          refine step (Runs.assign A rfl) A rfl ?_; clear A a; intro a A
          refine wpList_nil ?_
          refine wp_ret ?_
          refine retF A rfl rfl hM H ?_
          try simp only [show Int.toNat 0 = 0 from rfl] at *
          first | (simp [wkind, *]; done) | (simp [wkind, *]; intros; exfalso; omega) | (have hc : ¬ (97 ≤ bt s 0 ∧ bt s 0 ≤ 122) := (by omega); rw [wkind, if_neg g1, if_neg hc, hn]; simp [*]; done)
    · have g2 := h2
      try simp only [decide_eq_true_eq, decide_eq_false_iff_not, Bool.not_eq_true', Bool.not_eq_false', ne_eq, Decidable.not_not, Int.not_lt, Int.not_le] at g2
      refine stepSkip (dj := 10) rfl rfl h2 A rfl ?_; clear A a; intro a A
      refine stepSkip (dj := 10) rfl rfl h2 A rfl ?_; clear A a; intro a A
      refine stepSkip (dj := 10) rfl rfl h2 A rfl ?_; clear A a; intro a A
      refine step (Runs.pickF A rfl h2 rfl) A rfl ?_; clear A a; intro a A
      refine wpList_nil ?_
      refine cond_false A rfl rfl ?_
      refine wp_skip ?_
      refine wp_seq ?_
      refine wp_seq ?_
      refine wp_region_lit ?_
      refine step (Runs.move A rfl) A rfl ?_; clear A a; intro a A
      refine step_callF A rfl rfl (c_Atoi G (by omega)) H ?_
      rintro v5_1 a w m hm hat A H
      have hM := hM.trans hm
      have G := G.mono hm
      rcases hat with ⟨nn, hn, rfl⟩ | ⟨hno, nn, tt, pp, rfl⟩
      · have hr := atoi_range hn
        refine step (Runs.move A rfl) A rfl ?_; clear A a; intro a A
        refine step (Runs.extract A rfl rfl) A rfl ?_; clear A a; intro a A
        refine step (Runs.extract A rfl rfl) A rfl ?_; clear A a; intro a A
        refine step (Runs.assign A rfl) A rfl ?_; clear A a; intro a A
        refine step (Runs.assign A rfl) A rfl ?_; clear A a; intro a A
        refine wpList_nil ?_
        refine wp_seq ?_
        refine wp_region_lit ?_
        refine step (Runs.move A rfl) A rfl ?_; clear A a; intro a A
        refine step (Runs.nilErr A rfl (by kernel_rfl)) A rfl ?_; clear A a; intro a A
        refine step (Runs.move A rfl) A rfl ?_; clear A a; intro a A
        refine stepG (dj := 22) rfl rfl rfl (Runs.move A rfl) A rfl ?_; clear A a; intro a A
        refine stepG (dj := 22) rfl rfl rfl (Runs.gtr A rfl rfl) A rfl ?_; clear A a; intro a A
        refine step (Runs.pickF A rfl rfl rfl) A rfl ?_; clear A a; intro a A
        refine step (Runs.move A rfl) A rfl ?_; clear A a; intro a A
        refine onBool A (dj := 26) rfl (fun h6 => ?_) (fun h6 => ?_)
        · have g6 := h6
          try simp only [decide_eq_true_eq, decide_eq_false_iff_not, Bool.not_eq_true', Bool.not_eq_false', ne_eq, Decidable.not_not, Int.not_lt, Int.not_le] at g6
          refine stepSkip (dj := 26) rfl rfl h6 A rfl ?_; clear A a; intro a A
          refine stepSkip (dj := 26) rfl rfl h6 A rfl ?_; clear A a; intro a A
          refine stepSkip (dj := 26) rfl rfl h6 A rfl ?_; clear A a; intro a A
          refine stepSkip (dj := 26) rfl rfl h6 A rfl ?_; clear A a; intro a A
          refine step (Runs.pickT A rfl h6 rfl) A rfl ?_; clear A a; intro a A
          refine wpList_nil ?_
          refine cond_true A rfl rfl ?_
          refine wp_seq ?_
          refine wp_region_lit ?_
          refine step (Runs.assign A rfl) A rfl ?_; clear A a; intro a A
          refine wpList_nil ?_
          refine wp_ret ?_
          refine retF A rfl rfl hM H ?_
          try simp only [show Int.toNat 0 = 0 from rfl] at *
          first | (simp [wkind, *]; done) | (simp [wkind, *]; intros; exfalso; omega) | (have hc : ¬ (97 ≤ bt s 0 ∧ bt s 0 ≤ 122) := (by omega); rw [wkind, if_neg g1, if_neg hc, hn]; simp [*]; done)
        · have g6 := h6
          try simp only [decide_eq_true_eq, decide_eq_false_iff_not, Bool.not_eq_true', Bool.not_eq_false', ne_eq, Decidable.not_not, Int.not_lt, Int.not_le] at g6
          refine stepG (dj := 26) rfl rfl h6 (Runs.move A rfl) A rfl ?_; clear A a; intro a A
          refine step_callFG (dj := 26) rfl rfl h6 A rfl rfl (c_Itoa G (by omega) (by omega)) H ?_
          rintro v6_8 a w m hm rfl A H
          have hM := hM.trans hm
          have G := G.mono hm
          refine stepG (dj := 26) rfl rfl h6 (Runs.move A rfl) A rfl ?_; clear A a; intro a A
          refine stepG (dj := 26) rfl rfl h6 (Runs.sneq A rfl rfl) A rfl ?_; clear A a; intro a A
          refine step (Runs.pickF A rfl h6 rfl) A rfl ?_; clear A a; intro a A
          refine wpList_nil ?_
          refine cond_split A rfl (fun h7 => ?_) (fun h7 => ?_)
          · have g7 := h7
            try simp only [decide_eq_true_eq, decide_eq_false_iff_not, Bool.not_eq_true', Bool.not_eq_false', ne_eq, Decidable.not_not, Int.not_lt, Int.not_le] at g7
            refine wp_seq ?_
            refine wp_region_lit ?_
            refine step (Runs.assign A rfl) A rfl ?_; clear A a; intro a A
            refine wpList_nil ?_
            refine wp_ret ?_
            refine retF A rfl rfl hM H ?_
            try simp only [show Int.toNat 0 = 0 from rfl] at *
            first | (simp [wkind, *]; done) | (simp [wkind, *]; intros; exfalso; omega) | (have hc : ¬ (97 ≤ bt s 0 ∧ bt s 0 ≤ 122) := (by omega); rw [wkind, if_neg g1, if_neg hc, hn]; simp [*]; done)
          · have g7 := h7
            try simp only [decide_eq_true_eq, decide_eq_false_iff_not, Bool.not_eq_true', Bool.not_eq_false', ne_eq, Decidable.not_not, Int.not_lt, Int.not_le] at g7
            refine wp_skip ?_
            refine wp_seq ?_
            refine wp_region_lit ?_
            refine step (Runs.assign A rfl) A rfl ?_; clear A a; intro a A
            refine wpList_nil ?_
            refine wp_ret ?_
            refine retF A rfl rfl hM H ?_
            try simp only [show Int.toNat 0 = 0 from rfl] at *
            first | (simp [wkind, *]; done) | (simp [wkind, *]; intros; exfalso; omega) | (have hc : ¬ (97 ≤ bt s 0 ∧ bt s 0 ≤ 122) := (by omega); rw [wkind, if_neg g1, if_neg hc, hn]; simp [*]; done)
      · refine step (Runs.move A rfl) A rfl ?_; clear A a; intro a A
        refine step (Runs.extract A rfl rfl) A rfl ?_; clear A a; intro a A
        refine step (Runs.extract A rfl rfl) A rfl ?_; clear A a; intro a A
        refine step (Runs.assign A rfl) A rfl ?_; clear A a; intro a A
        refine step (Runs.assign A rfl) A rfl ?_; clear A a; intro a A
        refine wpList_nil ?_
        refine wp_seq ?_
        refine wp_region_lit ?_
        refine step (Runs.move A rfl) A rfl ?_; clear A a; intro a A
        refine step (Runs.someErr A rfl (by kernel_rfl)) A rfl ?_; clear A a; intro a A
        refine step (Runs.move A rfl) A rfl ?_; clear A a; intro a A
        refine stepSkip (dj := 22) rfl rfl rfl A rfl ?_; clear A a; intro a A
        refine stepSkip (dj := 22) rfl rfl rfl A rfl ?_; clear A a; intro a A
        refine step (Runs.pickT A rfl rfl rfl) A rfl ?_; clear A a; intro a A
        refine step (Runs.move A rfl) A rfl ?_; clear A a; intro a A
        refine stepSkip (dj := 26) rfl rfl rfl A rfl ?_; clear A a; intro a A
        refine stepSkip (dj := 26) rfl rfl rfl A rfl ?_; clear A a; intro a A
        refine stepSkip (dj := 26) rfl rfl rfl A rfl ?_; clear A a; intro a A
        refine stepSkip (dj := 26) rfl rfl rfl A rfl ?_; clear A a; intro a A
        refine step (Runs.pickT A rfl rfl rfl) A rfl ?_; clear A a; intro a A
        refine wpList_nil ?_
        refine cond_true A rfl rfl ?_
        refine wp_seq ?_
        refine wp_region_lit ?_
        refine step (Runs.assign A rfl) A rfl ?_; clear A a; intro a A
        refine wpList_nil ?_
        refine wp_ret ?_
        refine retF A rfl rfl hM H ?_
        try simp only [show Int.toNat 0 = 0 from rfl] at *
        first | (simp [wkind, *]; done) | (simp [wkind, *]; intros; exfalso; omega) | (have hc : ¬ (97 ≤ bt s 0 ∧ bt s 0 ≤ 122) := (by omega); rw [wkind, if_neg g1, if_neg hc, hn]; simp [*]; done)

theorem c_lexer_scanner_word {b i c : Nat} {s : ByteArray} {ad : Option Addr} {toks : List Tok} {m : Mem} (G : Glob m) (hi : i ≤ s.size) (hs : s.size ≤ 140737488355328) (ht : toks.length ≤ 100000) : Spec Tryz.prog 148 #[.pointer (some ⟨b, 0, none⟩)] m [pt b (scn s i (.slice ad toks.length c)) 244, row 170 3 ad toks.length c (tokCells toks)] (RetV fun _ v L => (wkind (s.extract i (i + wl s i)) ≠ 0 ∧ v = .bool true ∧ ∃ ad' c', L = [pt b (scn s ((i : Int) + (wl s i : Int)) (.slice ad' (toks.length + 1) c')) 244, row 170 3 ad' (toks.length + 1) c' (tokCells (toks ++ [⟨wkind (s.extract i (i + wl s i)), s.extract i (i + wl s i), i⟩]))]) ∨ (wkind (s.extract i (i + wl s i)) = 0 ∧ v = .bool false ∧ L = [pt b (scn s i (.slice ad toks.length c)) 244, row 170 3 ad toks.length c (tokCells toks)])) := by
  refine Spec.enter Tryz.func148 rfl 33 Tryz.ntmps148 rfl fun a w0 Lf A H => ?_
  simp only [List.cons_append, List.nil_append] at H
  have hM := Le.refl m
  refine wp_seq ?_
  refine wp_region_lit ?_
  refine step (Runs.assign A rfl) A rfl ?_; clear A a; intro a A
  refine wpList_nil ?_
  refine wp_seq ?_
  refine wp_region_lit ?_
  refine step (Runs.assign A rfl) A rfl ?_; clear A a; intro a A
  refine wpList_nil ?_
  refine wp_seq ?_
  refine wp_block ?_
  refine wp_loop_ghost (fun q a w => ∃ (n : Nat) (m' : Mem), q = s.size + 1 - n ∧ (i + n ≤ s.size ∧ ∀ j, j < n → isB s (i + j) [1, 2] = true) ∧ Le m m' ∧ Fr 33 a [(0, .pointer (some ⟨b, 0, none⟩)), (3, .int .i64 n)] [] ∧ St w0 w m' (pt b (scn s i (.slice ad toks.length c)) 244 :: row 170 3 ad toks.length c (tokCells toks) :: Lf)) _ ⟨0, m, rfl, ⟨by omega, fun j hj => absurd hj (by omega)⟩, Le.refl m, (Fr.cons A rfl (Fr.cons A rfl (Fr.nil A))), H⟩ ?_
  clear A H; rintro q a w ⟨n, m, rfl, hinv, hm, A, H⟩
  have hM := hM.trans hm
  have G := G.mono hm
  have hl1 := hm
  obtain ⟨hn, hall⟩ := hinv
  refine wp_seq ?_
  refine wp_seq ?_
  refine wp_region_lit ?_
  refine step (Runs.move A rfl) A rfl ?_; clear A a; intro a A
  refine step (Runs.move A rfl) A rfl ?_; clear A a; intro a A
  refine step_slice A H rfl rfl rfl rfl rfl rfl ?_; intro b1 a w A H
  refine step_callS A rfl rfl (c_lexer_scanner_is (b := b) (s := s) (i := i) (k := n) (tv := .slice ad toks.length c) (cl := [1, 2]) (bcs := [.int .u8 1, .int .u8 2]) rfl rfl (by omega) (by decide)) H ?_
  rintro v2_3 a w m L' hm ⟨rfl, rfl⟩ A H
  simp only [List.cons_append, List.nil_append] at H
  have hM := hM.trans hm
  have hl1 := hl1.trans hm
  have G := G.mono hm
  refine wpList_nil ?_
  refine cond_split A rfl (fun h1 => ?_) (fun h1 => ?_)
  · have g1 := h1
    try simp only [decide_eq_true_eq, decide_eq_false_iff_not, Bool.not_eq_true', Bool.not_eq_false', ne_eq, Decidable.not_not, Int.not_lt, Int.not_le] at g1
    refine wp_skip ?_
    refine wp_block ?_
    refine wp_region_lit ?_
    refine step (Runs.move A rfl) A rfl ?_; clear A a; intro a A
    refine step (Runs.add A rfl rfl (by omega)) A rfl ?_; clear A a; intro a A
    refine step (Runs.assign A rfl) A rfl ?_; clear A a; intro a A
    refine wpList_nil ?_
    have hlt : i + n < s.size := by have := h1; simp [isB] at this; omega
    exact ⟨_, by omega, n + 1, m, rfl, ⟨by omega, fun j hj => (Nat.lt_succ_iff_lt_or_eq.1 hj).elim (hall j) (fun h => (by subst h; exact h1))⟩, hl1, (Fr.cons A rfl (Fr.cons A rfl (Fr.nil A))), H.subH⟩
  · have g1 := h1
    try simp only [decide_eq_true_eq, decide_eq_false_iff_not, Bool.not_eq_true', Bool.not_eq_false', ne_eq, Decidable.not_not, Int.not_lt, Int.not_le] at g1
    refine wp_exit ?_
    refine wp_seq ?_
    refine wp_seq ?_
    refine draw_begin (ms := m) (Ls := [pt b (scn s i (.slice ad toks.length c)) 244]) (by kernel_rfl) (N := 17) rfl (by kernel_rfl) H ?_; clear H; intro w H hR
    have hS : SW m [pt b (scn s i (.slice ad toks.length c)) 244] w := H.sw (Le.refl m)
    have hL := Le.refl m
    have hwl := wl_of hall (by simpa using h1)
    refine dstep hR (i := 0) rfl (by kernel_rfl) (fun _ _ _ h => h) (fun _ _ H' => (Runs.move A rfl)) A rfl hS ?_; clear A a hR; intro a A hR
    refine dstep hR (i := 1) rfl (by kernel_rfl) (fun _ _ _ h => h) (fun _ _ H' => (Runs.nilCheck A rfl)) A rfl hS ?_; clear A a hR; intro a A hR
    refine dstep hR (i := 2) rfl (by kernel_rfl) (fun _ _ _ h => h) (fun _ _ H' => (Runs.fa A rfl)) A rfl hS ?_; clear A a hR; intro a A hR
    refine dstep hR (i := 3) rfl (by kernel_rfl) (fun _ _ _ h => h) (fun _ _ H' => (Runs.ld1 A H' rfl rfl)) A rfl hS ?_; clear A a hR; intro a A hR
    refine dstep hR (i := 4) rfl (by kernel_rfl) (fun _ _ _ h => h) (fun _ _ H' => (Runs.move A rfl)) A rfl hS ?_; clear A a hR; intro a A hR
    refine dstep hR (i := 5) rfl (by kernel_rfl) (fun _ _ _ h => h) (fun _ _ H' => (Runs.nilCheck A rfl)) A rfl hS ?_; clear A a hR; intro a A hR
    refine dstep hR (i := 6) rfl (by kernel_rfl) (fun _ _ _ h => h) (fun _ _ H' => (Runs.fa A rfl)) A rfl hS ?_; clear A a hR; intro a A hR
    refine dstep hR (i := 7) rfl (by kernel_rfl) (fun _ _ _ h => h) (fun _ _ H' => (Runs.ld1 A H' rfl rfl)) A rfl hS ?_; clear A a hR; intro a A hR
    refine dstep hR (i := 8) rfl (by kernel_rfl) (fun _ _ _ h => h) (fun _ _ H' => (Runs.move A rfl)) A rfl hS ?_; clear A a hR; intro a A hR
    refine dstep hR (i := 9) rfl (by kernel_rfl) (fun _ _ _ h => h) (fun _ _ H' => (Runs.nilCheck A rfl)) A rfl hS ?_; clear A a hR; intro a A hR
    refine dstep hR (i := 10) rfl (by kernel_rfl) (fun _ _ _ h => h) (fun _ _ H' => (Runs.fa A rfl)) A rfl hS ?_; clear A a hR; intro a A hR
    refine dstep hR (i := 11) rfl (by kernel_rfl) (fun _ _ _ h => h) (fun _ _ H' => (Runs.ld1 A H' rfl rfl)) A rfl hS ?_; clear A a hR; intro a A hR
    refine dstep hR (i := 12) rfl (by kernel_rfl) (fun _ _ _ h => h) (fun _ _ H' => (Runs.move A rfl)) A rfl hS ?_; clear A a hR; intro a A hR
    refine dstep hR (i := 13) rfl (by kernel_rfl) (fun _ _ _ h => h) (fun _ _ H' => (Runs.add A rfl rfl (by omega))) A rfl hS ?_; clear A a hR; intro a A hR
    refine dstep hR (i := 14) rfl (by kernel_rfl) (fun _ _ _ h => h) (fun _ _ H' => (Runs.sliceN (lo := i) (hi := i + n) A rfl rfl rfl (by omega) (by omega) (by omega) (by omega))) A rfl hS ?_; clear A a hR; intro a A hR
    refine dlist hR (i := 15) rfl (by kernel_rfl) ?_
    have hR := hR.next (i := 15) (by kernel_rfl)
    refine step_callF A rfl rfl (c_lexer_wordKind G (by simp; omega)) H ?_
    rintro v4_15 a w m hm rfl A H
    have hM := hM.trans hm
    have G := G.mono hm
    have hL := hL.trans hm
    refine wpList_nil ?_
    clear hS; refine and_keep (H.sw hL) fun hS => ?_
    refine dstep hR (i := 16) rfl (by kernel_rfl) (fun _ _ _ h => h) (fun _ _ H' => (Runs.assign A rfl)) A rfl hS ?_; clear A a hR; intro a A hR
    refine draw_done hR (by kernel_rfl) ?_
    clear hS hL hR
    refine wp_seq ?_
    refine wp_region_lit ?_
    refine step (Runs.move A rfl) A rfl ?_; clear A a; intro a A
    refine step (Runs.neq A rfl rfl) A rfl ?_; clear A a; intro a A
    refine wpList_nil ?_
    refine cond_split A rfl (fun h2 => ?_) (fun h2 => ?_)
    · have g2 := h2
      try simp only [decide_eq_true_eq, decide_eq_false_iff_not, Bool.not_eq_true', Bool.not_eq_false', ne_eq, Decidable.not_not, Int.not_lt, Int.not_le] at g2
      refine wp_seq ?_
      refine wp_region_lit ?_
      refine step (Runs.move A rfl) A rfl ?_; clear A a; intro a A
      refine step (Runs.move A rfl) A rfl ?_; clear A a; intro a A
      refine step (Runs.move A rfl) A rfl ?_; clear A a; intro a A
      refine step_callS A rfl rfl (c_lexer_scanner_take (b := b) (s := s) (i := i) (k := n) (ad := ad) (c := c) (toks := toks) (by omega) (by omega) (by omega)) H ?_
      rintro v6_3 a w m L' hm ⟨rfl, ad1, c1, rfl⟩ A H
      simp only [List.cons_append, List.nil_append] at H
      have hM := hM.trans hm
      have G := G.mono hm
      refine step (Runs.assign A rfl) A rfl ?_; clear A a; intro a A
      refine wpList_nil ?_
      refine wp_ret ?_
      refine retV A rfl rfl hM H (.inl (by rw [hwl]; exact ⟨g2, rfl, ad1, c1, rfl⟩))
    · have g2 := h2
      try simp only [decide_eq_true_eq, decide_eq_false_iff_not, Bool.not_eq_true', Bool.not_eq_false', ne_eq, Decidable.not_not, Int.not_lt, Int.not_le] at g2
      refine wp_skip ?_
      refine wp_seq ?_
      refine wp_region_lit ?_
      refine step (Runs.assign A rfl) A rfl ?_; clear A a; intro a A
      refine wpList_nil ?_
      refine wp_ret ?_
      refine retV A rfl rfl hM H (.inr (by rw [hwl]; exact ⟨g2, rfl, rfl⟩))

theorem prefix_tw {l : List UInt8} (h : Lib.hasPrefix l [47, 47] = true) : 0 < (l.takeWhile (· != 10)).length := by
  obtain ⟨t, rfl⟩ := List.isPrefixOf_iff_prefix.1 h
  simp [List.takeWhile_cons]

theorem c_lexer_scanner_space {b i : Nat} {s : ByteArray} {tv : Value} {m : Mem} (hi : i ≤ s.size) (hs : s.size ≤ 140737488355328) : Spec Tryz.prog 147 #[.pointer (some ⟨b, 0, none⟩)] m [pt b (scn s i tv) 244] (RetV fun _ v L => (spN s i ≠ 0 ∧ v = .bool true ∧ L = [pt b (scn s ((i : Int) + (spN s i : Int)) tv) 244]) ∨ (spN s i = 0 ∧ v = .bool false ∧ L = [pt b (scn s i tv) 244])) := by
  refine Spec.enter Tryz.func147 rfl 55 Tryz.ntmps147 rfl fun a w0 Lf A H => ?_
  simp only [List.cons_append, List.nil_append] at H
  have hM := Le.refl m
  refine wp_seq ?_
  refine wp_region_lit ?_
  refine step (Runs.assign A rfl) A rfl ?_; clear A a; intro a A
  refine wpList_nil ?_
  refine wp_seq ?_
  refine wp_seq ?_
  refine wp_region_lit ?_
  refine step (Runs.move A rfl) A rfl ?_; clear A a; intro a A
  refine step_slice A H rfl rfl rfl rfl rfl rfl ?_; intro b1 a w A H
  refine step_callS A rfl rfl (c_lexer_scanner_is (b := b) (s := s) (i := i) (k := 0) (tv := tv) (cl := [3]) (bcs := [.int .u8 3]) rfl rfl (by omega) (by decide)) H ?_
  rintro v1_2 a w m L' hm ⟨rfl, rfl⟩ A H
  simp only [List.cons_append, List.nil_append] at H
  have hM := hM.trans hm
  refine wpList_nil ?_
  refine cond_split A rfl (fun h1 => ?_) (fun h1 => ?_)
  · have g1 := h1
    try simp only [decide_eq_true_eq, decide_eq_false_iff_not, Bool.not_eq_true', Bool.not_eq_false', ne_eq, Decidable.not_not, Int.not_lt, Int.not_le] at g1
    refine wp_seq ?_
    refine wp_region_lit ?_
    refine step (Runs.move A rfl) A rfl ?_; clear A a; intro a A
    refine step (Runs.nilCheck A rfl) A rfl ?_; clear A a; intro a A
    refine step (Runs.fa A rfl) A rfl ?_; clear A a; intro a A
    refine step (Runs.ld1 A H rfl rfl) A rfl ?_; clear A a; intro a A
    refine step (Runs.add A rfl rfl (by omega)) A rfl ?_; clear A a; intro a A
    refine step (Runs.nilCheck A rfl) A rfl ?_; clear A a; intro a A
    refine step (Runs.fa A rfl) A rfl ?_; clear A a; intro a A
    refine step_store A H rfl rfl rfl rfl rfl (scn_at _ _ _ _) ?_; intro w H
    refine wpList_nil ?_
    refine wp_seq ?_
    refine wp_region_lit ?_
    refine step (Runs.assign A rfl) A rfl ?_; clear A a; intro a A
    refine wpList_nil ?_
    refine wp_ret ?_
    have h1' : isB s i [3] = true := h1
    have e : spN s i = 1 := by rw [spN, if_pos h1']
    refine retV A rfl rfl hM H (.inl (by rw [e]; exact ⟨by decide, rfl, rfl⟩))
  · have g1 := h1
    try simp only [decide_eq_true_eq, decide_eq_false_iff_not, Bool.not_eq_true', Bool.not_eq_false', ne_eq, Decidable.not_not, Int.not_lt, Int.not_le] at g1
    refine wp_skip ?_
    refine wp_seq ?_
    refine wp_seq ?_
    refine draw_begin (ms := m) (Ls := [pt b (scn s i tv) 244]) (by kernel_rfl) (N := 11) rfl (by kernel_rfl) H ?_; clear H; intro w H hR
    have hS : SW m [pt b (scn s i tv) 244] w := H.sw (Le.refl m)
    have hL := Le.refl m
    have h1' : isB s i [3] = false := h1
    refine dstep hR (i := 0) rfl (by kernel_rfl) (fun _ _ _ h => h) (fun _ _ H' => (Runs.move A rfl)) A rfl hS ?_; clear A a hR; intro a A hR
    refine dstep hR (i := 1) rfl (by kernel_rfl) (fun _ _ _ h => h) (fun _ _ H' => (Runs.nilCheck A rfl)) A rfl hS ?_; clear A a hR; intro a A hR
    refine dstep hR (i := 2) rfl (by kernel_rfl) (fun _ _ _ h => h) (fun _ _ H' => (Runs.fa A rfl)) A rfl hS ?_; clear A a hR; intro a A hR
    refine dstep hR (i := 3) rfl (by kernel_rfl) (fun _ _ _ h => h) (fun _ _ H' => (Runs.ld1 A H' rfl rfl)) A rfl hS ?_; clear A a hR; intro a A hR
    refine dstep hR (i := 4) rfl (by kernel_rfl) (fun _ _ _ h => h) (fun _ _ H' => (Runs.move A rfl)) A rfl hS ?_; clear A a hR; intro a A hR
    refine dstep hR (i := 5) rfl (by kernel_rfl) (fun _ _ _ h => h) (fun _ _ H' => (Runs.nilCheck A rfl)) A rfl hS ?_; clear A a hR; intro a A hR
    refine dstep hR (i := 6) rfl (by kernel_rfl) (fun _ _ _ h => h) (fun _ _ H' => (Runs.fa A rfl)) A rfl hS ?_; clear A a hR; intro a A hR
    refine dstep hR (i := 7) rfl (by kernel_rfl) (fun _ _ _ h => h) (fun _ _ H' => (Runs.ld1 A H' rfl rfl)) A rfl hS ?_; clear A a hR; intro a A hR
    refine dstep hR (i := 8) rfl (by kernel_rfl) (fun _ _ _ h => h) (fun _ _ H' => (Runs.sliceNlo (lo := i) A rfl rfl rfl (by omega))) A rfl hS ?_; clear A a hR; intro a A hR
    refine dlist hR (i := 9) rfl (by kernel_rfl) ?_
    have hR := hR.next (i := 9) (by kernel_rfl)
    refine step_callF A rfl rfl (c_HasPrefix) H ?_
    rintro v4_9 a w m hm rfl A H
    have hM := hM.trans hm
    have hL := hL.trans hm
    refine wpList_nil ?_
    clear hS; refine and_keep (H.sw hL) fun hS => ?_
    refine dstep hR (i := 10) rfl (by kernel_rfl) (fun _ _ _ h => h) (fun _ _ H' => (Runs.not A rfl)) A rfl hS ?_; clear A a hR; intro a A hR
    refine draw_done hR (by kernel_rfl) ?_
    clear hS hL hR
    refine cond_split A rfl (fun h2 => ?_) (fun h2 => ?_)
    · have g2 := h2
      try simp only [decide_eq_true_eq, decide_eq_false_iff_not, Bool.not_eq_true', Bool.not_eq_false', ne_eq, Decidable.not_not, Int.not_lt, Int.not_le] at g2
      refine wp_seq ?_
      refine wp_region_lit ?_
      refine step (Runs.assign A rfl) A rfl ?_; clear A a; intro a A
      refine wpList_nil ?_
      refine wp_ret ?_
      have h1' : ¬ isB s i [3] = true := by rw [show isB s i [3] = false from h1]; decide
      rw [extract_rest] at g2
      have e : spN s i = 0 := by rw [spN, if_neg h1', if_neg]; simpa using g2
      refine retV A rfl rfl hM H (.inr (by rw [e]; exact ⟨rfl, rfl, rfl⟩))
    · have g2 := h2
      try simp only [decide_eq_true_eq, decide_eq_false_iff_not, Bool.not_eq_true', Bool.not_eq_false', ne_eq, Decidable.not_not, Int.not_lt, Int.not_le] at g2
      refine wp_skip ?_
      refine wp_seq ?_
      refine draw_begin (ms := m) (Ls := [pt b (scn s i tv) 244]) (by kernel_rfl) (N := 11) rfl (by kernel_rfl) H ?_; clear H; intro w H hR
      have hS : SW m [pt b (scn s i tv) 244] w := H.sw (Le.refl m)
      have hL := Le.refl m
      have h2s := (by assumption : Lib.hasPrefix _ _ = true); rw [extract_rest] at h2s
      refine dstep hR (i := 0) rfl (by kernel_rfl) (fun _ _ _ h => h) (fun _ _ H' => (Runs.move A rfl)) A rfl hS ?_; clear A a hR; intro a A hR
      refine dstep hR (i := 1) rfl (by kernel_rfl) (fun _ _ _ h => h) (fun _ _ H' => (Runs.nilCheck A rfl)) A rfl hS ?_; clear A a hR; intro a A hR
      refine dstep hR (i := 2) rfl (by kernel_rfl) (fun _ _ _ h => h) (fun _ _ H' => (Runs.fa A rfl)) A rfl hS ?_; clear A a hR; intro a A hR
      refine dstep hR (i := 3) rfl (by kernel_rfl) (fun _ _ _ h => h) (fun _ _ H' => (Runs.ld1 A H' rfl rfl)) A rfl hS ?_; clear A a hR; intro a A hR
      refine dstep hR (i := 4) rfl (by kernel_rfl) (fun _ _ _ h => h) (fun _ _ H' => (Runs.move A rfl)) A rfl hS ?_; clear A a hR; intro a A hR
      refine dstep hR (i := 5) rfl (by kernel_rfl) (fun _ _ _ h => h) (fun _ _ H' => (Runs.nilCheck A rfl)) A rfl hS ?_; clear A a hR; intro a A hR
      refine dstep hR (i := 6) rfl (by kernel_rfl) (fun _ _ _ h => h) (fun _ _ H' => (Runs.fa A rfl)) A rfl hS ?_; clear A a hR; intro a A hR
      refine dstep hR (i := 7) rfl (by kernel_rfl) (fun _ _ _ h => h) (fun _ _ H' => (Runs.ld1 A H' rfl rfl)) A rfl hS ?_; clear A a hR; intro a A hR
      refine dstep hR (i := 8) rfl (by kernel_rfl) (fun _ _ _ h => h) (fun _ _ H' => (Runs.sliceNlo (lo := i) A rfl rfl rfl (by omega))) A rfl hS ?_; clear A a hR; intro a A hR
      refine dlist hR (i := 9) rfl (by kernel_rfl) ?_
      have hR := hR.next (i := 9) (by kernel_rfl)
      refine step_callF A rfl rfl (c_IndexByte) H ?_
      rintro v6_9 a w m hm rfl A H
      have hM := hM.trans hm
      have hL := hL.trans hm
      refine wpList_nil ?_
      clear hS; refine and_keep (H.sw hL) fun hS => ?_
      refine dstep hR (i := 10) rfl (by kernel_rfl) (fun _ _ _ h => h) (fun _ _ H' => (Runs.assign A rfl)) A rfl hS ?_; clear A a hR; intro a A hR
      refine draw_done hR (by kernel_rfl) ?_
      clear hS hL hR
      refine wp_seq ?_
      refine wp_seq ?_
      refine wp_region_lit ?_
      refine step (Runs.move A rfl) A rfl ?_; clear A a; intro a A
      rw [extract_rest] at *
      have hix := index_take (rest s i) (Int.toNat 10).toUInt8
      have etw : (rest s i).takeWhile (· != (Int.toNat 10).toUInt8) = (rest s i).takeWhile (· != 10) := rfl
      rw [etw] at hix
      have htl := (List.takeWhile_sublist (l := rest s i) (· != 10)).length_le
      have hrl := rest_length s i
      refine step (Runs.lss A rfl rfl) A rfl ?_; clear A a; intro a A
      refine wpList_nil ?_
      refine cond_split A rfl (fun h3 => ?_) (fun h3 => ?_)
      · have g3 := h3
        try simp only [decide_eq_true_eq, decide_eq_false_iff_not, Bool.not_eq_true', Bool.not_eq_false', ne_eq, Decidable.not_not, Int.not_lt, Int.not_le] at g3
        refine draw_begin (ms := m) (Ls := [pt b (scn s i tv) 244]) (by kernel_rfl) (N := 11) rfl (by kernel_rfl) H ?_; clear H; intro w H hR
        have hS : SW m [pt b (scn s i tv) 244] w := H.sw (Le.refl m)
        have hL := Le.refl m
        refine dstep hR (i := 0) rfl (by kernel_rfl) (fun _ _ _ h => h) (fun _ _ H' => (Runs.move A rfl)) A rfl hS ?_; clear A a hR; intro a A hR
        refine dstep hR (i := 1) rfl (by kernel_rfl) (fun _ _ _ h => h) (fun _ _ H' => (Runs.nilCheck A rfl)) A rfl hS ?_; clear A a hR; intro a A hR
        refine dstep hR (i := 2) rfl (by kernel_rfl) (fun _ _ _ h => h) (fun _ _ H' => (Runs.fa A rfl)) A rfl hS ?_; clear A a hR; intro a A hR
        refine dstep hR (i := 3) rfl (by kernel_rfl) (fun _ _ _ h => h) (fun _ _ H' => (Runs.ld1 A H' rfl rfl)) A rfl hS ?_; clear A a hR; intro a A hR
        refine dstep hR (i := 4) rfl (by kernel_rfl) (fun _ _ _ h => h) (fun _ _ H' => (Runs.lenS A rfl StrC.h)) A rfl hS ?_; clear A a hR; intro a A hR
        refine dstep hR (i := 5) rfl (by kernel_rfl) (fun _ _ _ h => h) (fun _ _ H' => (Runs.move A rfl)) A rfl hS ?_; clear A a hR; intro a A hR
        refine dstep hR (i := 6) rfl (by kernel_rfl) (fun _ _ _ h => h) (fun _ _ H' => (Runs.nilCheck A rfl)) A rfl hS ?_; clear A a hR; intro a A hR
        refine dstep hR (i := 7) rfl (by kernel_rfl) (fun _ _ _ h => h) (fun _ _ H' => (Runs.fa A rfl)) A rfl hS ?_; clear A a hR; intro a A hR
        refine dstep hR (i := 8) rfl (by kernel_rfl) (fun _ _ _ h => h) (fun _ _ H' => (Runs.ld1 A H' rfl rfl)) A rfl hS ?_; clear A a hR; intro a A hR
        refine dstep hR (i := 9) rfl (by kernel_rfl) (fun _ _ _ h => h) (fun _ _ H' => (Runs.sub A rfl rfl (by omega))) A rfl hS ?_; clear A a hR; intro a A hR
        refine dstep hR (i := 10) rfl (by kernel_rfl) (fun _ _ _ h => h) (fun _ _ H' => (Runs.assign A rfl)) A rfl hS ?_; clear A a hR; intro a A hR
        refine draw_done hR (by kernel_rfl) ?_
        clear hS hL hR
        refine wp_seq ?_
        refine wp_region_lit ?_
        refine step (Runs.move A rfl) A rfl ?_; clear A a; intro a A
        refine step (Runs.nilCheck A rfl) A rfl ?_; clear A a; intro a A
        refine step (Runs.fa A rfl) A rfl ?_; clear A a; intro a A
        refine step (Runs.ld1 A H rfl rfl) A rfl ?_; clear A a; intro a A
        refine step (Runs.move A rfl) A rfl ?_; clear A a; intro a A
        refine step (Runs.add A rfl rfl (by omega)) A rfl ?_; clear A a; intro a A
        refine step (Runs.nilCheck A rfl) A rfl ?_; clear A a; intro a A
        refine step (Runs.fa A rfl) A rfl ?_; clear A a; intro a A
        refine step_store A H rfl rfl rfl rfl rfl (scn_at _ _ _ _) ?_; intro w H
        refine wpList_nil ?_
        refine wp_seq ?_
        refine wp_region_lit ?_
        refine step (Runs.assign A rfl) A rfl ?_; clear A a; intro a A
        refine wpList_nil ?_
        refine wp_ret ?_
        have h1n : ¬ isB s i [3] = true := by rw [h1']; decide
        have hp := prefix_le h2s
        have e : spN s i = s.size - i := by rw [spN, if_neg h1n, if_pos h2s]; rcases hix with ⟨_, h⟩ | ⟨h, _⟩ <;> omega
        have ez : (i:Int) + ((s.size:Int) - i) = (i:Int) + ((s.size - i : Nat) : Int) := by omega
        rw [ez, ← e] at H
        refine retV A rfl rfl hM H (.inl ⟨by simp at hp; omega, rfl, rfl⟩)
      · have g3 := h3
        try simp only [decide_eq_true_eq, decide_eq_false_iff_not, Bool.not_eq_true', Bool.not_eq_false', ne_eq, Decidable.not_not, Int.not_lt, Int.not_le] at g3
        refine wp_skip ?_
        refine wp_seq ?_
        refine wp_region_lit ?_
        refine step (Runs.move A rfl) A rfl ?_; clear A a; intro a A
        refine step (Runs.nilCheck A rfl) A rfl ?_; clear A a; intro a A
        refine step (Runs.fa A rfl) A rfl ?_; clear A a; intro a A
        refine step (Runs.ld1 A H rfl rfl) A rfl ?_; clear A a; intro a A
        refine step (Runs.move A rfl) A rfl ?_; clear A a; intro a A
        refine step (Runs.add A rfl rfl (by omega)) A rfl ?_; clear A a; intro a A
        refine step (Runs.nilCheck A rfl) A rfl ?_; clear A a; intro a A
        refine step (Runs.fa A rfl) A rfl ?_; clear A a; intro a A
        refine step_store A H rfl rfl rfl rfl rfl (scn_at _ _ _ _) ?_; intro w H
        refine wpList_nil ?_
        refine wp_seq ?_
        refine wp_region_lit ?_
        refine step (Runs.assign A rfl) A rfl ?_; clear A a; intro a A
        refine wpList_nil ?_
        refine wp_ret ?_
        have h1n : ¬ isB s i [3] = true := by rw [h1']; decide
        have hp := prefix_tw h2s
        have e : (spN s i : Int) = Lib.indexByte (rest s i) (Int.toNat 10).toUInt8 := by rw [spN, if_neg h1n, if_pos h2s]; rcases hix with ⟨h, _⟩ | ⟨_, h⟩ <;> omega
        rw [← e] at H
        refine retV A rfl rfl hM H (.inl ⟨by omega, rfl, rfl⟩)

theorem c_lexer_scanner_sign {b i c : Nat} {s : ByteArray} {ad : Option Addr} {toks : List Tok} {m : Mem} (hi : i ≤ s.size) (hs : s.size ≤ 140737488355328) (ht : toks.length ≤ 100000) : Spec Tryz.prog 149 #[.pointer (some ⟨b, 0, none⟩)] m [pt b (scn s i (.slice ad toks.length c)) 244, row 170 3 ad toks.length c (tokCells toks)] (RetV fun _ v L => (sgn s i ≠ 0 ∧ v = .bool true ∧ ∃ ad' c', L = [pt b (scn s ((i : Int) + (sgn s i : Int)) (.slice ad' (toks.length + 1) c')) 244, row 170 3 ad' (toks.length + 1) c' (tokCells (toks ++ [⟨3, s.extract i (i + sgn s i), i⟩]))]) ∨ (sgn s i = 0 ∧ v = .bool false ∧ L = [pt b (scn s i (.slice ad toks.length c)) 244, row 170 3 ad toks.length c (tokCells toks)])) := by
  refine Spec.enter Tryz.func149 rfl 34 Tryz.ntmps149 rfl fun a w0 Lf A H => ?_
  simp only [List.cons_append, List.nil_append] at H
  have hM := Le.refl m
  refine wp_seq ?_
  refine wp_region_lit ?_
  refine step (Runs.assign A rfl) A rfl ?_; clear A a; intro a A
  refine wpList_nil ?_
  refine wp_seq ?_
  refine wp_seq ?_
  refine wp_region_lit ?_
  refine step_slice A H rfl rfl rfl rfl rfl rfl ?_; intro b1 a w A H
  refine step (Runs.lenL A rfl SlC.h) A rfl ?_; clear A a; intro a A
  refine step (Runs.move A rfl) A rfl ?_; clear A a; intro a A
  refine wpList_nil ?_
  refine wp_block ?_
  refine wp_loop_ghost (fun q a w => ∃ (j : Nat) (m' : Mem), q = 2 - j ∧ (j ≤ 2 ∧ (0 < j → Lib.hasPrefix (rest s i) [45, 62] = false) ∧ (1 < j → Lib.hasPrefix (rest s i) [61, 61] = false)) ∧ Le m m' ∧ Fr 34 a [(0, .pointer (some ⟨b, 0, none⟩)), (5, .slice (some ⟨b1, 0, none⟩) 2 2), (6, .int .i64 2), (7, .int .i64 j)] [] ∧ St w0 w m' (pt b1 [.string ⟨#[45, 62]⟩, .string ⟨#[61, 61]⟩] 9 :: pt b (scn s i (.slice ad toks.length c)) 244 :: row 170 3 ad toks.length c (tokCells toks) :: Lf)) _ ⟨0, m, rfl, ⟨by omega, fun h => absurd h (by omega), fun h => absurd h (by omega)⟩, Le.refl m, (Fr.cons A rfl (Fr.cons A rfl (Fr.cons A rfl (Fr.cons A rfl (Fr.nil A))))), H⟩ ?_
  clear A H; rintro q a w ⟨j, m, rfl, hinv, hm, A, H⟩
  have hM := hM.trans hm
  have hl1 := hm
  obtain ⟨hj, hp0, hp1⟩ := hinv
  refine wp_seq ?_
  refine wp_region_lit ?_
  refine step (Runs.lss A rfl rfl) A rfl ?_; clear A a; intro a A
  refine wpList_nil ?_
  refine wp_seq ?_
  refine cond_split A rfl (fun h1 => ?_) (fun h1 => ?_)
  · have g1 := h1
    try simp only [decide_eq_true_eq, decide_eq_false_iff_not, Bool.not_eq_true', Bool.not_eq_false', ne_eq, Decidable.not_not, Int.not_lt, Int.not_le] at g1
    refine wp_skip ?_
    refine wp_seq ?_
    refine wp_block ?_
    refine wp_seq ?_
    refine wp_region_lit ?_
    obtain ⟨tw, htw, hts, hcase⟩ : ∃ tw : ByteArray, ([.string ⟨#[45, 62]⟩, .string ⟨#[61, 61]⟩] : List Value)[j]? = some (.string tw) ∧ tw.size = 2 ∧ (j = 0 ∧ tw.data.toList = [45, 62] ∨ j = 1 ∧ tw.data.toList = [61, 61]) := by
      have : j = 0 ∨ j = 1 := by omega
      rcases this with rfl | rfl
      · exact ⟨_, rfl, rfl, .inl ⟨rfl, rfl⟩⟩
      · exact ⟨_, rfl, rfl, .inr ⟨rfl, rfl⟩⟩
    refine step (Runs.indexAddr A rfl rfl SlC.h (by omega) (by omega)) A rfl ?_; clear A a; intro a A
    refine step (Runs.ld1 A H rfl (v := .string tw) (by simpa using htw)) A rfl ?_; clear A a; intro a A
    refine step (Runs.assign A rfl) A rfl ?_; clear A a; intro a A
    refine wpList_nil ?_
    refine wp_seq ?_
    refine draw_begin (ms := m) (Ls := [pt b (scn s i (.slice ad toks.length c)) 244]) (by kernel_rfl) (N := 11) rfl (by kernel_rfl) H ?_; clear H; intro w H hR
    have hS : SW m [pt b (scn s i (.slice ad toks.length c)) 244] w := H.sw (Le.refl m)
    have hL := Le.refl m
    refine dstep hR (i := 0) rfl (by kernel_rfl) (fun _ _ _ h => h) (fun _ _ H' => (Runs.move A rfl)) A rfl hS ?_; clear A a hR; intro a A hR
    refine dstep hR (i := 1) rfl (by kernel_rfl) (fun _ _ _ h => h) (fun _ _ H' => (Runs.nilCheck A rfl)) A rfl hS ?_; clear A a hR; intro a A hR
    refine dstep hR (i := 2) rfl (by kernel_rfl) (fun _ _ _ h => h) (fun _ _ H' => (Runs.fa A rfl)) A rfl hS ?_; clear A a hR; intro a A hR
    refine dstep hR (i := 3) rfl (by kernel_rfl) (fun _ _ _ h => h) (fun _ _ H' => (Runs.ld1 A H' rfl rfl)) A rfl hS ?_; clear A a hR; intro a A hR
    refine dstep hR (i := 4) rfl (by kernel_rfl) (fun _ _ _ h => h) (fun _ _ H' => (Runs.move A rfl)) A rfl hS ?_; clear A a hR; intro a A hR
    refine dstep hR (i := 5) rfl (by kernel_rfl) (fun _ _ _ h => h) (fun _ _ H' => (Runs.nilCheck A rfl)) A rfl hS ?_; clear A a hR; intro a A hR
    refine dstep hR (i := 6) rfl (by kernel_rfl) (fun _ _ _ h => h) (fun _ _ H' => (Runs.fa A rfl)) A rfl hS ?_; clear A a hR; intro a A hR
    refine dstep hR (i := 7) rfl (by kernel_rfl) (fun _ _ _ h => h) (fun _ _ H' => (Runs.ld1 A H' rfl rfl)) A rfl hS ?_; clear A a hR; intro a A hR
    refine dstep hR (i := 8) rfl (by kernel_rfl) (fun _ _ _ h => h) (fun _ _ H' => (Runs.sliceNlo (lo := i) A rfl rfl rfl (by omega))) A rfl hS ?_; clear A a hR; intro a A hR
    refine dstep hR (i := 9) rfl (by kernel_rfl) (fun _ _ _ h => h) (fun _ _ H' => (Runs.move A rfl)) A rfl hS ?_; clear A a hR; intro a A hR
    refine dlist hR (i := 10) rfl (by kernel_rfl) ?_
    have hR := hR.next (i := 10) (by kernel_rfl)
    refine step_callF A rfl rfl (c_HasPrefix) H ?_
    rintro v4_10 a w m hm rfl A H
    have hM := hM.trans hm
    have hl1 := hl1.trans hm
    have hL := hL.trans hm
    refine wpList_nil ?_
    clear hS; refine and_keep (H.sw hL) fun hS => ?_
    refine draw_done hR (by kernel_rfl) ?_
    clear hS hL hR
    refine cond_split A rfl (fun h2 => ?_) (fun h2 => ?_)
    · have g2 := h2
      try simp only [decide_eq_true_eq, decide_eq_false_iff_not, Bool.not_eq_true', Bool.not_eq_false', ne_eq, Decidable.not_not, Int.not_lt, Int.not_le] at g2
      refine wp_seq ?_
      refine wp_region_lit ?_
      refine step (Runs.move A rfl) A rfl ?_; clear A a; intro a A
      refine step (Runs.move A rfl) A rfl ?_; clear A a; intro a A
      refine step (Runs.lenS A rfl StrC.h) A rfl ?_; clear A a; intro a A
      have hpre := h2
      rw [extract_rest] at hpre
      have hple := prefix_le hpre
      rw [rest_length, show tw.data.toList.length = 2 from by rw [Array.length_toList]; exact hts] at hple
      rw [hts] at A
      refine step_callS A rfl rfl (c_lexer_scanner_take (b := b) (s := s) (i := i) (k := 2) (ad := ad) (c := c) (toks := toks) (by omega) (by omega) (by omega)) H ?_
      rintro v5_3 a w m L' hm ⟨rfl, ad1, c1, rfl⟩ A H
      simp only [List.cons_append, List.nil_append] at H
      have hM := hM.trans hm
      have hl1 := hl1.trans hm
      refine step (Runs.assign A rfl) A rfl ?_; clear A a; intro a A
      refine wpList_nil ?_
      refine wp_ret ?_
      have e : sgn s i = 2 := by
        rcases hcase with ⟨rfl, e⟩ | ⟨rfl, e⟩
        · rw [e] at hpre; rw [sgn, if_pos hpre]
        · rw [e] at hpre; rw [sgn, hp0 (by omega), hpre]; rfl
      refine retV A rfl rfl hM H (.inl (by rw [e]; exact ⟨by decide, rfl, ad1, c1, rfl⟩))
    · have g2 := h2
      try simp only [decide_eq_true_eq, decide_eq_false_iff_not, Bool.not_eq_true', Bool.not_eq_false', ne_eq, Decidable.not_not, Int.not_lt, Int.not_le] at g2
      refine wp_skip ?_
      refine wp_region_lit ?_
      refine step (Runs.add A rfl rfl (by omega)) A rfl ?_; clear A a; intro a A
      refine step (Runs.move A rfl) A rfl ?_; clear A a; intro a A
      refine wpList_nil ?_
      have g2' : Lib.hasPrefix (rest s i) tw.data.toList = false := by rw [← extract_rest]; exact h2
      have hq0 : 0 < j + 1 → Lib.hasPrefix (rest s i) [45, 62] = false := by
        intro _; rcases hcase with ⟨rfl, e⟩ | ⟨rfl, e⟩
        · rw [← e]; exact g2'
        · exact hp0 (by omega)
      have hq1 : 1 < j + 1 → Lib.hasPrefix (rest s i) [61, 61] = false := by
        intro h; rcases hcase with ⟨rfl, e⟩ | ⟨rfl, e⟩
        · omega
        · rw [← e]; exact g2'
      exact ⟨_, by omega, j + 1, m, rfl, ⟨by omega, hq0, hq1⟩, hl1, (Fr.cons A rfl (Fr.cons A rfl (Fr.cons A rfl (Fr.cons A rfl (Fr.nil A))))), H.subH⟩
  · have g1 := h1
    try simp only [decide_eq_true_eq, decide_eq_false_iff_not, Bool.not_eq_true', Bool.not_eq_false', ne_eq, Decidable.not_not, Int.not_lt, Int.not_le] at g1
    refine wp_exit ?_
    refine wp_seq ?_
    refine wp_region_lit ?_
    refine step (Runs.move A rfl) A rfl ?_; clear A a; intro a A
    refine step_slice A H rfl rfl rfl rfl rfl rfl ?_; intro b2 a w A H
    refine step_callS A rfl rfl (c_lexer_scanner_is (b := b) (s := s) (i := i) (k := 0) (tv := .slice ad toks.length c) (cl := [4]) (bcs := [.int .u8 4]) rfl rfl (by omega) (by decide)) H ?_
    rintro v7_2 a w m L' hm ⟨rfl, rfl⟩ A H
    simp only [List.cons_append, List.nil_append] at H
    have hM := hM.trans hm
    refine step (Runs.move A rfl) A rfl ?_; clear A a; intro a A
    refine onBool A (dj := 30) rfl (fun h3 => ?_) (fun h3 => ?_)
    · have g3 := h3
      try simp only [decide_eq_true_eq, decide_eq_false_iff_not, Bool.not_eq_true', Bool.not_eq_false', ne_eq, Decidable.not_not, Int.not_lt, Int.not_le] at g3
      refine stepG (dj := 30) rfl rfl h3 (Runs.move A rfl) A rfl ?_; clear A a; intro a A
      have h1' : isB s i [4] = true := h3
      have hlt : i < s.size := by simp [isB] at h1'; omega
      refine step_callSG (dj := 30) rfl rfl h3 A rfl rfl (c_lexer_scanner_take (b := b) (s := s) (i := i) (k := 1) (ad := ad) (c := c) (toks := toks) (by omega) (by omega) (by omega)) H ?_
      rintro v7_5 a w m L' hm ⟨rfl, ad1, c1, rfl⟩ A H
      simp only [List.cons_append, List.nil_append] at H
      have hM := hM.trans hm
      refine step (Runs.pickT A rfl h3 rfl) A rfl ?_; clear A a; intro a A
      refine step (Runs.assign A rfl) A rfl ?_; clear A a; intro a A
      refine wpList_nil ?_
      refine wp_ret ?_
      have e : sgn s i = 1 := by rw [sgn, hp0 (by omega), hp1 (by omega), h1']; rfl
      refine retV A rfl rfl hM H (.inl (by rw [e]; exact ⟨by decide, rfl, ad1, c1, rfl⟩))
    · have g3 := h3
      try simp only [decide_eq_true_eq, decide_eq_false_iff_not, Bool.not_eq_true', Bool.not_eq_false', ne_eq, Decidable.not_not, Int.not_lt, Int.not_le] at g3
      refine stepSkip (dj := 30) rfl rfl h3 A rfl ?_; clear A a; intro a A
      refine stepSkip (dj := 30) rfl rfl h3 A rfl ?_; clear A a; intro a A
      refine step (Runs.pickF A rfl h3 rfl) A rfl ?_; clear A a; intro a A
      refine step (Runs.assign A rfl) A rfl ?_; clear A a; intro a A
      refine wpList_nil ?_
      refine wp_ret ?_
      have h1' : isB s i [4] = false := h3
      have e : sgn s i = 0 := by rw [sgn, hp0 (by omega), hp1 (by omega), h1']; rfl
      refine retV A rfl rfl hM H (.inr (by rw [e]; exact ⟨rfl, rfl, rfl⟩))
end Sl
end Go.Proofs.YtanhehbfbakdcaaGreatDoor
/- The lexer's classes, and Lex: printed by my gen.py out of annotations. -/
set_option linter.unusedSimpArgs false
set_option linter.unusedVariables false
namespace Go.Proofs.YtanhehbfbakdcaaGreatDoor
namespace Sl
open Go

def stg1 (b : Nat) : Nat → Int := fun i => if 97 ≤ i ∧ i < b then 1 else 0
def stg2 (b : Nat) : Nat → Int := fun i => if 97 ≤ i ∧ i ≤ 122 then 1 else if 48 ≤ i ∧ i < b then 2 else 0
def stg3 (k : Nat) : Nat → Int := fun i => if 97 ≤ i ∧ i ≤ 122 then 1 else if 48 ≤ i ∧ i ≤ 57 then 2 else if i ∈ signL.take k then 4 else 0
theorem stg1_step {b : Nat} (h : 97 ≤ b) : upd (stg1 b) b 1 = stg1 (b + 1) := by
  funext i; simp only [upd, stg1]; split <;> split <;> first | rfl | omega | (split <;> first | rfl | omega)
theorem stg2_init : stg1 123 = stg2 48 := by
  funext i; simp only [stg2, stg1]; split <;> split <;> first | rfl | omega | (split <;> first | rfl | omega)
theorem stg2_step {b : Nat} (h : 48 ≤ b) (h2 : b ≤ 57) : upd (stg2 b) b 2 = stg2 (b + 1) := by
  funext i; simp only [upd, stg2]; repeat' split
  all_goals first | rfl | omega
theorem stg3_init : stg2 58 = stg3 0 := by
  funext i; simp only [stg2, stg3, List.take_zero, List.not_mem_nil, if_false]; repeat' split
  all_goals first | rfl | omega
theorem sign_out : ∀ k : Fin 21, ¬ (97 ≤ signL.getD k 0 ∧ signL.getD k 0 ≤ 122) ∧ ¬ (48 ≤ signL.getD k 0 ∧ signL.getD k 0 ≤ 57) ∧ signL.getD k 0 < 256 := by decide
theorem stg3_step {k : Nat} (h : k < 21) : upd (stg3 k) (signL.getD k 0) 4 = stg3 (k + 1) := by
  have h0 := sign_out ⟨k, h⟩
  have hk : signL[k]? = some (signL.getD k 0) := by
    rw [List.getD_eq_getElem?_getD, List.getElem?_eq_getElem (show k < signL.length from h)]; rfl
  funext i
  simp only [upd, stg3, List.take_add_one, hk, Option.toList_some, List.mem_append, List.mem_singleton]
  by_cases e : i = signL.getD k 0
  · subst e
    simp only [Fin.val_mk] at h0
    simp only [if_true, or_true]
    rw [if_neg h0.1, if_neg h0.2.1]
  · simp only [e, or_false, if_false]
theorem cls_done : upd (upd (stg3 21) 32 3) 10 3 = cls := by
  funext i
  simp only [upd, stg3, cls]
  rw [show signL.take 21 = signL from rfl]
  by_cases h1 : i = 10
  · subst h1; rfl
  · by_cases h2 : i = 32
    · subst h2; rfl
    · simp only [if_neg h1, if_neg h2, h1, h2, or_self, if_false]
theorem getN_full : ∀ (cs : List Value), getN cs 0 cs.length = some cs
  | [] => rfl
  | c :: cs => by simp [getN, getN_full cs, consO]
theorem setN_full : ∀ (cs vs : List Value), cs.length = vs.length → setN cs 0 vs = some vs
  | [], [], _ => rfl
  | c :: cs, v :: vs, h => by simp [setN, setN_full cs vs (by simpa using h), consO]
  | [], _ :: _, h => by simp at h
  | _ :: _, [], h => by simp at h
theorem tab_one (f : Nat → Int) : (tab f).all (·.oneCell') = true := by simp [tab, Value.oneCell']
theorem tab_zero : List.replicate 256 (Value.int .u8 0) = tab (stg1 97) := by
  refine (List.eq_replicate_iff.2 ⟨tab_length _, fun v hv => ?_⟩).symm
  simp only [tab, List.mem_map] at hv
  obtain ⟨i, _, rfl⟩ := hv
  rw [stg1, if_neg (by omega)]
theorem stg1_tab_get (f : Nat → Int) : getN (tab f) 0 256 = some (tab f) := by have := getN_full (tab f); rwa [tab_length] at this
def sgB : ByteArray := ⟨#[40, 41, 123, 125, 91, 93, 44, 59, 58, 61, 43, 45, 38, 124, 94, 126, 60, 63, 64, 35, 46]⟩
theorem sgB_dec : ∀ k : Fin 21, Utf8.decode sgB k = (signL.getD k 0, 1) := by decide

theorem c_lexer_classOf {m : Mem} : Spec Tryz.prog 146 #[] m [] (RetE (.agg (tab cls).toArray)) := by
  refine Spec.enter0 Tryz.func146 rfl 27 Tryz.ntmps146 rfl fun a w0 Lf A H => ?_
  have hM := Le.refl m
  refine wp_seq ?_
  refine wp_region_lit ?_
  refine step_alloc A H rfl ?_; clear A a; intro b1 a w A H
  refine wpList_nil ?_
  refine wp_seq ?_
  refine wp_region_lit ?_
  refine step_alloc A H rfl ?_; clear A a; intro b2 a w A H
  refine wpList_nil ?_
  refine wp_seq ?_
  refine wp_seq ?_
  refine wp_region_lit ?_
  refine step (Runs.assign A rfl) A rfl ?_; clear A a; intro a A
  refine wpList_nil ?_
  refine wp_block ?_
  rw [tab_zero] at H
  refine wp_loop_ghost (fun q a w => ∃ (j : Nat) (m' : Mem), q = 123 - j ∧ (97 ≤ j ∧ j ≤ 123) ∧ Le m m' ∧ Fr 27 a [(0, .pointer (some ⟨b1, 0, none⟩)), (1, .pointer (some ⟨b2, 0, none⟩)), (2, .int .i32 j)] [] ∧ St w0 w m' (pt b2 (tab (stg1 j)) 241 :: pt b1 (tab (stg1 97)) 241 :: Lf)) _ ⟨97, m, rfl, ⟨by omega, by omega⟩, Le.refl m, (Fr.cons A rfl (Fr.cons A rfl (Fr.cons A rfl (Fr.nil A)))), H⟩ ?_
  clear A H; rintro q a w ⟨j, m, rfl, hinv, hm, A, H⟩
  have hM := hM.trans hm
  have hl1 := hm
  obtain ⟨hj, hj2⟩ := hinv
  refine wp_seq ?_
  refine wp_seq ?_
  refine wp_region_lit ?_
  refine step (Runs.move A rfl) A rfl ?_; clear A a; intro a A
  refine step (Runs.leq A rfl rfl) A rfl ?_; clear A a; intro a A
  refine wpList_nil ?_
  refine cond_split A rfl (fun h1 => ?_) (fun h1 => ?_)
  · have g1 := h1
    try simp only [decide_eq_true_eq, decide_eq_false_iff_not, Bool.not_eq_true', Bool.not_eq_false', ne_eq, Decidable.not_not, Int.not_lt, Int.not_le] at g1
    refine wp_skip ?_
    refine wp_seq ?_
    refine wp_block ?_
    refine wp_region_lit ?_
    refine step (Runs.move A rfl) A rfl ?_; clear A a; intro a A
    refine step (Runs.indexArr A rfl rfl (by omega) (by omega)) A rfl ?_; clear A a; intro a A
    refine step_store A H rfl rfl rfl rfl rfl (by rw [show (0 + (Int.toNat (j : Int)) * 1 : Nat) = j by omega]; exact setN_tab _ _ _ (by omega)) ?_; intro w H
    rw [stg1_step hj] at H
    refine wpList_nil ?_
    refine wp_region_lit ?_
    refine step (Runs.move A rfl) A rfl ?_; clear A a; intro a A
    refine step (Runs.addK (r := ((j + 1 : Nat) : Int)) A rfl rfl (by simp only [IntKind.wrap, IntKind.bits, IntKind.signed, Bool.true_and, ge_iff_le, decide_eq_true_eq]; omega)) A rfl ?_; clear A a; intro a A
    refine step (Runs.assign A rfl) A rfl ?_; clear A a; intro a A
    refine wpList_nil ?_
    exact ⟨_, by omega, j + 1, m, rfl, ⟨by omega, by omega⟩, hl1, (Fr.cons A rfl (Fr.cons A rfl (Fr.cons A rfl (Fr.nil A)))), H⟩
  · have g1 := h1
    try simp only [decide_eq_true_eq, decide_eq_false_iff_not, Bool.not_eq_true', Bool.not_eq_false', ne_eq, Decidable.not_not, Int.not_lt, Int.not_le] at g1
    refine wp_exit ?_
    refine wp_seq ?_
    refine wp_seq ?_
    refine wp_region_lit ?_
    refine step (Runs.assign A rfl) A rfl ?_; clear A a; intro a A
    refine wpList_nil ?_
    refine wp_block ?_
    rw [show j = 123 by omega, stg2_init] at H
    refine wp_loop_ghost (fun q a w => ∃ (j : Nat) (m' : Mem), q = 58 - j ∧ (48 ≤ j ∧ j ≤ 58) ∧ Le m m' ∧ Fr 27 a [(0, .pointer (some ⟨b1, 0, none⟩)), (1, .pointer (some ⟨b2, 0, none⟩)), (3, .int .i32 j)] [] ∧ St w0 w m' (pt b2 (tab (stg2 j)) 241 :: pt b1 (tab (stg1 97)) 241 :: Lf)) _ ⟨48, m, rfl, ⟨by omega, by omega⟩, Le.refl m, (Fr.cons A rfl (Fr.cons A rfl (Fr.cons A rfl (Fr.nil A)))), H⟩ ?_
    clear A H; rintro q a w ⟨j, m, rfl, hinv, hm, A, H⟩
    have hM := hM.trans hm
    have hl2 := hm
    obtain ⟨hj, hj2⟩ := hinv
    refine wp_seq ?_
    refine wp_seq ?_
    refine wp_region_lit ?_
    refine step (Runs.move A rfl) A rfl ?_; clear A a; intro a A
    refine step (Runs.leq A rfl rfl) A rfl ?_; clear A a; intro a A
    refine wpList_nil ?_
    refine cond_split A rfl (fun h2 => ?_) (fun h2 => ?_)
    · have g2 := h2
      try simp only [decide_eq_true_eq, decide_eq_false_iff_not, Bool.not_eq_true', Bool.not_eq_false', ne_eq, Decidable.not_not, Int.not_lt, Int.not_le] at g2
      refine wp_skip ?_
      refine wp_seq ?_
      refine wp_block ?_
      refine wp_region_lit ?_
      refine step (Runs.move A rfl) A rfl ?_; clear A a; intro a A
      refine step (Runs.indexArr A rfl rfl (by omega) (by omega)) A rfl ?_; clear A a; intro a A
      refine step_store A H rfl rfl rfl rfl rfl (by rw [show (0 + (Int.toNat (j : Int)) * 1 : Nat) = j by omega]; exact setN_tab _ _ _ (by omega)) ?_; intro w H
      rw [stg2_step hj (by omega)] at H
      refine wpList_nil ?_
      refine wp_region_lit ?_
      refine step (Runs.move A rfl) A rfl ?_; clear A a; intro a A
      refine step (Runs.addK (r := ((j + 1 : Nat) : Int)) A rfl rfl (by simp only [IntKind.wrap, IntKind.bits, IntKind.signed, Bool.true_and, ge_iff_le, decide_eq_true_eq]; omega)) A rfl ?_; clear A a; intro a A
      refine step (Runs.assign A rfl) A rfl ?_; clear A a; intro a A
      refine wpList_nil ?_
      exact ⟨_, by omega, j + 1, m, rfl, ⟨by omega, by omega⟩, hl2, (Fr.cons A rfl (Fr.cons A rfl (Fr.cons A rfl (Fr.nil A)))), H⟩
    · have g2 := h2
      try simp only [decide_eq_true_eq, decide_eq_false_iff_not, Bool.not_eq_true', Bool.not_eq_false', ne_eq, Decidable.not_not, Int.not_lt, Int.not_le] at g2
      refine wp_exit ?_
      refine wp_seq ?_
      refine wp_seq ?_
      refine wp_region_lit ?_
      refine step_rangeS A H rfl rfl ?_; clear A a; intro b3 a w A H
      refine wpList_nil ?_
      refine wp_block ?_
      rw [show j = 58 by omega, stg3_init] at H
      refine wp_loop_ghost (fun q a w => ∃ (k : Nat) (m' : Mem), q = 22 - k ∧ (k ≤ 21) ∧ Le m m' ∧ Fr 27 a [(0, .pointer (some ⟨b1, 0, none⟩)), (1, .pointer (some ⟨b2, 0, none⟩)), (18, .pointer (some ⟨b3, 0, none⟩))] [] ∧ St w0 w m' (ob b3 (.stringIter sgB k) :: pt b2 (tab (stg3 k)) 241 :: pt b1 (tab (stg1 97)) 241 :: Lf)) _ ⟨0, m, rfl, by omega, Le.refl m, (Fr.cons A rfl (Fr.cons A rfl (Fr.cons A rfl (Fr.nil A)))), H⟩ ?_
      clear A H; rintro q a w ⟨k, m, rfl, hinv, hm, A, H⟩
      have hM := hM.trans hm
      have hl3 := hm
      refine wp_seq ?_
      refine wp_region_lit ?_
      refine step_nextS A H rfl rfl (fun hnx a w A H => ?_) (fun hnx a A => ?_)
      · change k < 21 at hnx
        have hk := sgB_dec ⟨k, hnx⟩
        simp only [Fin.val_mk] at hk
        rw [hk] at A H
        have ho := sign_out ⟨k, hnx⟩
        simp only [Fin.val_mk] at ho A H
        refine step (Runs.extract A rfl rfl) A rfl ?_; clear A a; intro a A
        refine wpList_nil ?_
        refine wp_seq ?_
        refine cond_true A rfl rfl ?_
        refine wp_skip ?_
        refine wp_block ?_
        refine wp_seq ?_
        refine wp_region_lit ?_
        refine step (Runs.extract A rfl rfl) A rfl ?_; clear A a; intro a A
        refine step (Runs.assign A rfl) A rfl ?_; clear A a; intro a A
        refine wpList_nil ?_
        refine wp_region_lit ?_
        refine step (Runs.move A rfl) A rfl ?_; clear A a; intro a A
        refine step (Runs.indexArr A rfl rfl (by omega) (by omega)) A rfl ?_; clear A a; intro a A
        refine step_store A H rfl rfl rfl rfl rfl (by rw [show ∀ z : Nat, (0 + (z : Int).toNat * 1 : Nat) = z by intro z; omega]; exact setN_tab _ _ _ ho.2.2) ?_; intro w H
        rw [stg3_step hnx] at H
        refine wpList_nil ?_
        have H' := H.perm (List.Perm.swap _ _ _)
        exact ⟨_, by omega, k + 1, m, rfl, by omega, hl3, (Fr.cons A rfl (Fr.cons A rfl (Fr.cons A rfl (Fr.nil A)))), H'⟩
      · have hk21 : k = 21 := by have : ¬ k < 21 := hnx; omega
        subst hk21
        refine step (Runs.extract A rfl rfl) A rfl ?_; clear A a; intro a A
        refine wpList_nil ?_
        refine wp_seq ?_
        refine cond_false A rfl rfl ?_
        refine wp_exit ?_
        refine wp_seq ?_
        refine wp_region_lit ?_
        refine step (Runs.indexArr A rfl rfl (by omega) (by omega)) A rfl ?_; clear A a; intro a A
        refine step_store A H rfl rfl rfl rfl rfl (setN_tab _ 32 _ (by omega)) ?_; intro w H
        refine step (Runs.indexArr A rfl rfl (by omega) (by omega)) A rfl ?_; clear A a; intro a A
        refine step_store A H rfl rfl rfl rfl rfl (setN_tab _ 10 _ (by omega)) ?_; intro w H
        rw [cls_done] at H
        refine wpList_nil ?_
        refine wp_seq ?_
        refine wp_region_lit ?_
        refine step (Runs.ldN A H rfl (stg1_tab_get _)) A rfl ?_; clear A a; intro a A
        refine step_store (vs := tab cls) A H rfl rfl rfl (tab_length _) (tab_one _) (setN_full _ _ (by rw [tab_length, tab_length])) ?_; intro w H
        refine wpList_nil ?_
        refine wp_ret ?_
        exact retFc A rfl rfl hM H (stg1_tab_get _) rfl

theorem scn_zero : ([.string ⟨#[]⟩, .int .i64 0, .int .u8 0, .int .u8 0, .int .u8 0, .int .u8 0, .int .u8 0, .int .u8 0, .int .u8 0, .int .u8 0, .int .u8 0, .int .u8 0, .int .u8 0, .int .u8 0, .int .u8 0, .int .u8 0, .int .u8 0, .int .u8 0, .int .u8 0, .int .u8 0, .int .u8 0, .int .u8 0, .int .u8 0, .int .u8 0, .int .u8 0, .int .u8 0, .int .u8 0, .int .u8 0, .int .u8 0, .int .u8 0, .int .u8 0, .int .u8 0, .int .u8 0, .int .u8 0, .int .u8 0, .int .u8 0, .int .u8 0, .int .u8 0, .int .u8 0, .int .u8 0, .int .u8 0, .int .u8 0, .int .u8 0, .int .u8 0, .int .u8 0, .int .u8 0, .int .u8 0, .int .u8 0, .int .u8 0, .int .u8 0, .int .u8 0, .int .u8 0, .int .u8 0, .int .u8 0, .int .u8 0, .int .u8 0, .int .u8 0, .int .u8 0, .int .u8 0, .int .u8 0, .int .u8 0, .int .u8 0, .int .u8 0, .int .u8 0, .int .u8 0, .int .u8 0, .int .u8 0, .int .u8 0, .int .u8 0, .int .u8 0, .int .u8 0, .int .u8 0, .int .u8 0, .int .u8 0, .int .u8 0, .int .u8 0, .int .u8 0, .int .u8 0, .int .u8 0, .int .u8 0, .int .u8 0, .int .u8 0, .int .u8 0, .int .u8 0, .int .u8 0, .int .u8 0, .int .u8 0, .int .u8 0, .int .u8 0, .int .u8 0, .int .u8 0, .int .u8 0, .int .u8 0, .int .u8 0, .int .u8 0, .int .u8 0, .int .u8 0, .int .u8 0, .int .u8 0, .int .u8 0, .int .u8 0, .int .u8 0, .int .u8 0, .int .u8 0, .int .u8 0, .int .u8 0, .int .u8 0, .int .u8 0, .int .u8 0, .int .u8 0, .int .u8 0, .int .u8 0, .int .u8 0, .int .u8 0, .int .u8 0, .int .u8 0, .int .u8 0, .int .u8 0, .int .u8 0, .int .u8 0, .int .u8 0, .int .u8 0, .int .u8 0, .int .u8 0, .int .u8 0, .int .u8 0, .int .u8 0, .int .u8 0, .int .u8 0, .int .u8 0, .int .u8 0, .int .u8 0, .int .u8 0, .int .u8 0, .int .u8 0, .int .u8 0, .int .u8 0, .int .u8 0, .int .u8 0, .int .u8 0, .int .u8 0, .int .u8 0, .int .u8 0, .int .u8 0, .int .u8 0, .int .u8 0, .int .u8 0, .int .u8 0, .int .u8 0, .int .u8 0, .int .u8 0, .int .u8 0, .int .u8 0, .int .u8 0, .int .u8 0, .int .u8 0, .int .u8 0, .int .u8 0, .int .u8 0, .int .u8 0, .int .u8 0, .int .u8 0, .int .u8 0, .int .u8 0, .int .u8 0, .int .u8 0, .int .u8 0, .int .u8 0, .int .u8 0, .int .u8 0, .int .u8 0, .int .u8 0, .int .u8 0, .int .u8 0, .int .u8 0, .int .u8 0, .int .u8 0, .int .u8 0, .int .u8 0, .int .u8 0, .int .u8 0, .int .u8 0, .int .u8 0, .int .u8 0, .int .u8 0, .int .u8 0, .int .u8 0, .int .u8 0, .int .u8 0, .int .u8 0, .int .u8 0, .int .u8 0, .int .u8 0, .int .u8 0, .int .u8 0, .int .u8 0, .int .u8 0, .int .u8 0, .int .u8 0, .int .u8 0, .int .u8 0, .int .u8 0, .int .u8 0, .int .u8 0, .int .u8 0, .int .u8 0, .int .u8 0, .int .u8 0, .int .u8 0, .int .u8 0, .int .u8 0, .int .u8 0, .int .u8 0, .int .u8 0, .int .u8 0, .int .u8 0, .int .u8 0, .int .u8 0, .int .u8 0, .int .u8 0, .int .u8 0, .int .u8 0, .int .u8 0, .int .u8 0, .int .u8 0, .int .u8 0, .int .u8 0, .int .u8 0, .int .u8 0, .int .u8 0, .int .u8 0, .int .u8 0, .int .u8 0, .int .u8 0, .int .u8 0, .int .u8 0, .int .u8 0, .int .u8 0, .int .u8 0, .int .u8 0, .int .u8 0, .int .u8 0, .int .u8 0, .int .u8 0, .int .u8 0, .int .u8 0, .int .u8 0, .int .u8 0, .int .u8 0, .int .u8 0, .int .u8 0, .int .u8 0, .int .u8 0, .int .u8 0, .int .u8 0, .int .u8 0, .int .u8 0, .int .u8 0, .slice none 0 0] : List Value) = .string ⟨#[]⟩ :: .int .i64 0 :: (List.replicate 256 (.int .u8 0) ++ [.slice none 0 0]) := by kernel_rfl
theorem setN_pre (vs R : List Value) (d : Value) (h : R.length = vs.length) : setN (R ++ [d]) 0 vs = some (vs ++ [d]) := by
  rw [setN_of (by simp only [List.length_append, List.length_cons, List.length_nil, h]; omega), List.take_zero, List.nil_append, Nat.zero_add, ← h, List.drop_left]
theorem scn_fill0 (a0 b0 d0 v : Value) (vs R : List Value) (hR : R.length = 256) (hv : vs.length = 256) (h1 : v.cells.toList = [v]) : fillP (fun i => ([(0, 1), (1, 1), (2, 256), (258, 1)] : List (Nat × Nat))[i]?) (a0 :: b0 :: (R ++ [d0])) [(0, v), (2, .agg vs.toArray)] = some (v :: b0 :: (vs ++ [d0])) := by
  have h2 : (Value.agg vs.toArray).cells.toList = vs := rfl
  simp only [fillP, h2, List.getElem?_cons_succ, List.getElem?_cons_zero, hv, h1, List.length_cons, List.length_nil, Nat.zero_add, Nat.beq_refl, cond_true, bindO, setN, consO]
  rw [setN_pre _ _ _ (by rw [hR, hv])]
  exact forceL_eq _
theorem scn_fill (s : ByteArray) : fillP (fun i => ([(0, 1), (1, 1), (2, 256), (258, 1)] : List (Nat × Nat))[i]?) ([.string ⟨#[]⟩, .int .i64 0, .int .u8 0, .int .u8 0, .int .u8 0, .int .u8 0, .int .u8 0, .int .u8 0, .int .u8 0, .int .u8 0, .int .u8 0, .int .u8 0, .int .u8 0, .int .u8 0, .int .u8 0, .int .u8 0, .int .u8 0, .int .u8 0, .int .u8 0, .int .u8 0, .int .u8 0, .int .u8 0, .int .u8 0, .int .u8 0, .int .u8 0, .int .u8 0, .int .u8 0, .int .u8 0, .int .u8 0, .int .u8 0, .int .u8 0, .int .u8 0, .int .u8 0, .int .u8 0, .int .u8 0, .int .u8 0, .int .u8 0, .int .u8 0, .int .u8 0, .int .u8 0, .int .u8 0, .int .u8 0, .int .u8 0, .int .u8 0, .int .u8 0, .int .u8 0, .int .u8 0, .int .u8 0, .int .u8 0, .int .u8 0, .int .u8 0, .int .u8 0, .int .u8 0, .int .u8 0, .int .u8 0, .int .u8 0, .int .u8 0, .int .u8 0, .int .u8 0, .int .u8 0, .int .u8 0, .int .u8 0, .int .u8 0, .int .u8 0, .int .u8 0, .int .u8 0, .int .u8 0, .int .u8 0, .int .u8 0, .int .u8 0, .int .u8 0, .int .u8 0, .int .u8 0, .int .u8 0, .int .u8 0, .int .u8 0, .int .u8 0, .int .u8 0, .int .u8 0, .int .u8 0, .int .u8 0, .int .u8 0, .int .u8 0, .int .u8 0, .int .u8 0, .int .u8 0, .int .u8 0, .int .u8 0, .int .u8 0, .int .u8 0, .int .u8 0, .int .u8 0, .int .u8 0, .int .u8 0, .int .u8 0, .int .u8 0, .int .u8 0, .int .u8 0, .int .u8 0, .int .u8 0, .int .u8 0, .int .u8 0, .int .u8 0, .int .u8 0, .int .u8 0, .int .u8 0, .int .u8 0, .int .u8 0, .int .u8 0, .int .u8 0, .int .u8 0, .int .u8 0, .int .u8 0, .int .u8 0, .int .u8 0, .int .u8 0, .int .u8 0, .int .u8 0, .int .u8 0, .int .u8 0, .int .u8 0, .int .u8 0, .int .u8 0, .int .u8 0, .int .u8 0, .int .u8 0, .int .u8 0, .int .u8 0, .int .u8 0, .int .u8 0, .int .u8 0, .int .u8 0, .int .u8 0, .int .u8 0, .int .u8 0, .int .u8 0, .int .u8 0, .int .u8 0, .int .u8 0, .int .u8 0, .int .u8 0, .int .u8 0, .int .u8 0, .int .u8 0, .int .u8 0, .int .u8 0, .int .u8 0, .int .u8 0, .int .u8 0, .int .u8 0, .int .u8 0, .int .u8 0, .int .u8 0, .int .u8 0, .int .u8 0, .int .u8 0, .int .u8 0, .int .u8 0, .int .u8 0, .int .u8 0, .int .u8 0, .int .u8 0, .int .u8 0, .int .u8 0, .int .u8 0, .int .u8 0, .int .u8 0, .int .u8 0, .int .u8 0, .int .u8 0, .int .u8 0, .int .u8 0, .int .u8 0, .int .u8 0, .int .u8 0, .int .u8 0, .int .u8 0, .int .u8 0, .int .u8 0, .int .u8 0, .int .u8 0, .int .u8 0, .int .u8 0, .int .u8 0, .int .u8 0, .int .u8 0, .int .u8 0, .int .u8 0, .int .u8 0, .int .u8 0, .int .u8 0, .int .u8 0, .int .u8 0, .int .u8 0, .int .u8 0, .int .u8 0, .int .u8 0, .int .u8 0, .int .u8 0, .int .u8 0, .int .u8 0, .int .u8 0, .int .u8 0, .int .u8 0, .int .u8 0, .int .u8 0, .int .u8 0, .int .u8 0, .int .u8 0, .int .u8 0, .int .u8 0, .int .u8 0, .int .u8 0, .int .u8 0, .int .u8 0, .int .u8 0, .int .u8 0, .int .u8 0, .int .u8 0, .int .u8 0, .int .u8 0, .int .u8 0, .int .u8 0, .int .u8 0, .int .u8 0, .int .u8 0, .int .u8 0, .int .u8 0, .int .u8 0, .int .u8 0, .int .u8 0, .int .u8 0, .int .u8 0, .int .u8 0, .int .u8 0, .int .u8 0, .int .u8 0, .int .u8 0, .int .u8 0, .int .u8 0, .int .u8 0, .int .u8 0, .int .u8 0, .int .u8 0, .int .u8 0, .int .u8 0, .int .u8 0, .int .u8 0, .int .u8 0, .int .u8 0, .int .u8 0, .int .u8 0, .int .u8 0, .int .u8 0, .int .u8 0, .int .u8 0, .int .u8 0, .int .u8 0, .slice none 0 0]) ([0, 2].zip [.string s, .agg (tab cls).toArray]) = some (scn s 0 (.slice none 0 0)) := by
  rw [scn_zero]
  exact scn_fill0 _ _ _ _ _ _ (List.length_replicate ..) (tab_length _) rfl
def lexStep (s : ByteArray) (i : Nat) : Option (Nat × List Tok) :=
  if spN s i ≠ 0 then some (spN s i, [])
  else if wkind (s.extract i (i + wl s i)) ≠ 0 then some (wl s i, [⟨wkind (s.extract i (i + wl s i)), s.extract i (i + wl s i), i⟩])
  else if sgn s i ≠ 0 then some (sgn s i, [⟨3, s.extract i (i + sgn s i), i⟩])
  else none
def lexGo (s : ByteArray) : Nat → Nat → List Tok → Except Nat (List Tok)
  | 0, i, _ => .error i
  | f + 1, i, acc => if i < s.size then
      match lexStep s i with
      | some (n, t) => lexGo s f (i + n) (acc ++ t)
      | none => .error i
    else .ok (acc ++ [⟨4, s.extract i (i + 0), i⟩])
def lexAll (s : ByteArray) : Except (Nat × Int) (List Tok) := if 8000 < s.size then .error (0, 2) else match lexGo s (s.size + 1) 0 [] with
  | .error i => .error (i, 5)
  | .ok l => .ok l
theorem wkind_pos {s : ByteArray} {i n : Nat} (h : wkind (s.extract i (i + n)) ≠ 0) : n ≠ 0 := by
  rintro rfl
  apply h
  rw [wkind, if_pos]
  exact ByteArray.ext (by simp)
theorem lexStep_pos {s : ByteArray} {i n : Nat} {t : List Tok} (h : lexStep s i = some (n, t)) : 1 ≤ n ∧ t.length ≤ n := by
  unfold lexStep at h
  split at h
  · cases h; simp; omega
  · split at h
    · rename_i h2; have := wkind_pos h2; cases h; simp; omega
    · split at h
      · cases h; simp; omega
      · cases h

theorem c_lexer_Lex {s : ByteArray} {m : Mem} (G : Glob m) (hs : s.size ≤ 140737488355328) : Spec Tryz.prog 115 #[.string s] m [] (RetF fun m' v => match lexAll s with | .error (p, e) => v = .tuple #[.slice none 0 0, .int .i64 p, .int .i64 e] | .ok l => ∃ ad c, v = .tuple #[.slice ad l.length c, .int .i64 0, .int .i64 0] ∧ Slc m' 3 ad l.length c (tokCells l)) := by
  refine Spec.enter0 Tryz.func115 rfl 42 Tryz.ntmps115 rfl fun a w0 Lf A H => ?_
  have hM := Le.refl m
  refine wp_seq ?_
  refine wp_region_lit ?_
  refine step (Runs.assign A rfl) A rfl ?_; clear A a; intro a A
  refine step (Runs.assign A rfl) A rfl ?_; clear A a; intro a A
  refine step (Runs.assign A rfl) A rfl ?_; clear A a; intro a A
  refine wpList_nil ?_
  refine wp_scope_straight ?_
  refine wp_seq ?_
  refine wp_seq ?_
  refine wp_region_lit ?_
  refine step (Runs.move A rfl) A rfl ?_; clear A a; intro a A
  refine step (Runs.lenS A rfl StrC.h) A rfl ?_; clear A a; intro a A
  refine step (Runs.gtr A rfl rfl) A rfl ?_; clear A a; intro a A
  refine wpList_nil ?_
  refine cond_split A rfl (fun h1 => ?_) (fun h1 => ?_)
  · have g1 := h1
    try simp only [decide_eq_true_eq, decide_eq_false_iff_not, Bool.not_eq_true', Bool.not_eq_false', ne_eq, Decidable.not_not, Int.not_lt, Int.not_le] at g1
    refine wp_seq ?_
    refine wp_region_lit ?_
    refine step (Runs.assign A rfl) A rfl ?_; clear A a; intro a A
    refine step (Runs.assign A rfl) A rfl ?_; clear A a; intro a A
    refine step (Runs.assign A rfl) A rfl ?_; clear A a; intro a A
    refine wpList_nil ?_
    refine wp_ret ?_
    have e : lexAll s = .error (0, 2) := by rw [lexAll, if_pos (by omega)]
    exact retF3 A rfl rfl rfl rfl hM H (by simp only [e]; rfl)
  · have g1 := h1
    try simp only [decide_eq_true_eq, decide_eq_false_iff_not, Bool.not_eq_true', Bool.not_eq_false', ne_eq, Decidable.not_not, Int.not_lt, Int.not_le] at g1
    refine wp_skip ?_
    refine wp_seq ?_
    refine wp_region_lit ?_
    refine step (Runs.move A rfl) A rfl ?_; clear A a; intro a A
    refine step_callF A rfl rfl (c_lexer_classOf) H ?_
    rintro v3_1 a w m hm rfl A H
    have hM := hM.trans hm
    have G := G.mono hm
    refine step (Runs.build A rfl rfl (scn_fill s)) A rfl ?_; clear A a; intro a A
    refine step_box A H rfl (by simp only [Value.cells, List.toList_toArray]; rfl) rfl ?_; intro b1 a w A H
    refine step (Runs.assign A rfl) A rfl ?_; clear A a; intro a A
    refine wpList_nil ?_
    refine wp_seq ?_
    refine wp_region_lit ?_
    refine step (Runs.buildArr A rfl rfl rfl) A rfl ?_; clear A a; intro a A
    refine step_alloc A H rfl ?_; clear A a; intro b2 a w A H
    refine step_store A H rfl rfl rfl rfl rfl rfl ?_; intro w H
    refine wpList_nil ?_
    refine wp_seq ?_
    refine wp_label ?_
    refine wp_seq ?_
    refine wp_block ?_
    have H := H.row_nil 170 3
    have H := H.perm ((List.Perm.cons _ (List.Perm.swap _ _ _)).trans (List.Perm.swap _ _ _))
    refine wp_loop_ghost (fun q a w => ∃ (i : Nat) (toks : List Tok) (ad : Option Addr) (c : Nat) (m' : Mem), q = s.size + 1 - i ∧ (i ≤ s.size ∧ toks.length ≤ i ∧ ∃ f, s.size < i + f ∧ lexGo s f i toks = lexGo s (s.size + 1) 0 []) ∧ Le m m' ∧ Fr 42 a [(0, .string s), (5, .pointer (some ⟨b1, 0, none⟩)), (6, .pointer (some ⟨b2, 0, none⟩))] [] ∧ St w0 w m' (pt b1 (scn s i (.slice ad toks.length c)) 244 :: row 170 3 ad toks.length c (tokCells toks) :: pt b2 [.func (.func 147) #[] #[], .func (.func 148) #[] #[], .func (.func 149) #[] #[]] 246 :: Lf)) _ ⟨0, [], none, 0, m, rfl, ⟨by omega, by simp, s.size + 1, by omega, rfl⟩, Le.refl m, (Fr.cons A rfl (Fr.cons A rfl (Fr.cons A rfl (Fr.nil A)))), H⟩ ?_
    clear A H; rintro q a w ⟨i, toks, ad, c, m, rfl, hinv, hm, A, H⟩
    have hM := hM.trans hm
    have G := G.mono hm
    have hl1 := hm
    obtain ⟨hi, htk, fu, hfu, hgo⟩ := hinv
    refine wp_seq ?_
    refine wp_seq ?_
    refine wp_region_lit ?_
    refine step (Runs.move A rfl) A rfl ?_; clear A a; intro a A
    refine step (Runs.nilCheck A rfl) A rfl ?_; clear A a; intro a A
    refine step (Runs.fa A rfl) A rfl ?_; clear A a; intro a A
    refine step (Runs.ld1 A H rfl rfl) A rfl ?_; clear A a; intro a A
    refine step (Runs.move A rfl) A rfl ?_; clear A a; intro a A
    refine step (Runs.lenS A rfl StrC.h) A rfl ?_; clear A a; intro a A
    refine step (Runs.lss A rfl rfl) A rfl ?_; clear A a; intro a A
    refine wpList_nil ?_
    refine cond_split A rfl (fun h2 => ?_) (fun h2 => ?_)
    · have g2 := h2
      try simp only [decide_eq_true_eq, decide_eq_false_iff_not, Bool.not_eq_true', Bool.not_eq_false', ne_eq, Decidable.not_not, Int.not_lt, Int.not_le] at g2
      refine wp_skip ?_
      refine wp_block ?_
      refine wp_seq ?_
      refine wp_seq ?_
      refine wp_region_lit ?_
      refine step (Runs.ldN A H rfl rfl) A rfl ?_; clear A a; intro a A
      refine step (Runs.move A rfl) A rfl ?_; clear A a; intro a A
      refine wpList_nil ?_
      refine wp_block ?_
      refine wp_loop_ghost (fun q a w => ∃ (j : Nat) (m' : Mem), q = 4 - j ∧ (j ≤ 3 ∧ (0 < j → spN s i = 0) ∧ (1 < j → wkind (s.extract i (i + wl s i)) = 0) ∧ (2 < j → sgn s i = 0)) ∧ Le m m' ∧ Fr 42 a [(0, .string s), (5, .pointer (some ⟨b1, 0, none⟩)), (6, .pointer (some ⟨b2, 0, none⟩)), (24, .agg #[.func (.func 147) #[] #[], .func (.func 148) #[] #[], .func (.func 149) #[] #[]]), (25, .int .i64 j)] [] ∧ St w0 w m' (pt b1 (scn s i (.slice ad toks.length c)) 244 :: row 170 3 ad toks.length c (tokCells toks) :: pt b2 [.func (.func 147) #[] #[], .func (.func 148) #[] #[], .func (.func 149) #[] #[]] 246 :: Lf)) _ ⟨0, m, rfl, ⟨by omega, fun h => absurd h (by omega), fun h => absurd h (by omega), fun h => absurd h (by omega)⟩, Le.refl m, (Fr.cons A rfl (Fr.cons A rfl (Fr.cons A rfl (Fr.cons A rfl (Fr.cons A rfl (Fr.nil A)))))), H⟩ ?_
      clear A H; rintro q a w ⟨j, m, rfl, hinv, hm, A, H⟩
      have hM := hM.trans hm
      have hl1 := hl1.trans hm
      have G := G.mono hm
      have hl2 := hm
      obtain ⟨hj, hf0, hf1, hf2⟩ := hinv
      refine wp_seq ?_
      refine wp_region_lit ?_
      refine step (Runs.lss A rfl rfl) A rfl ?_; clear A a; intro a A
      refine wpList_nil ?_
      refine wp_seq ?_
      refine cond_split A rfl (fun h3 => ?_) (fun h3 => ?_)
      · have g3 := h3
        try simp only [decide_eq_true_eq, decide_eq_false_iff_not, Bool.not_eq_true', Bool.not_eq_false', ne_eq, Decidable.not_not, Int.not_lt, Int.not_le] at g3
        refine wp_skip ?_
        refine wp_seq ?_
        refine wp_block ?_
        refine wp_seq ?_
        refine wp_region_lit ?_
        obtain ⟨fv, hfv, hcase⟩ : ∃ v, ([.func (.func 147) #[] #[], .func (.func 148) #[] #[], .func (.func 149) #[] #[]] : List Value)[j]? = some v ∧ (j = 0 ∧ v = .func (.func 147) #[] #[] ∨ j = 1 ∧ v = .func (.func 148) #[] #[] ∨ j = 2 ∧ v = .func (.func 149) #[] #[]) := by
          have : j = 0 ∨ j = 1 ∨ j = 2 := by omega
          rcases this with rfl | rfl | rfl
          · exact ⟨_, rfl, .inl ⟨rfl, rfl⟩⟩
          · exact ⟨_, rfl, .inr (.inl ⟨rfl, rfl⟩)⟩
          · exact ⟨_, rfl, .inr (.inr ⟨rfl, rfl⟩)⟩
        refine step (Runs.indexArrV A rfl rfl (v := fv) (by omega) (by omega) (by simpa using hfv)) A rfl ?_; clear A a; intro a A
        refine step (Runs.assign A rfl) A rfl ?_; clear A a; intro a A
        rcases hcase with ⟨hj0, rfl⟩ | ⟨hj0, rfl⟩ | ⟨hj0, rfl⟩
        · refine wpList_nil ?_
          refine wp_seq ?_
          refine wp_region_lit ?_
          refine step (Runs.move A rfl) A rfl ?_; clear A a; intro a A
          refine step (Runs.move A rfl) A rfl ?_; clear A a; intro a A
          refine step_cloS A rfl rfl rfl (c_lexer_scanner_space (b := b1) (i := i) (s := s) (tv := .slice ad toks.length c) (by omega) (by omega)) H ?_
          rintro v9_2 a w m L' hm hpost A H
          have hM := hM.trans hm
          have hl1 := hl1.trans hm
          have hl2 := hl2.trans hm
          have G := G.mono hm
          rcases hpost with hpost | hpost
          · obtain ⟨hz, rfl, rfl⟩ := hpost
            obtain ⟨nn, tt, ad2, c2, hst, hnn, H⟩ : ∃ (nn : Nat) (tt : List Tok) (ad2 : Option Addr) (c2 : Nat), lexStep s i = some (nn, tt) ∧ i + nn ≤ s.size ∧ St w0 w m (pt b1 (scn s ((i + nn : Nat) : Int) (.slice ad2 (toks ++ tt).length c2)) 244 :: row 170 3 ad2 (toks ++ tt).length c2 (tokCells (toks ++ tt)) :: pt b2 [.func (.func 147) #[] #[], .func (.func 148) #[] #[], .func (.func 149) #[] #[]] 246 :: Lf) := ⟨spN s i, [], ad, c, by rw [lexStep, if_pos hz], spN_le s i (by omega), by rw [List.append_nil, Int.natCast_add]; exact H⟩
            refine wpList_nil ?_
            refine cond_true A rfl rfl ?_
            refine wp_exit ?_
            have hpos := lexStep_pos hst
            obtain ⟨fu', rfl⟩ : ∃ q, fu = q + 1 := ⟨fu - 1, by omega⟩
            have hgo2 : lexGo s fu' (i + nn) (toks ++ tt) = lexGo s (s.size + 1) 0 [] := by rw [← hgo]; simp only [lexGo]; rw [if_pos (show i < s.size by omega), hst]
            exact ⟨_, by omega, i + nn, toks ++ tt, ad2, c2, m, rfl, ⟨by omega, by rw [List.length_append]; omega, fu', by omega, hgo2⟩, hl1, (Fr.cons A rfl (Fr.cons A rfl (Fr.cons A rfl (Fr.nil A)))), H⟩
          · obtain ⟨hz, rfl, rfl⟩ := hpost
            simp only [List.cons_append, List.nil_append] at H
            have q0 : spN s i = 0 := hz
            refine wpList_nil ?_
            refine cond_false A rfl rfl ?_
            refine wp_skip ?_
            refine wp_region_lit ?_
            refine step (Runs.add A rfl rfl (by omega)) A rfl ?_; clear A a; intro a A
            refine step (Runs.move A rfl) A rfl ?_; clear A a; intro a A
            refine wpList_nil ?_
            exact ⟨_, by omega, j + 1, m, rfl, ⟨by omega, by intro _; first | exact q0 | (exfalso; omega), by intro _; first | exact q1 | (exfalso; omega), by intro _; first | exact q2 | (exfalso; omega)⟩, hl2, (Fr.cons A rfl (Fr.cons A rfl (Fr.cons A rfl (Fr.cons A rfl (Fr.cons A rfl (Fr.nil A)))))), H⟩
        · refine wpList_nil ?_
          refine wp_seq ?_
          refine wp_region_lit ?_
          refine step (Runs.move A rfl) A rfl ?_; clear A a; intro a A
          refine step (Runs.move A rfl) A rfl ?_; clear A a; intro a A
          refine step_cloS A rfl rfl rfl (c_lexer_scanner_word (b := b1) (i := i) (s := s) (ad := ad) (c := c) (toks := toks) G (by omega) (by omega) (by omega)) H ?_
          rintro v9_2 a w m L' hm hpost A H
          have hM := hM.trans hm
          have hl1 := hl1.trans hm
          have hl2 := hl2.trans hm
          have G := G.mono hm
          rcases hpost with hpost | hpost
          · obtain ⟨hz, rfl, ad', c', rfl⟩ := hpost
            obtain ⟨nn, tt, ad2, c2, hst, hnn, H⟩ : ∃ (nn : Nat) (tt : List Tok) (ad2 : Option Addr) (c2 : Nat), lexStep s i = some (nn, tt) ∧ i + nn ≤ s.size ∧ St w0 w m (pt b1 (scn s ((i + nn : Nat) : Int) (.slice ad2 (toks ++ tt).length c2)) 244 :: row 170 3 ad2 (toks ++ tt).length c2 (tokCells (toks ++ tt)) :: pt b2 [.func (.func 147) #[] #[], .func (.func 148) #[] #[], .func (.func 149) #[] #[]] 246 :: Lf) := ⟨wl s i, _, ad', c', by rw [lexStep, if_neg (by rw [Decidable.not_not]; exact hf0 (by omega)), if_pos hz], wl_le s i (by omega), by rw [Int.natCast_add, List.length_append]; exact H⟩
            refine wpList_nil ?_
            refine cond_true A rfl rfl ?_
            refine wp_exit ?_
            have hpos := lexStep_pos hst
            obtain ⟨fu', rfl⟩ : ∃ q, fu = q + 1 := ⟨fu - 1, by omega⟩
            have hgo2 : lexGo s fu' (i + nn) (toks ++ tt) = lexGo s (s.size + 1) 0 [] := by rw [← hgo]; simp only [lexGo]; rw [if_pos (show i < s.size by omega), hst]
            exact ⟨_, by omega, i + nn, toks ++ tt, ad2, c2, m, rfl, ⟨by omega, by rw [List.length_append]; omega, fu', by omega, hgo2⟩, hl1, (Fr.cons A rfl (Fr.cons A rfl (Fr.cons A rfl (Fr.nil A)))), H⟩
          · obtain ⟨hz, rfl, rfl⟩ := hpost
            simp only [List.cons_append, List.nil_append] at H
            have q0 : spN s i = 0 := hf0 (by omega)
            have q1 := hz
            refine wpList_nil ?_
            refine cond_false A rfl rfl ?_
            refine wp_skip ?_
            refine wp_region_lit ?_
            refine step (Runs.add A rfl rfl (by omega)) A rfl ?_; clear A a; intro a A
            refine step (Runs.move A rfl) A rfl ?_; clear A a; intro a A
            refine wpList_nil ?_
            exact ⟨_, by omega, j + 1, m, rfl, ⟨by omega, by intro _; first | exact q0 | (exfalso; omega), by intro _; first | exact q1 | (exfalso; omega), by intro _; first | exact q2 | (exfalso; omega)⟩, hl2, (Fr.cons A rfl (Fr.cons A rfl (Fr.cons A rfl (Fr.cons A rfl (Fr.cons A rfl (Fr.nil A)))))), H⟩
        · refine wpList_nil ?_
          refine wp_seq ?_
          refine wp_region_lit ?_
          refine step (Runs.move A rfl) A rfl ?_; clear A a; intro a A
          refine step (Runs.move A rfl) A rfl ?_; clear A a; intro a A
          refine step_cloS A rfl rfl rfl (c_lexer_scanner_sign (b := b1) (i := i) (s := s) (ad := ad) (c := c) (toks := toks) (by omega) (by omega) (by omega)) H ?_
          rintro v9_2 a w m L' hm hpost A H
          have hM := hM.trans hm
          have hl1 := hl1.trans hm
          have hl2 := hl2.trans hm
          have G := G.mono hm
          rcases hpost with hpost | hpost
          · obtain ⟨hz, rfl, ad', c', rfl⟩ := hpost
            obtain ⟨nn, tt, ad2, c2, hst, hnn, H⟩ : ∃ (nn : Nat) (tt : List Tok) (ad2 : Option Addr) (c2 : Nat), lexStep s i = some (nn, tt) ∧ i + nn ≤ s.size ∧ St w0 w m (pt b1 (scn s ((i + nn : Nat) : Int) (.slice ad2 (toks ++ tt).length c2)) 244 :: row 170 3 ad2 (toks ++ tt).length c2 (tokCells (toks ++ tt)) :: pt b2 [.func (.func 147) #[] #[], .func (.func 148) #[] #[], .func (.func 149) #[] #[]] 246 :: Lf) := ⟨sgn s i, _, ad', c', by rw [lexStep, if_neg (by rw [Decidable.not_not]; exact hf0 (by omega)), if_neg (by rw [Decidable.not_not]; exact hf1 (by omega)), if_pos hz], sgn_le s i (by omega), by rw [Int.natCast_add, List.length_append]; exact H⟩
            refine wpList_nil ?_
            refine cond_true A rfl rfl ?_
            refine wp_exit ?_
            have hpos := lexStep_pos hst
            obtain ⟨fu', rfl⟩ : ∃ q, fu = q + 1 := ⟨fu - 1, by omega⟩
            have hgo2 : lexGo s fu' (i + nn) (toks ++ tt) = lexGo s (s.size + 1) 0 [] := by rw [← hgo]; simp only [lexGo]; rw [if_pos (show i < s.size by omega), hst]
            exact ⟨_, by omega, i + nn, toks ++ tt, ad2, c2, m, rfl, ⟨by omega, by rw [List.length_append]; omega, fu', by omega, hgo2⟩, hl1, (Fr.cons A rfl (Fr.cons A rfl (Fr.cons A rfl (Fr.nil A)))), H⟩
          · obtain ⟨hz, rfl, rfl⟩ := hpost
            simp only [List.cons_append, List.nil_append] at H
            have q0 : spN s i = 0 := hf0 (by omega)
            have q1 := hf1 (by omega)
            have q2 := hz
            refine wpList_nil ?_
            refine cond_false A rfl rfl ?_
            refine wp_skip ?_
            refine wp_region_lit ?_
            refine step (Runs.add A rfl rfl (by omega)) A rfl ?_; clear A a; intro a A
            refine step (Runs.move A rfl) A rfl ?_; clear A a; intro a A
            refine wpList_nil ?_
            exact ⟨_, by omega, j + 1, m, rfl, ⟨by omega, by intro _; first | exact q0 | (exfalso; omega), by intro _; first | exact q1 | (exfalso; omega), by intro _; first | exact q2 | (exfalso; omega)⟩, hl2, (Fr.cons A rfl (Fr.cons A rfl (Fr.cons A rfl (Fr.cons A rfl (Fr.cons A rfl (Fr.nil A)))))), H⟩
      · have g3 := h3
        try simp only [decide_eq_true_eq, decide_eq_false_iff_not, Bool.not_eq_true', Bool.not_eq_false', ne_eq, Decidable.not_not, Int.not_lt, Int.not_le] at g3
        refine wp_exit ?_
        refine wp_seq ?_
        refine draw_begin0 (by kernel_rfl) (N := 7) rfl (by kernel_rfl) H ?_; clear H; intro w H hR
        have hS : SW m _ w := ⟨_, H⟩
        have hL := Le.refl m
        refine dstep hR (i := 0) rfl (by kernel_rfl) (fun _ _ _ h => h) (fun _ _ H' => (Runs.move A rfl)) A rfl hS ?_; clear A a hR; intro a A hR
        refine dstep hR (i := 1) rfl (by kernel_rfl) (fun _ _ _ h => h) (fun _ _ H' => (Runs.nilCheck A rfl)) A rfl hS ?_; clear A a hR; intro a A hR
        refine dstep hR (i := 2) rfl (by kernel_rfl) (fun _ _ _ h => h) (fun _ _ H' => (Runs.fa A rfl)) A rfl hS ?_; clear A a hR; intro a A hR
        refine dstep hR (i := 3) rfl (by kernel_rfl) (fun _ _ _ h => h) (fun _ _ H' => (Runs.ld1 A H' rfl rfl)) A rfl hS ?_; clear A a hR; intro a A hR
        refine dstep hR (i := 4) rfl (by kernel_rfl) (fun _ _ _ h => h) (fun _ _ H' => (Runs.assign A rfl)) A rfl hS ?_; clear A a hR; intro a A hR
        refine dstep hR (i := 5) rfl (by kernel_rfl) (fun _ _ _ h => h) (fun _ _ H' => (Runs.assign A rfl)) A rfl hS ?_; clear A a hR; intro a A hR
        refine dstep hR (i := 6) rfl (by kernel_rfl) (fun _ _ _ h => h) (fun _ _ H' => (Runs.assign A rfl)) A rfl hS ?_; clear A a hR; intro a A hR
        refine draw_done hR (by kernel_rfl) ?_
        clear hS hL hR
        refine wp_ret ?_
        have hj3 : j = 3 := by omega
        have hst : lexStep s i = none := by rw [lexStep, if_neg (by rw [Decidable.not_not]; exact hf0 (by omega)), if_neg (by rw [Decidable.not_not]; exact hf1 (by omega)), if_neg (by rw [Decidable.not_not]; exact hf2 (by omega))]
        obtain ⟨fu', rfl⟩ : ∃ q, fu = q + 1 := ⟨fu - 1, by omega⟩
        have e : lexAll s = .error (i, 5) := by
          rw [lexAll, if_neg (by omega), ← hgo]; simp only [lexGo]; rw [if_pos (show i < s.size by omega), hst]
        exact retF3 A rfl rfl rfl rfl hM H (by simp only [e])
    · have g2 := h2
      try simp only [decide_eq_true_eq, decide_eq_false_iff_not, Bool.not_eq_true', Bool.not_eq_false', ne_eq, Decidable.not_not, Int.not_lt, Int.not_le] at g2
      refine wp_exit ?_
      refine wp_seq ?_
      refine wp_region_lit ?_
      refine step (Runs.move A rfl) A rfl ?_; clear A a; intro a A
      refine step_callS A rfl rfl (c_lexer_scanner_take (b := b1) (s := s) (i := i) (k := 0) (ad := ad) (c := c) (toks := toks) (by omega) (by omega) (by omega)) H ?_
      rintro v12_1 a w m L' hm ⟨rfl, ad3, c3, rfl⟩ A H
      simp only [List.cons_append, List.nil_append] at H
      have hM := hM.trans hm
      have G := G.mono hm
      refine wpList_nil ?_
      refine wp_seq ?_
      refine wp_region_lit ?_
      refine step (Runs.move A rfl) A rfl ?_; clear A a; intro a A
      refine step (Runs.nilCheck A rfl) A rfl ?_; clear A a; intro a A
      refine step (Runs.fa A rfl) A rfl ?_; clear A a; intro a A
      refine step (Runs.ld1 A H rfl (scn_tok _ _ _)) A rfl ?_; clear A a; intro a A
      refine step (Runs.assign A rfl) A rfl ?_; clear A a; intro a A
      refine step (Runs.assign A rfl) A rfl ?_; clear A a; intro a A
      refine step (Runs.assign A rfl) A rfl ?_; clear A a; intro a A
      refine wpList_nil ?_
      refine wp_ret ?_
      obtain ⟨fu', rfl⟩ : ∃ q, fu = q + 1 := ⟨fu - 1, by omega⟩
      have e : lexAll s = .ok (toks ++ [⟨4, s.extract i (i + 0), i⟩]) := by
        rw [lexAll, if_neg (by omega), ← hgo]; simp only [lexGo]; rw [if_neg (show ¬ i < s.size by omega)]
      obtain ⟨m2, hm2, hslc, H⟩ := H.drop.row_freeze
      exact retF3 A rfl rfl rfl rfl (hM.trans hm2) H (by simp only [e]; exact ⟨ad3, c3, by rw [List.length_append]; rfl, by rw [List.length_append]; exact hslc⟩)
end Sl
end Go.Proofs.YtanhehbfbakdcaaGreatDoor
/- A printer in memory: its bytes and whether all is well. Own work. -/
set_option linter.unusedVariables false
set_option linter.unusedSimpArgs false
namespace Go.Proofs.YtanhehbfbakdcaaGreatDoor
namespace Sl
open Go Go.RowKit
abbrev bl (s : ByteArray) : List UInt8 := s.data.toList
structure PS where
  t : List UInt8
  ok : Bool
def prR (b : Nat) (x : PS) (B : Nat) : Res := ex fun q : Option Addr × Option Addr × Nat => star (pt b [.pointer q.1, .slice q.2.1 x.t.length q.2.2, .bool x.ok] 117) (star (row 5 1 q.2.1 x.t.length q.2.2 (x.t.map u8)) (pure ((q.1 = none ∨ q.1 = some ⟨b, 0, none⟩) ∧ (x.t = [] → q.2.1 = none) ∧ x.t.length ≤ B)))
class HasPr (L : List Res) (b : Nat) (x : outParam PS) (B : outParam Nat) (L' : outParam (List Res)) : Prop where
  p : L.Perm (prR b x B :: L')
instance (priority := high) HasPr.head {b B : Nat} {x : PS} {L : List Res} : HasPr (prR b x B :: L) b x B L := ⟨.refl _⟩
instance (priority := low) HasPr.tail {b B : Nat} {x : PS} {r : Res} {L L' : List Res} [h : HasPr L b x B L'] : HasPr (r :: L) b x B (r :: L') := ⟨(List.Perm.cons r h.p).trans (.swap _ _ _)⟩
section
variable {w0 w : World} {m : Mem} {L L' : List Res} {b B : Nat} {x : PS}
theorem St.pr_open [h : HasPr L b x B L'] (H : St w0 w m L) : ∃ pa ad c, (pa = none ∨ pa = some ⟨b, 0, none⟩) ∧ (x.t = [] → ad = none) ∧ x.t.length ≤ B ∧
    St w0 w m (pt b [.pointer pa, .slice ad x.t.length c, .bool x.ok] 117 :: row 5 1 ad x.t.length c (x.t.map u8) :: L') := by
  obtain ⟨q, H1⟩ := St.unex (H.perm h.p)
  have H2 := H1.unstar
  have H3 := H2.perm (List.Perm.swap _ _ _)
  have H4 := H3.unstar
  have H5 := H4.perm (List.Perm.swap _ _ _)
  obtain ⟨⟨h1, h2, h3⟩, H6⟩ := H5.unpure
  exact ⟨_, _, _, h1, h2, h3, H6.perm (List.Perm.swap _ _ _)⟩
theorem St.pr_close {pa ad : Option Addr} {c n : Nat} {ok : Bool} {t : List UInt8} (H : St w0 w m (pt b [.pointer pa, .slice ad n c, .bool ok] 117 :: row 5 1 ad n c (t.map u8) :: L)) (h1 : pa = none ∨ pa = some ⟨b, 0, none⟩) (h2 : t = [] → ad = none) (h3 : t.length ≤ B) : St w0 w m (prR b ⟨t, ok⟩ B :: L) := by
  have H1 := H.perm (List.Perm.swap _ _ _)
  have hl := H1.row_len
  have hn : n = t.length := by have := hl.1; simpa using this.symm
  subst hn
  have H2 := (H1.mkpure (p := (pa = none ∨ pa = some ⟨b, 0, none⟩) ∧ (t = [] → ad = none) ∧ t.length ≤ B) ⟨h1, h2, h3⟩).perm (List.Perm.swap _ _ _)
  have H3 := H2.mkstar
  have H4 := (H3.perm (List.Perm.swap _ _ _)).mkstar
  exact St.mkex (x := (pa, ad, c)) (r := fun q : Option Addr × Option Addr × Nat => star (pt b [.pointer q.1, .slice q.2.1 t.length q.2.2, .bool ok] 117) (star (row 5 1 q.2.1 t.length q.2.2 (t.map u8)) (pure ((q.1 = none ∨ q.1 = some ⟨b, 0, none⟩) ∧ (t = [] → q.2.1 = none) ∧ t.length ≤ B)))) H4
theorem St.pr_le {B' : Nat} [h : HasPr L b x B L'] (H : St w0 w m L) (hB : B ≤ B') : St w0 w m (prR b x B' :: L') := by
  obtain ⟨pa, ad, c, h1, h2, h3, H1⟩ := H.pr_open (b := b)
  exact H1.pr_close h1 h2 (by omega)
theorem St.pr_at {y : PS} [h : HasPr L b x B L'] (H : St w0 w m L) (e : x = y) : St w0 w m (prR b y B :: L') := by subst e; exact H.perm h.p
end
/-- A function that writes: what it makes of the printer, at most how many bytes it adds. -/
def PrSpec (P : Program) (f : FuncId) (args : List Value) (m : Mem) (b : Nat) (Lc : List Res) (g : PS → PS) (k : Nat) (Rv : Mem → Value → Prop) : Prop :=
  ∀ x B, B + k ≤ 1000000000000 → Spec P f args.toArray m (prR b x B :: Lc) (RetV fun m' v L' => Rv m' v ∧ L' = prR b (g x) (B + k) :: Lc)
section
variable {P : Program} {n : Nat} {a : Act} {F : List (Nat × Value)} {D : List Deferred} {w0 w : World} {m m0 : Mem} {L L1 Lc Lf : List Res} {ops : Array Oper} {Q : Exit → Act → World → Prop} {rest : List Oper}
variable {d t : Nat} {pos : String} {after : Array Edge} {xs : List Operand} {vs cap : List Value} {f b B k : Nat} {tys : Array TypeId} {x : PS} {g : PS → PS} {Rv : Mem → Value → Prop}
theorem step_callPr [hf : FnC P f] (A : Fr n a F D) (hx : evs F xs = some vs) (hd : Nat.blt d n = true) (S : PrSpec P f vs m b Lc g k Rv) (H : St w0 w m L) [hp : HasPr L b x B L1] [hs : Sel L1 Lc Lf] (hB : B + k ≤ 1000000000000)
    (K : ∀ v a' w' m', Le m m' → Rv m' v → Fr n a' ((d, v) :: F) D → St w0 w' m' (prR b (g x) (B + k) :: (Lc ++ Lf)) → wpList P ops Q rest a' w') :
    wpList P ops Q (⟨some d, .call { callee := .value (.func f), args := xs.toArray, argTypes := tys }, t, pos, after, none⟩ :: rest) a w :=
  step_call (Lc := prR b x B :: Lc) (Lf := Lf) A hx hd (S x B hB) (H.perm (hp.p.trans (List.Perm.cons _ hs.p))) fun v a' w' m' _ hm ⟨h1, h2⟩ A' H' => K v a' w' m' hm h1 A' (by subst h2; exact H')
theorem step_cloPr {y : Operand} [hf : FnC P f] (A : Fr n a F D) (hc : ev F y = some (.func (.func f) #[] cap.toArray)) (hx : evs F xs = some vs) (hd : Nat.blt d n = true) (S : PrSpec P f (vs ++ cap) m b Lc g k Rv) (H : St w0 w m L) [hp : HasPr L b x B L1] [hs : Sel L1 Lc Lf] (hB : B + k ≤ 1000000000000)
    (K : ∀ v a' w' m', Le m m' → Rv m' v → Fr n a' ((d, v) :: F) D → St w0 w' m' (prR b (g x) (B + k) :: (Lc ++ Lf)) → wpList P ops Q rest a' w') :
    wpList P ops Q (⟨some d, .call { callee := .value y, args := xs.toArray, argTypes := tys }, t, pos, after, none⟩ :: rest) a w :=
  step_clo (Lc := prR b x B :: Lc) (Lf := Lf) A hc hx hd (S x B hB) (H.perm (hp.p.trans (List.Perm.cons _ hs.p))) fun v a' w' m' _ hm ⟨h1, h2⟩ A' H' => K v a' w' m' hm h1 A' (by subst h2; exact H')
theorem clo_runsB {y : Operand} {fs : List Value} [hf : FnC P f] (A : Fr n a F D) (hc : ev F y = some (.func (.func f) fs.toArray cap.toArray)) (hx : evs F xs = some vs) : ∀ dst t pos after guard, (execOp a.eval ⟨dst, .call { callee := .value y, args := xs.toArray, argTypes := tys }, t, pos, after, guard⟩).run P w = .ok (.enter f (fs ++ vs ++ cap).toArray) w := by
  intro _ _ _ _ _
  have := A.evs hx
  simp only [execOp, resolve, A.ev hc, Deferred.ofValue, List.map_toArray, this, Sem.run_bind, Sem.run_pure, Result.andThen_ok, invoke]
  simpa using hf.h (fs ++ vs ++ cap).toArray w
theorem step_cloPrB {y : Operand} {fs : List Value} [hf : FnC P f] (A : Fr n a F D) (hc : ev F y = some (.func (.func f) fs.toArray cap.toArray)) (hx : evs F xs = some vs) (hd : Nat.blt d n = true) (S : PrSpec P f (fs ++ vs ++ cap) m b Lc g k Rv) (H : St w0 w m L) [hp : HasPr L b x B L1] [hs : Sel L1 Lc Lf] (hB : B + k ≤ 1000000000000)
    (K : ∀ v a' w' m', Le m m' → Rv m' v → Fr n a' ((d, v) :: F) D → St w0 w' m' (prR b (g x) (B + k) :: (Lc ++ Lf)) → wpList P ops Q rest a' w') :
    wpList P ops Q (⟨some d, .call { callee := .value y, args := xs.toArray, argTypes := tys }, t, pos, after, none⟩ :: rest) a w :=
  wpList_plain rfl fun _ hK => oper_call (clo_runsB A hc hx _ _ _ _ _) rfl (S x B hB) (H.perm (hp.p.trans (List.Perm.cons _ hs.p))) fun v w' m' _ hm ⟨h1, h2⟩ H' => hK _ _ (K v _ w' m' hm h1 (A.put hd v) (by subst h2; exact H'))
/-- the end of such a function -/
theorem endPr {fn : Func} {y : PS} {B' : Nat} (A : Fr n a F []) (hr : fn.results = #[]) (hM : Le m0 m) (H : St w0 w m L) [hp : HasPr L b y B L1] [hs : SubA Lc Lf L1] (h : Rv m (.tuple #[])) (e : y = g x) (hB : B ≤ B' + k) :
    bodyPost P fn (fun e w' => ∃ m' L', Le m0 m' ∧ RetV (fun m' v L' => Rv m' v ∧ L' = prR b (g x) (B' + k) :: Lc) m' e L' ∧ St w0 w' m' (L' ++ Lf)) .normal a w :=
  end_none A hr ⟨m, _, hM, ⟨h, rfl⟩, by
    have H1 := (H.pr_le (b := b) hB).pr_at (b := b) e
    exact @St.subH _ _ _ _ _ (@SubH.keep (prR b (g x) (B' + k)) L1 (Lc ++ Lf) hs.h) H1⟩
theorem retPr {fn : Func} {y : PS} {B' : Nat} (A : Fr n a F []) (hr : fn.results = #[]) (hM : Le m0 m) (H : St w0 w m L) [hp : HasPr L b y B L1] [hs : SubA Lc Lf L1] (h : Rv m (.tuple #[])) (e : y = g x) (hB : B ≤ B' + k) :
    bodyPost P fn (fun e w' => ∃ m' L', Le m0 m' ∧ RetV (fun m' v L' => Rv m' v ∧ L' = prR b (g x) (B' + k) :: Lc) m' e L' ∧ St w0 w' m' (L' ++ Lf)) .ret a w :=
  ret_none A hr ⟨m, _, hM, ⟨h, rfl⟩, by
    have H1 := (H.pr_le (b := b) hB).pr_at (b := b) e
    exact @St.subH _ _ _ _ _ (@SubH.keep (prR b (g x) (B' + k)) L1 (Lc ++ Lf) hs.h) H1⟩

theorem retPr2 {fn : Func} {y : PS} {B' s1 s2 : Nat} {v1 v2 : Value} (A : Fr n a F []) (hr : fn.results = #[.tmp s1, .tmp s2]) (hv1 : lk F s1 = some v1) (hv2 : lk F s2 = some v2) (hM : Le m0 m) (H : St w0 w m L) [hp : HasPr L b y B L1] [hs : SubA Lc Lf L1] (h : Rv m (.tuple #[v1, v2])) (e : y = g x) (hB : B ≤ B' + k) :
    bodyPost P fn (fun e w' => ∃ m' L', Le m0 m' ∧ RetV (fun m' v L' => Rv m' v ∧ L' = prR b (g x) (B' + k) :: Lc) m' e L' ∧ St w0 w' m' (L' ++ Lf)) .ret a w :=
  ret_tmp2 A hr hv1 hv2 ⟨m, _, hM, ⟨h, rfl⟩, by
    have H1 := (H.pr_le (b := b) hB).pr_at (b := b) e
    exact @St.subH _ _ _ _ _ (@SubH.keep (prR b (g x) (B' + k)) L1 (Lc ++ Lf) hs.h) H1⟩
/-! ### Pointers turned to unsafe ones and back; bytes turned to a string -/
theorem St.shape {e : Nat} {cs : List Value} (H : St w0 w m (pt b cs e :: L)) : w.shape? b = some (e, cs.length) := by simp [World.shape?, H.block]
theorem Runs.toUnsafe {src dst t2 tb off : Nat} {x : Operand} {cs : List Value} {L' : List Res} (A : Fr n a F D) (H : St w0 w m L) (hx : ev F x = some (.pointer (some ⟨b, off, none⟩))) [hp : HasPt L b cs tb L'] (hs : P.underlying src = some (.pointer t2)) (hd : P.underlying dst = some .unsafePointer) (ht : (P.info? t2).map (fun i => Nat.beq i.size 0) = some false) (hoff : off < cs.length) :
    Runs P a w (.convert src dst x) (.pointer (some ⟨b, off, none⟩)) := by
  intro _ _ _ _ _
  obtain ⟨j, hj, hjs⟩ := Option.map_eq_some_iff.1 ht
  have := Lib.run_to_unsafe (P := P) w ⟨b, off, none⟩ hs hd hj (fun h => by rw [h] at hjs; cases hjs) (St.shape (H.perm hp.p)) hoff
  simp only [execOp, A.ev hx, Sem.run_bind, this, Result.andThen_ok, Sem.run_pure]
theorem Runs.fromUnsafe {src dst u tb off : Nat} {x : Operand} {cs : List Value} {L' : List Res} (A : Fr n a F D) (H : St w0 w m L) (hx : ev F x = some (.pointer (some ⟨b, off, none⟩))) [hp : HasPt L b cs tb L'] (hs : P.underlying src = some .unsafePointer) (hd : P.underlying dst = some (.pointer u)) (hu : (P.info? u).isSome = true) (hl : liesAt P P.depth tb (cs.length / P.cellsOf tb) off u 1 = true) :
    Runs P a w (.convert src dst x) (.pointer (some ⟨b, off, none⟩)) := by
  intro _ _ _ _ _
  obtain ⟨j, hj⟩ := Option.isSome_iff_exists.1 hu
  have := Lib.run_from_unsafe (P := P) w ⟨b, off, none⟩ hs hd hj (St.shape (H.perm hp.p)) hl
  simp only [execOp, A.ev hx, Sem.run_bind, this, Result.andThen_ok, Sem.run_pure]
theorem step_noEscape {ts : Nat} {fn : Func} {x : Operand} {v : Value} (A : Fr n a F D) (hx : ev F x = some v) (hf : P.funcs[f]? = some fn) (hname : (fn.name == "runtime.NumGoroutine") = false) (hb : fn.body.isNone = true) (hn : Extern.findNext fn = none) (he : Extern.find fn = some Extern.AbiNoEscape.same) (hd : Nat.blt d n = true)
    (K : ∀ a', Fr n a' ((d, v) :: F) D → wpList P ops Q rest a' w) :
    wpList P ops Q (⟨some d, .call { callee := .value (.func f), args := #[x], argTypes := tys }, ts, pos, after, none⟩ :: rest) a w := by
  have hrun : (execOp a.eval ⟨some d, .call { callee := .value (.func f), args := #[x], argTypes := tys }, ts, pos, after, none⟩).run P w = .ok (.value v) w := by
    simp only [execOp, resolve, Act.eval, Deferred.ofValue]
    simp [invoke, Sem.run_bind, run_callFunc_extern hf hname hb hn he, A.ev hx, Lib.run_noEscape]
  refine wpList_plain rfl fun K' hK => ?_
  unfold Oper.wp
  rw [hrun]
  exact hK _ _ (K _ (A.put hd _))
theorem Runs.makeFuncB {fn : Fn} {fs xs : List Operand} {us vs : List Value} (A : Fr n a F D) (hy : evs F fs = some us) (hx : evs F xs = some vs) : Runs P a w (.makeFunc fn fs.toArray xs.toArray) (.func fn us.toArray vs.toArray) := by
  intro _ _ _ _ _
  simp [execOp, Instr.makeFunc, A.evs hx, A.evs hy]
theorem Runs.sliceData {x : Operand} {ad : Option Addr} {k c : Nat} (A : Fr n a F D) (hx : ev F x = some (.slice ad k c)) (hc : ad = none ∨ c ≠ 0) : Runs P a w (.call { callee := .builtin .unsafeSliceData, args := #[x], argTypes := tys }) (.pointer ad) := by
  intro _ _ _ _ _
  have h : ∀ ty, (Builtin.unsafeSliceData_ tys ty #[.slice ad k c]).run P w = .ok (.pointer ad) w := fun ty => by
    cases ad with
    | none => exact Lib.run_unsafeSliceData_nil w tys ty k c
    | some ad => exact Lib.run_unsafeSliceData_row w tys ty ad k c (by rcases hc with h | h; cases h; exact h)
  simp only [execOp, resolve, invoke, builtin, Sem.run_bind, Sem.run_pure, Result.andThen_ok, List.map_toArray, List.map_cons, List.map_nil, A.ev hx, h]
theorem Runs.unsafeStr0 {x y : Operand} {p : Option Addr} {pt_ it : Nat} (A : Fr n a F D) (hx : ev F x = some (.pointer p)) (hy : ev F y = some (.int .i64 0)) : Runs P a w (.call { callee := .builtin .unsafeString, args := #[x, y], argTypes := #[pt_, it] }) (.string ⟨#[]⟩) := by
  intro _ ty _ _ _
  have h := Lib.run_unsafeString_none (P := P) w pt_ it ty p
  simp only [execOp, resolve, invoke, builtin, Sem.run_bind, Sem.run_pure, Result.andThen_ok, List.map_toArray, List.map_cons, List.map_nil, A.ev hx, A.ev hy, h]
  rfl
theorem step_unsafeStr {ts pt_ it e c g : Nat} {x y : Operand} {l : List UInt8} (A : Fr n a F D) (H : St w0 w m (row e 1 (some ⟨g, 0, none⟩) l.length c (l.map u8) :: L)) (hx : ev F x = some (.pointer (some ⟨g, 0, none⟩))) (hy : ev F y = some (.int .i64 l.length)) (hp : P.underlying pt_ = some (.pointer e)) (hc : P.cellsOf e = 1) (h0 : l ≠ []) (hd : Nat.blt d n = true)
    (K : ∀ a' w', Fr n a' ((d, .string ⟨l.toArray⟩) :: F) D → St w0 w' m L → wpList P ops Q rest a' w') :
    wpList P ops Q (⟨some d, .call { callee := .builtin .unsafeString, args := #[x, y], argTypes := #[pt_, it] }, ts, pos, after, none⟩ :: rest) a w := by
  obtain ⟨hl1, hl2, hl3⟩ := H.row_len
  have hpos : 0 < l.length := List.length_pos_iff.2 h0
  obtain ⟨g', cur, e1, hxl, hnc, hcm, hcl, hct, H1⟩ := H.row_block (by omega)
  simp only [Option.some.injEq, Addr.mk.injEq, and_true] at e1
  subst e1
  have hb := H1.block
  have hcell : ∀ j u, l[j]? = some u → w.cell? ((⟨g, 0, none⟩ : Addr).add j) = some (.int .u8 u.toNat) := fun j u hj => by
    have hlt := (List.getElem?_eq_some_iff.1 hj).1
    rw [addr_add, Nat.zero_add, cell_of_row w g j cur.toArray e _ hb]
    have : cur[j]? = (l.map u8)[j]? := by rw [← hct, List.getElem?_take_of_lt (by omega)]
    simp only [List.getElem?_toArray, this, List.getElem?_map, hj]
    rfl
  have hr := Lib.run_unsafeString_row (P := P) w pt_ it ts e hp hc g cur.length (H1.shape) l h0 (by omega) (by simp only [maxLen] at hl3; omega) hcell
  refine wpList_plain rfl fun K' hK => ?_
  unfold Oper.wp
  simp only [execOp, resolve, invoke, builtin, Sem.run_bind, Sem.run_pure, Result.andThen_ok, List.map_toArray, List.map_cons, List.map_nil, A.ev hx, A.ev hy, hr]
  refine hK _ _ (K _ _ (A.put hd _) ?_)
  have hlt := (Array.getElem?_eq_some_iff.1 hb).1
  have hne : l.length ≠ 0 := by omega
  have hio : Kep w (w.freeze ⟨g, 0, none⟩ l.length) := by
    simp only [World.freeze, hne, if_false]
    exact ⟨rfl, rfl, rfl, by simp⟩
  have hother : ∀ k, k ≠ g → k < w.heap.size → (w.freeze ⟨g, 0, none⟩ l.length).heap[k]? = w.heap[k]? := fun k hk _ => by
    simp only [World.freeze, hne, if_false, Array.getElem?_modify, Ne.symm hk]
  obtain ⟨o, ho⟩ : ∃ o, (w.freeze ⟨g, 0, none⟩ l.length).heap[g]? = some o := by
    refine ⟨_, Array.getElem?_eq_getElem ?_⟩
    simp only [World.freeze, hne, if_false, Array.size_modify]
    exact hlt
  exact (H1.update hio ho hother).drop

/-! ### What is written -/
def wr (l : List UInt8) (x : PS) : PS := ⟨x.t ++ l, x.ok⟩
def andOk (q : Bool) (x : PS) : PS := ⟨x.t, x.ok && q⟩
def kindP (s : ByteArray) : Int := if wkind (s.extract 0 (0 + wl s 0)) ≠ 0 ∧ wl s 0 = s.size then wkind (s.extract 0 (0 + wl s 0)) else if sgn s 0 ≠ 0 ∧ sgn s 0 = s.size then 3 else 0
def resB (s : ByteArray) : Bool := reservedL.any fun k => decide (k = s)
def isNameB (s : ByteArray) : Bool := decide (kindP s = 1) && !resB s
def nameP (s : ByteArray) (x : PS) : PS := ⟨x.t ++ bl s, x.ok && isNameB s⟩
def numberP (n : Int) (x : PS) : PS := ⟨x.t ++ Lib.itoa n, x.ok && (decide (0 ≤ n) && decide (n ≤ 1000000))⟩
def numP (z : PNum) (x : PS) : PS := if z.p = ⟨#[]⟩ then numberP z.n x else
  if 0 < z.n then numberP z.n (wr [32, 43, 32] (nameP z.p x))
  else if z.n < 0 then numberP (if 0 > IntKind.i64.wrap (-z.n) then 0 else IntKind.i64.wrap (-z.n)) (wr [32, 45, 32] (andOk (decide (-1000000 ≤ z.n)) (nameP z.p x)))
  else nameP z.p x
theorem I64_max (z : Int) : I64 (if 0 > IntKind.i64.wrap (-z) then 0 else IntKind.i64.wrap (-z)) := by
  rw [IntKind.wrap_i64]; unfold I64; split <;> omega
theorem all_take {l : List Bool} {i : Nat} {v : Bool} (h : l[i]? = some v) : (l.take (i + 1)).all id = ((l.take i).all id && v) := by
  rw [List.take_add_one, h, List.all_append]; simp
def noneB (z : PNum) : Bool := decide (z.n = 0) && decide (z.p = ⟨#[]⟩)
def absentB (e : Ex) : Bool := decide (e.op = 0) && (decide (e.name = ⟨#[]⟩) && (noneB e.k && (noneB e.w && decide (e.args.length = 0))))
def signP (op : Int) : ByteArray := match opsL.find? fun p => decide (p.2 = op) with
  | some p => p.1
  | none => ⟨#[]⟩
theorem signP_size (op : Int) : (signP op).size ≤ 2 := by
  unfold signP
  split
  · rename_i p h
    have : ∀ p ∈ opsL, p.1.size ≤ 2 := by decide
    exact this p (List.mem_of_find?_eq_some h)
  · decide
def arityP (op : Int) : Int := if op = 1 ∨ op = 14 then 0 else if op = 2 ∨ op = 12 ∨ op = 13 ∨ op = 15 then 1 else if op = 10 then 3 else if signP op ≠ ⟨#[]⟩ then 2 else -1
def ruleP (r : PRule) (x : PS) : PS :=
  let y := andOk ((decide (r.src = ⟨#[]⟩) || decide (2 ≤ r.kind)) && (decide (r.n = 0) || decide (r.kind = 3))) x
  if r.kind = 0 then wr [105, 110, 105, 116] y
  else if r.kind = 1 then wr [107, 101, 101, 112] y
  else if r.kind = 2 then nameP r.src (wr [99, 111, 112, 121, 32] y)
  else if r.kind = 3 then numberP r.n (wr [32] (nameP r.src (wr [97, 100, 100, 32] y)))
  else ⟨y.t, false⟩
/-- the elements of a list, from one on -/
def listGo {α : Type} (f : α → PS → PS) : List α → Bool → PS → PS
  | [], _, x => x
  | a :: l, first, x => listGo f l false (f a (if first then x else wr [44, 32] x))
def listP {α : Type} (f : α → PS → PS) (l : List α) (x : PS) : PS := wr [41] (listGo f l true (wr [40] x))
theorem listGo_step {α : Type} {f : α → PS → PS} {l : List α} {i : Nat} {a : α} {y : PS} (h : l[i]? = some a) : listGo f (l.drop i) (decide (i = 0)) y = listGo f (l.drop (i + 1)) (decide (i + 1 = 0)) (f a (if i = 0 then y else wr [44, 32] y)) := by
  obtain ⟨h1, h2⟩ := List.getElem?_eq_some_iff.1 h
  rw [List.drop_eq_getElem_cons h1, h2, listGo]
  have e : decide (i + 1 = 0) = false := by simp
  rw [e]
  by_cases h0 : i = 0 <;> simp [h0]
def bindP (z : PBind) (x : PS) : PS := nameP z.chan (wr [32, 61, 32] (nameP z.port x))
def isOp (e : Ex) (l : List Int) : Bool := l.any fun k => decide (e.op = k)
def exprP : Nat → Ex → PS → PS
  | 0, _, x => ⟨x.t, false⟩
  | d + 1, e, x => if (e.args.length : Int) ≠ arityP e.op then ⟨x.t, false⟩ else if x.ok = false then x else
    let y := andOk ((decide (e.name = ⟨#[]⟩) || isOp e [14, 15]) && ((noneB e.k || isOp e [1, 12]) && (noneB e.w || isOp e [1, 12, 13]))) x
    let arg (s : List UInt8) (i : Nat) (z : PS) : PS := match e.args[i]? with
      | some a => exprP d a (wr s z)
      | none => wr s z
    if e.op = 1 then wr [93] (numP e.w (wr [32, 58, 32] (numP e.k (wr [91] y))))
    else if e.op = 14 then nameP e.name y
    else if e.op = 15 then wr [93] (arg [91] 0 (nameP e.name y))
    else if e.op = 2 then arg [126] 0 y
    else if e.op = 10 then wr [41] (arg [32, 58, 32] 2 (arg [32, 63, 32] 1 (arg [40] 0 y)))
    else if e.op = 12 ∨ e.op = 13 then wr [125] (numP e.w (wr [32, 58, 32] (if e.op = 12 then numP e.k (wr [32, 64, 32] (arg [123] 0 y)) else arg [123] 0 y)))
    else wr [41] (arg ([32] ++ bl (signP e.op) ++ [32]) 1 (arg [40] 0 y))
def kwP (k : Int) : List UInt8 := match k with
  | 1 => [105, 110]
  | 2 => [111, 117, 116]
  | 3 => [99, 104, 97, 110]
  | 4 => [114, 101, 103]
  | 5 => [119, 105, 114, 101]
  | 6 => [109, 101, 109]
  | 7 => [116, 97, 107, 101]
  | 8 => [112, 117, 116]
  | 9 => [105, 110, 115, 116]
  | _ => []
def partP (s : List UInt8) (e : Ex) (x : PS) : PS := exprP 8 e (wr s x)
def ruleB (r : PRule) : Bool := decide (r.kind = 0) && (decide (r.src = ⟨#[]⟩) && decide (r.n = 0))
def itemOk (i : PItem) : Bool :=
  let k := i.kind
  (noneB i.width || decide (k ≤ 6)) && ((noneB i.depth || (decide (k = 3) || decide (k = 6))) && ((noneB i.init || decide (k = 4)) && ((absentB i.a || (decide (4 ≤ k) && !decide (k = 9))) && ((absentB i.b || (decide (k = 6) || decide (k = 8))) && ((absentB i.c || decide (k = 6)) && ((ruleB i.rule || (decide (k = 4) || decide (k = 6))) && ((decide (i.of_ = ⟨#[]⟩) && (decide (i.args.length = 0) && decide (i.ports.length = 0))) || decide (k = 9))))))))
def itemP (i : PItem) (x : PS) : PS :=
  let k := i.kind
  if k < 1 ∨ 9 < k then ⟨x.t, false⟩ else
  let y1 := nameP i.name (wr (kwP k ++ [32]) (andOk (itemOk i) x))
  let y2 := if k ≤ 6 then numP i.width (wr [58, 32] y1) else y1
  let y3 := if k = 3 ∨ k = 6 then wr [93] (numP i.depth (wr [32, 91] y2)) else y2
  let y4 := if k = 4 then partP [32, 45, 62, 32] i.a (numP i.init (wr [32, 61, 32] y3))
    else if k = 5 then partP [32, 61, 32] i.a y3
    else if k = 6 then partP [32, 61, 32] i.c (partP [32, 97, 116, 32] i.b (partP [32, 105, 102, 32] i.a y3))
    else if k = 7 then partP [32, 105, 102, 32] i.a y3
    else if k = 8 then partP [32, 61, 32] i.b (partP [32, 105, 102, 32] i.a y3)
    else if k = 9 then listP bindP i.ports (wr [32] (listP numP i.args (nameP i.of_ (wr [58, 32] y3))))
    else y3
  if k = 4 ∨ k = 6 then ruleP i.rule (wr [32] y4) else y4
def modP (m : PMod) (x : PS) : PS :=
  let y := wr [32, 123, 10] (nameP m.clock (wr [32, 64, 32] (listP nameP m.params (nameP m.name (wr [109, 111, 100, 117, 108, 101, 32] x)))))
  wr [125, 10] (m.items.foldl (fun y i => wr [59, 10] (itemP i (wr [32, 32] y))) y)
def fileP (f : List PMod) : PS := f.foldl (fun x m => modP m x) ⟨[], true⟩
/-- the text of a file, if it has one -/
def printP (f : List PMod) : Option (List UInt8) := if (fileP f).ok && decide ((fileP f).t.length ≤ 8000) then some (fileP f).t else none
end
end Sl
end Go.Proofs.YtanhehbfbakdcaaGreatDoor
/- The printer's walks: printed by my gen.py out of annotations. -/
set_option linter.unusedSimpArgs false
set_option linter.unusedVariables false
namespace Go.Proofs.YtanhehbfbakdcaaGreatDoor
namespace Sl
open Go

theorem c_strings_Builder_copyCheck {b : Nat} {pa : Option Addr} {v1 v2 : Value} {m : Mem} (hpa : pa = none ∨ pa = some ⟨b, 0, none⟩) : Spec Tryz.prog 88 #[.pointer (some ⟨b, 0, none⟩)] m [pt b [.pointer pa, v1, v2] 117] (RetV fun _ v L => v = .tuple #[] ∧ L = [pt b [.pointer (some ⟨b, 0, none⟩), v1, v2] 117]) := by
  refine Spec.enter Tryz.func88 rfl 20 Tryz.ntmps88 rfl fun a w0 Lf A H => ?_
  simp only [List.cons_append, List.nil_append] at H
  have hM := Le.refl m
  refine wp_seq ?_
  refine wp_region_lit ?_
  refine step (Runs.move A rfl) A rfl ?_; clear A a; intro a A
  refine step (Runs.nilCheck A rfl) A rfl ?_; clear A a; intro a A
  refine step (Runs.fa A rfl) A rfl ?_; clear A a; intro a A
  refine step (Runs.ld1 A H rfl rfl) A rfl ?_; clear A a; intro a A
  rcases hpa with rfl | rfl
  · refine step (Runs.peqlNN A rfl rfl) A rfl ?_; clear A a; intro a A
    refine wpList_nil ?_
    refine cond_true A rfl rfl ?_
    refine wp_region_lit ?_
    refine step (Runs.move A rfl) A rfl ?_; clear A a; intro a A
    refine step (Runs.move A rfl) A rfl ?_; clear A a; intro a A
    refine step (Runs.toUnsafe (t2 := 115) A H rfl (by kernel_rfl) (by kernel_rfl) (by kernel_rfl) (by exact Nat.zero_lt_succ _)) A rfl ?_; clear A a; intro a A
    refine step_noEscape A rfl Tryz.func128 (by kernel_rfl) (by kernel_rfl) (by kernel_rfl) (by kernel_rfl) rfl ?_; clear A a; intro a A
    refine step (Runs.fromUnsafe (u := 115) A H rfl (by kernel_rfl) (by kernel_rfl) (by kernel_rfl) (by kernel_rfl)) A rfl ?_; clear A a; intro a A
    refine step (Runs.nilCheck A rfl) A rfl ?_; clear A a; intro a A
    refine step (Runs.fa A rfl) A rfl ?_; clear A a; intro a A
    refine step_store A H rfl rfl rfl rfl rfl rfl ?_; intro w H
    refine wpList_nil ?_
    exact endV0 A rfl hM H ⟨rfl, rfl⟩
  · refine step (Runs.peqlNil A rfl rfl) A rfl ?_; clear A a; intro a A
    refine wpList_nil ?_
    refine cond_false A rfl rfl ?_
    refine wp_seq ?_
    refine wp_region_lit ?_
    refine step (Runs.move A rfl) A rfl ?_; clear A a; intro a A
    refine step (Runs.nilCheck A rfl) A rfl ?_; clear A a; intro a A
    refine step (Runs.fa A rfl) A rfl ?_; clear A a; intro a A
    refine step (Runs.ld1 A H rfl rfl) A rfl ?_; clear A a; intro a A
    refine step (Runs.move A rfl) A rfl ?_; clear A a; intro a A
    refine step (Runs.pneqSame A rfl rfl) A rfl ?_; clear A a; intro a A
    refine wpList_nil ?_
    refine cond_false A rfl rfl ?_
    refine wp_skip ?_
    exact endV0 A rfl hM H ⟨rfl, rfl⟩

theorem c_WriteString {b : Nat} {s : ByteArray} {m : Mem} (k : Nat) (hk : s.size ≤ k) : PrSpec Tryz.prog 60 [.pointer (some ⟨b, 0, none⟩), .string s] m b [] (wr (bl s)) k (fun _ v => v = .tuple #[.int .i64 s.size, .nilIface]) := by
  intro x B hB
  refine Spec.enter Tryz.func60 rfl 19 Tryz.ntmps60 rfl fun a w0 Lf A H => ?_
  simp only [List.cons_append, List.nil_append] at H
  have hM := Le.refl m
  obtain ⟨pa, ad, c, hpa, had, hlen, H⟩ := H.pr_open (b := b)
  refine wp_seq ?_
  refine wp_region_lit ?_
  refine step (Runs.assign A rfl) A rfl ?_; clear A a; intro a A
  refine step (Runs.assign A rfl) A rfl ?_; clear A a; intro a A
  refine wpList_nil ?_
  refine wp_seq ?_
  refine wp_region_lit ?_
  refine step (Runs.move A rfl) A rfl ?_; clear A a; intro a A
  refine step_callS A rfl rfl (c_strings_Builder_copyCheck (v1 := .slice ad x.t.length c) (v2 := .bool x.ok) hpa) H ?_
  rintro v1_1 a w m L' hm ⟨rfl, rfl⟩ A H
  simp only [List.cons_append, List.nil_append] at H
  have hM := hM.trans hm
  refine wpList_nil ?_
  refine wp_seq ?_
  refine wp_region_lit ?_
  refine step (Runs.move A rfl) A rfl ?_; clear A a; intro a A
  refine step (Runs.move A rfl) A rfl ?_; clear A a; intro a A
  refine step (Runs.nilCheck A rfl) A rfl ?_; clear A a; intro a A
  refine step (Runs.fa A rfl) A rfl ?_; clear A a; intro a A
  refine step (Runs.ld1 A H rfl rfl) A rfl ?_; clear A a; intro a A
  refine step (Runs.move A rfl) A rfl ?_; clear A a; intro a A
  refine step_appendStr A H rfl rfl rfl (by omega) rfl ?_; clear A a; intro ad1 c1 a w hnil A H
  refine step (Runs.nilCheck A rfl) A rfl ?_; clear A a; intro a A
  refine step (Runs.fa A rfl) A rfl ?_; clear A a; intro a A
  refine step_store A H rfl rfl rfl rfl rfl rfl ?_; intro w H
  refine wpList_nil ?_
  refine wp_seq ?_
  refine wp_region_lit ?_
  refine step (Runs.move A rfl) A rfl ?_; clear A a; intro a A
  refine step (Runs.lenS A rfl StrC.h) A rfl ?_; clear A a; intro a A
  refine step (Runs.assign A rfl) A rfl ?_; clear A a; intro a A
  refine step (Runs.assign A rfl) A rfl ?_; clear A a; intro a A
  refine wpList_nil ?_
  refine wp_ret ?_
  rw [← List.map_append] at H
  have H := H.pr_close (B := B + k) (.inr rfl) (fun e => hnil (had (List.append_eq_nil_iff.1 e).1) (by have := (List.append_eq_nil_iff.1 e).2; simpa using congrArg List.length this)) (by rw [List.length_append, Array.length_toList]; change _ + s.size ≤ _; omega)
  exact retPr2 A rfl rfl rfl hM H rfl rfl (Nat.le_refl _)

theorem c_BuilderLen {b B : Nat} {x : PS} {m : Mem} : Spec Tryz.prog 64 #[.pointer (some ⟨b, 0, none⟩)] m [prR b x B] (RetV fun _ v L => v = .int .i64 x.t.length ∧ L = [prR b x B] ∧ x.t.length ≤ B) := by
  refine Spec.enter Tryz.func64 rfl 8 Tryz.ntmps64 rfl fun a w0 Lf A H => ?_
  simp only [List.cons_append, List.nil_append] at H
  have hM := Le.refl m
  obtain ⟨pa, ad, c, hpa, had, hlen, H⟩ := H.pr_open (b := b)
  refine wp_seq ?_
  refine wp_region_lit ?_
  refine step (Runs.assign A rfl) A rfl ?_; clear A a; intro a A
  refine wpList_nil ?_
  refine wp_seq ?_
  refine wp_region_lit ?_
  refine step (Runs.move A rfl) A rfl ?_; clear A a; intro a A
  refine step (Runs.nilCheck A rfl) A rfl ?_; clear A a; intro a A
  refine step (Runs.fa A rfl) A rfl ?_; clear A a; intro a A
  refine step (Runs.ld1 A H rfl rfl) A rfl ?_; clear A a; intro a A
  refine step (Runs.lenL A rfl SlC.h) A rfl ?_; clear A a; intro a A
  refine step (Runs.assign A rfl) A rfl ?_; clear A a; intro a A
  refine wpList_nil ?_
  refine wp_ret ?_
  have H := H.pr_close (B := B) hpa had hlen
  exact retV A rfl rfl hM H ⟨rfl, rfl, hlen⟩

theorem c_BuilderString {b B : Nat} {x : PS} {m : Mem} (hB : B ≤ 1000000000000) : Spec Tryz.prog 65 #[.pointer (some ⟨b, 0, none⟩)] m [prR b x B] (RetV fun _ v L => v = .string ⟨x.t.toArray⟩ ∧ L = []) := by
  refine Spec.enter Tryz.func65 rfl 14 Tryz.ntmps65 rfl fun a w0 Lf A H => ?_
  simp only [List.cons_append, List.nil_append] at H
  have hM := Le.refl m
  obtain ⟨pa, ad, c, hpa, had, hlen, H⟩ := H.pr_open (b := b)
  refine wp_seq ?_
  refine wp_region_lit ?_
  refine step (Runs.assign A rfl) A rfl ?_; clear A a; intro a A
  rcases Decidable.em (x.t = []) with h0 | h0
  · obtain ⟨t, ok⟩ := x
    simp only at h0 had hlen H
    subst h0
    have had := had rfl
    subst had
    refine wpList_nil ?_
    refine wp_seq ?_
    refine draw_begin0 (by kernel_rfl) (N := 12) rfl (by kernel_rfl) H ?_; clear H; intro w H hR
    have hS : SW m _ w := ⟨_, H⟩
    have hL := Le.refl m
    refine dstep hR (i := 0) rfl (by kernel_rfl) (fun _ _ _ h => h) (fun _ _ H' => (Runs.move A rfl)) A rfl hS ?_; clear A a hR; intro a A hR
    refine dstep hR (i := 1) rfl (by kernel_rfl) (fun _ _ _ h => h) (fun _ _ H' => (Runs.nilCheck A rfl)) A rfl hS ?_; clear A a hR; intro a A hR
    refine dstep hR (i := 2) rfl (by kernel_rfl) (fun _ _ _ h => h) (fun _ _ H' => (Runs.fa A rfl)) A rfl hS ?_; clear A a hR; intro a A hR
    refine dstep hR (i := 3) rfl (by kernel_rfl) (fun _ _ _ h => h) (fun _ _ H' => (Runs.ld1 A H' rfl rfl)) A rfl hS ?_; clear A a hR; intro a A hR
    refine dstep hR (i := 4) rfl (by kernel_rfl) (fun _ _ _ h => h) (fun _ _ H' => (Runs.sliceData A rfl (.inl rfl))) A rfl hS ?_; clear A a hR; intro a A hR
    refine dstep hR (i := 5) rfl (by kernel_rfl) (fun _ _ _ h => h) (fun _ _ H' => (Runs.move A rfl)) A rfl hS ?_; clear A a hR; intro a A hR
    refine dstep hR (i := 6) rfl (by kernel_rfl) (fun _ _ _ h => h) (fun _ _ H' => (Runs.nilCheck A rfl)) A rfl hS ?_; clear A a hR; intro a A hR
    refine dstep hR (i := 7) rfl (by kernel_rfl) (fun _ _ _ h => h) (fun _ _ H' => (Runs.fa A rfl)) A rfl hS ?_; clear A a hR; intro a A hR
    refine dstep hR (i := 8) rfl (by kernel_rfl) (fun _ _ _ h => h) (fun _ _ H' => (Runs.ld1 A H' rfl rfl)) A rfl hS ?_; clear A a hR; intro a A hR
    refine dstep hR (i := 9) rfl (by kernel_rfl) (fun _ _ _ h => h) (fun _ _ H' => (Runs.lenL A rfl SlC.h)) A rfl hS ?_; clear A a hR; intro a A hR
    refine dlist hR (i := 10) rfl (by kernel_rfl) ?_
    have hR := hR.next (i := 10) (by kernel_rfl)
    refine step (Runs.unsafeStr0 A rfl rfl) A rfl ?_; clear A a; intro a A
    refine wpList_nil ?_
    clear hS; refine and_keep (H.sw hL) fun hS => ?_
    refine dstep hR (i := 11) rfl (by kernel_rfl) (fun _ _ _ h => h) (fun _ _ H' => (Runs.assign A rfl)) A rfl hS ?_; clear A a hR; intro a A hR
    refine draw_done hR (by kernel_rfl) ?_
    clear hS hL hR
    refine wp_ret ?_
    exact retV A rfl rfl hM H ⟨rfl, rfl⟩
  · have hl0 : 0 < x.t.length := List.length_pos_iff.2 h0
    obtain ⟨_, hlc, hcm⟩ := (H.perm (List.Perm.swap _ _ _)).row_len
    obtain ⟨g, rfl⟩ : ∃ g, ad = some ⟨g, 0, none⟩ := by
      obtain ⟨g, _, e, _⟩ := (H.perm (List.Perm.swap _ _ _)).row_block (by omega)
      exact ⟨g, e⟩
    refine wpList_nil ?_
    refine wp_seq ?_
    refine draw_begin (ms := m) (Ls := [pt b [.pointer pa, .slice (some ⟨g, 0, none⟩) x.t.length c, .bool x.ok] 117]) (by kernel_rfl) (N := 12) rfl (by kernel_rfl) H ?_; clear H; intro w H hR
    have hS : SW m [pt b [.pointer pa, .slice (some ⟨g, 0, none⟩) x.t.length c, .bool x.ok] 117] w := H.sw (Le.refl m)
    have hL := Le.refl m
    refine dstep hR (i := 0) rfl (by kernel_rfl) (fun _ _ _ h => h) (fun _ _ H' => (Runs.move A rfl)) A rfl hS ?_; clear A a hR; intro a A hR
    refine dstep hR (i := 1) rfl (by kernel_rfl) (fun _ _ _ h => h) (fun _ _ H' => (Runs.nilCheck A rfl)) A rfl hS ?_; clear A a hR; intro a A hR
    refine dstep hR (i := 2) rfl (by kernel_rfl) (fun _ _ _ h => h) (fun _ _ H' => (Runs.fa A rfl)) A rfl hS ?_; clear A a hR; intro a A hR
    refine dstep hR (i := 3) rfl (by kernel_rfl) (fun _ _ _ h => h) (fun _ _ H' => (Runs.ld1 A H' rfl rfl)) A rfl hS ?_; clear A a hR; intro a A hR
    refine dstep hR (i := 4) rfl (by kernel_rfl) (fun _ _ _ h => h) (fun _ _ H' => (Runs.sliceData A rfl (.inr (by omega)))) A rfl hS ?_; clear A a hR; intro a A hR
    refine dstep hR (i := 5) rfl (by kernel_rfl) (fun _ _ _ h => h) (fun _ _ H' => (Runs.move A rfl)) A rfl hS ?_; clear A a hR; intro a A hR
    refine dstep hR (i := 6) rfl (by kernel_rfl) (fun _ _ _ h => h) (fun _ _ H' => (Runs.nilCheck A rfl)) A rfl hS ?_; clear A a hR; intro a A hR
    refine dstep hR (i := 7) rfl (by kernel_rfl) (fun _ _ _ h => h) (fun _ _ H' => (Runs.fa A rfl)) A rfl hS ?_; clear A a hR; intro a A hR
    refine dstep hR (i := 8) rfl (by kernel_rfl) (fun _ _ _ h => h) (fun _ _ H' => (Runs.ld1 A H' rfl rfl)) A rfl hS ?_; clear A a hR; intro a A hR
    refine dstep hR (i := 9) rfl (by kernel_rfl) (fun _ _ _ h => h) (fun _ _ H' => (Runs.lenL A rfl SlC.h)) A rfl hS ?_; clear A a hR; intro a A hR
    refine dlist hR (i := 10) rfl (by kernel_rfl) ?_
    have hR := hR.next (i := 10) (by kernel_rfl)
    have H' := H.perm (List.Perm.swap _ _ _)
    refine step_unsafeStr A H' rfl rfl (by kernel_rfl) (by kernel_rfl) h0 rfl ?_; clear A a H H'; intro a w A H
    refine wpList_nil ?_
    clear hS; refine and_keep (H.sw hL) fun hS => ?_
    refine dstep hR (i := 11) rfl (by kernel_rfl) (fun _ _ _ h => h) (fun _ _ H' => (Runs.assign A rfl)) A rfl hS ?_; clear A a hR; intro a A hR
    refine draw_done hR (by kernel_rfl) ?_
    clear hS hL hR
    refine wp_ret ?_
    exact retV A rfl rfl hM H ⟨rfl, rfl⟩
end Sl
end Go.Proofs.YtanhehbfbakdcaaGreatDoor
