/- Stores: the reference's Broken, Store: walks, printed by my gen.py out of annotations. -/
import Derived.Test.YtanhehbfbakdcaaGreatDoorObjR
set_option linter.unusedSimpArgs false
set_option linter.unusedVariables false
namespace Go.Proofs.YtanhehbfbakdcaaGreatDoor
namespace Sl
open Go

def brkP (d : List UInt8) (k0 k1 : UInt8) : List UInt8 := if d.length = 0 then [k1] else d.set (k0.toNat % d.length) (d.getD (k0.toNat % d.length) 0 ^^^ (1 <<< UInt8.ofNat (k1.toNat % 8)))
theorem brk_take {cur : List Value} {d : List UInt8} {j n : Nat} {z : UInt8} (h : cur.take n = d.map u8) (hn : d.length = n) (hj : j < n) : (cur.take j ++ [u8 z] ++ cur.drop (j + 1)).take n = (d.set j z).map u8 := by
  have hcl : n ≤ cur.length := by have := congrArg List.length h; rw [List.length_take, List.length_map] at this; omega
  rw [List.map_set, ← h]
  apply List.ext_getElem?
  intro k
  rw [List.getElem?_set, List.getElem?_take, List.getElem?_append, List.getElem?_append, List.getElem?_take, List.getElem?_drop, List.length_append, List.length_take, Nat.min_eq_left (by omega : j ≤ cur.length)]
  simp only [List.length_cons, List.length_nil, List.length_take, Nat.min_eq_left hcl]
  by_cases h1 : k < n
  · by_cases h2 : k < j
    · simp [h1, h2, show k < j + 1 by omega, show ¬ j = k by omega]
    · by_cases h3 : k = j
      · subst h3; simp [h1]
      · simp [h1, h2, show ¬ k < j + 1 by omega, show ¬ j = k by omega, show j + 1 + (k - (j + 1)) = k by omega]
  · simp [h1, show ¬ j = k by omega]; omega

theorem c_wireloomref18_Broken {ad : Option Addr} {n c : Nat} {d : List UInt8} {k0 k1 : UInt8} {m : Mem} (hs : Slc m 1 ad n c (d.map u8)) (hn : n ≤ 1000000000) : Spec Tryz.prog 38 #[.slice ad n c, .agg #[u8 k0, u8 k1]] m [] (RetF fun m' v => Dat m' v (brkP d k0 k1)) := by
  refine Spec.enter0 Tryz.func38 rfl 38 Tryz.ntmps38 rfl fun a w0 Lf A H => ?_
  have hM := Le.refl m
  have hmx : maxLen = 9223372036854775807 := rfl
  have hl := hs.len8
  have hk0 := u8_lt k0
  have hk1 := u8_lt k1
  refine wp_seq ?_
  refine wp_region_lit ?_
  refine step_box A H rfl (by simp only [Value.cells, List.toList_toArray]; rfl) rfl ?_; intro b1 a w A H
  refine step (Runs.assign A rfl) A rfl ?_; clear A a; intro a A
  refine wpList_nil ?_
  refine wp_seq ?_
  refine wp_region_lit ?_
  refine step_slice A H rfl rfl rfl rfl rfl rfl ?_; intro b2 a w A H
  refine step (Runs.move A rfl) A rfl ?_; clear A a; intro a A
  have H := H.row_pt (n := 0) (size := 1) rfl (by omega)
  refine step_appendR A H rfl rfl hs (u8_one _) (by decide) (by omega) (by omega) rfl rfl ?_; clear A a; intro ad1 c1 a w A H
  refine step (Runs.assign A rfl) A rfl ?_; clear A a; intro a A
  refine wpList_nil ?_
  refine wp_seq ?_
  refine wp_seq ?_
  refine wp_region_lit ?_
  rw [Nat.zero_add] at A H
  rw [List.nil_append] at H
  refine step (Runs.move A rfl) A rfl ?_; clear A a; intro a A
  refine step (Runs.lenL A rfl SlC.h) A rfl ?_; clear A a; intro a A
  refine step (Runs.eql A rfl rfl) A rfl ?_; clear A a; intro a A
  refine wpList_nil ?_
  refine cond_split A rfl (fun h1 => ?_) (fun h1 => ?_)
  · have g1 := h1
    try simp only [decide_eq_true_eq, decide_eq_false_iff_not, Bool.not_eq_true', Bool.not_eq_false', ne_eq, Decidable.not_not, Int.not_lt, Int.not_le] at g1
    refine wp_seq ?_
    refine wp_region_lit ?_
    refine step (Runs.indexArr A rfl rfl (by omega) (by omega)) A rfl ?_; clear A a; intro a A
    refine step (Runs.ld1 A H rfl rfl) A rfl ?_; clear A a; intro a A
    refine step_slice A H rfl rfl rfl rfl rfl rfl ?_; intro b3 a w A H
    refine step (Runs.assign A rfl) A rfl ?_; clear A a; intro a A
    refine wpList_nil ?_
    refine wp_ret ?_
    have hd : d.length = 0 := by omega
    have H := H.row_pt (n := 1) (size := 1) rfl (by omega)
    obtain ⟨m2, hm2, hw, H⟩ := H.row_freeze
    exact retF A rfl rfl (hM.trans hm2) H ⟨_, _, _, rfl, by rw [brkP, if_pos hd]; exact hw, by omega⟩
  · have g1 := h1
    try simp only [decide_eq_true_eq, decide_eq_false_iff_not, Bool.not_eq_true', Bool.not_eq_false', ne_eq, Decidable.not_not, Int.not_lt, Int.not_le] at g1
    refine wp_skip ?_
    refine wp_seq ?_
    obtain ⟨_, hnc1, _⟩ := H.row_len
    have hn0 : 0 < n := by omega
    obtain ⟨g, cur, rfl, hxl, hnc, hcm, hcl, hct, H⟩ := H.row_block (by omega)
    obtain ⟨j, hj⟩ : ∃ j, j = k0.toNat % n := ⟨_, rfl⟩
    have hjn : j < n := by rw [hj]; exact Nat.mod_lt _ hn0
    have hix : ((k0.toNat : Int) % (n : Int)) = ((j : Nat) : Int) := by rw [hj]; exact (Int.natCast_emod _ _).symm
    have hcj : cur[j]? = some (u8 (d.getD j 0)) := by
      have := u8_at (l := d) (i := j) (by omega)
      rw [← hct, Nat.mul_one, List.getElem?_take_of_lt hjn] at this; exact this
    refine draw_begin (ms := m) (Ls := [pt g cur 5, pt b1 [u8 k0, u8 k1] 68]) (by kernel_rfl) (N := 23) rfl (by kernel_rfl) H ?_; clear H; intro w H hR
    have hS : SW m [pt g cur 5, pt b1 [u8 k0, u8 k1] 68] w := H.sw (Le.refl m)
    have hL := Le.refl m
    refine dstep hR (i := 0) rfl (by kernel_rfl) (fun _ _ _ h => h) (fun _ _ H' => (Runs.move A rfl)) A rfl hS ?_; clear A a hR; intro a A hR
    refine dstep hR (i := 1) rfl (by kernel_rfl) (fun _ _ _ h => h) (fun _ _ H' => (Runs.indexArr A rfl rfl (by omega) (by omega))) A rfl hS ?_; clear A a hR; intro a A hR
    refine dstep hR (i := 2) rfl (by kernel_rfl) (fun _ _ _ h => h) (fun _ _ H' => (Runs.ld1 A H' rfl rfl)) A rfl hS ?_; clear A a hR; intro a A hR
    refine dstep hR (i := 4) rfl (by kernel_rfl) (fun _ _ _ h => h) (fun _ _ H' => (Runs.move A rfl)) A rfl hS ?_; clear A a hR; intro a A hR
    refine dstep hR (i := 5) rfl (by kernel_rfl) (fun _ _ _ h => h) (fun _ _ H' => (Runs.lenL A rfl SlC.h)) A rfl hS ?_; clear A a hR; intro a A hR
    refine dstep hR (i := 7) rfl (by kernel_rfl) (fun _ _ _ h => h) (fun _ _ H' => (Runs.move A rfl)) A rfl hS ?_; clear A a hR; intro a A hR
    refine dstep hR (i := 8) rfl (by kernel_rfl) (fun _ _ _ h => h) (fun _ _ H' => (Runs.indexArr A rfl rfl (by omega) (by omega))) A rfl hS ?_; clear A a hR; intro a A hR
    refine dstep hR (i := 9) rfl (by kernel_rfl) (fun _ _ _ h => h) (fun _ _ H' => (Runs.ld1 A H' rfl rfl)) A rfl hS ?_; clear A a hR; intro a A hR
    refine dstep hR (i := 11) rfl (by kernel_rfl) (fun _ _ _ h => h) (fun _ _ H' => (Runs.move A rfl)) A rfl hS ?_; clear A a hR; intro a A hR
    refine dstep hR (i := 12) rfl (by kernel_rfl) (fun _ _ _ h => h) (fun _ _ H' => (Runs.lenL A rfl SlC.h)) A rfl hS ?_; clear A a hR; intro a A hR
    refine dstep hR (i := 16) rfl (by kernel_rfl) (fun _ _ _ h => h) (fun _ _ H' => (Runs.indexArr A rfl rfl (by omega) (by omega))) A rfl hS ?_; clear A a hR; intro a A hR
    refine dstep hR (i := 17) rfl (by kernel_rfl) (fun _ _ _ h => h) (fun _ _ H' => (Runs.ld1 A H' rfl rfl)) A rfl hS ?_; clear A a hR; intro a A hR
    refine dstep hR (i := 18) rfl (by kernel_rfl) (fun _ _ _ h => h) (fun _ _ H' => (Runs.rem A rfl rfl (by omega) (by omega))) A rfl hS ?_; clear A a hR; intro a A hR
    refine dstep hR (i := 19) rfl (by kernel_rfl) (fun _ _ _ h => h) (fun _ _ H' => (Runs.shl8 (p := 1) (k := k1.toNat % 8) A rfl rfl (by omega) (by omega))) A rfl hS ?_; clear A a hR; intro a A hR
    refine draws_all hR (rs := [3, 10]) (by kernel_rfl) (by decide) ?_
    simp only [List.mem_cons, List.not_mem_nil, or_false, forall_eq_or_imp, forall_eq]
    refine ⟨?_, ?_⟩
    · refine dalt (i := 3) rfl ?_
      have hR := hR.next (i := 3) (by kernel_rfl)
      refine step (Runs.convN A rfl (by first | exact wrap_i64 (by omega) (by omega) | rfl)) A rfl ?_; clear A a; intro a A
      refine wpList_nil ?_
      clear hS; refine and_keep (H.sw hL) fun hS => ?_
      refine dstep hR (i := 6) rfl (by kernel_rfl) (fun _ _ _ h => h) (fun _ _ H' => (Runs.rem A rfl rfl (by omega) (by omega))) A rfl hS ?_; clear A a hR; intro a A hR
      refine dlist hR (i := 10) rfl (by kernel_rfl) ?_
      have hR := hR.next (i := 10) (by kernel_rfl)
      refine step (Runs.convN A rfl (by first | exact wrap_i64 (by omega) (by omega) | rfl)) A rfl ?_; clear A a; intro a A
      refine wpList_nil ?_
      clear hS; refine and_keep (H.sw hL) fun hS => ?_
      refine dstep hR (i := 13) rfl (by kernel_rfl) (fun _ _ _ h => h) (fun _ _ H' => (Runs.rem A rfl rfl (by omega) (by omega))) A rfl hS ?_; clear A a hR; intro a A hR
      try rw [hix] at A
      refine dstep hR (i := 14) rfl (by kernel_rfl) (fun _ _ _ h => h) (fun _ _ H' => (Runs.indexAddr A rfl rfl SlC.h (by omega) (by omega))) A rfl hS ?_; clear A a hR; intro a A hR
      refine dstep hR (i := 15) rfl (by kernel_rfl) (fun _ _ _ h => h) (fun _ _ H' => (Runs.ld1 A H' rfl (v := u8 (d.getD j 0)) (by simpa using hcj))) A rfl hS ?_; clear A a hR; intro a A hR
      refine dstep hR (i := 20) rfl (by kernel_rfl) (fun _ _ _ h => h) (fun _ _ H' => (Runs.xor8 A rfl rfl)) A rfl hS ?_; clear A a hR; intro a A hR
      try rw [hix] at A
      refine dstep hR (i := 21) rfl (by kernel_rfl) (fun _ _ _ h => h) (fun _ _ H' => (Runs.indexAddr A rfl rfl SlC.h (by omega) (by omega))) A rfl hS ?_; clear A a hR; intro a A hR
      refine dlist hR (i := 22) rfl (by kernel_rfl) ?_
      have hR := hR.next (i := 22) (by kernel_rfl)
      refine step_store (cs' := cur.take j ++ [u8 (d.getD j 0 ^^^ (1 <<< UInt8.ofNat (k1.toNat % 8)))] ++ cur.drop (j + 1)) A H rfl rfl rfl rfl rfl (by rw [Int.toNat_natCast, Nat.mul_one, Nat.zero_add]; exact setN_put (cs := cur) (vs := [_]) (by show _ + 1 ≤ _; omega)) ?_; intro w H
      refine wpList_nil ?_
      refine and_last (by kernel_rfl) ?_
      refine draw_done hR (by kernel_rfl) ?_
      clear hS hL hR
      refine wp_seq ?_
      refine wp_region_lit ?_
      refine step (Runs.move A rfl) A rfl ?_; clear A a; intro a A
      refine step (Runs.assign A rfl) A rfl ?_; clear A a; intro a A
      refine wpList_nil ?_
      refine wp_ret ?_
      have hb : brkP d k0 k1 = d.set j (d.getD j 0 ^^^ (1 <<< UInt8.ofNat (k1.toNat % 8))) := by rw [brkP, if_neg (by omega), hl, ← hj]
      have hct2 : cur.take n = d.map u8 := by rw [← hct, Nat.mul_one]
      have H := H.block_row (k := n) (c := c1) (size := 1) (xs := (brkP d k0 k1).map u8) (by rw [hb]; simp [hl]) (by omega) (by omega) (by simp only [List.length_append, List.length_take, List.length_drop, List.length_cons, List.length_nil]; omega) (by rw [hb, Nat.mul_one]; exact brk_take hct2 hl hjn)
      obtain ⟨m2, hm2, hw, H⟩ := H.row_freeze
      exact retF A rfl rfl (hM.trans hm2) H ⟨_, _, _, rfl, hw, by omega⟩
    · refine dalt (i := 10) rfl ?_
      have hR := hR.next (i := 10) (by kernel_rfl)
      refine step (Runs.convN A rfl (by first | exact wrap_i64 (by omega) (by omega) | rfl)) A rfl ?_; clear A a; intro a A
      refine wpList_nil ?_
      clear hS; refine and_keep (H.sw hL) fun hS => ?_
      refine dstep hR (i := 13) rfl (by kernel_rfl) (fun _ _ _ h => h) (fun _ _ H' => (Runs.rem A rfl rfl (by omega) (by omega))) A rfl hS ?_; clear A a hR; intro a A hR
      try rw [hix] at A
      refine dstep hR (i := 14) rfl (by kernel_rfl) (fun _ _ _ h => h) (fun _ _ H' => (Runs.indexAddr A rfl rfl SlC.h (by omega) (by omega))) A rfl hS ?_; clear A a hR; intro a A hR
      refine dstep hR (i := 15) rfl (by kernel_rfl) (fun _ _ _ h => h) (fun _ _ H' => (Runs.ld1 A H' rfl (v := u8 (d.getD j 0)) (by simpa using hcj))) A rfl hS ?_; clear A a hR; intro a A hR
      refine dstep hR (i := 20) rfl (by kernel_rfl) (fun _ _ _ h => h) (fun _ _ H' => (Runs.xor8 A rfl rfl)) A rfl hS ?_; clear A a hR; intro a A hR
      refine dlist hR (i := 3) rfl (by kernel_rfl) ?_
      have hR := hR.next (i := 3) (by kernel_rfl)
      refine step (Runs.convN A rfl (by first | exact wrap_i64 (by omega) (by omega) | rfl)) A rfl ?_; clear A a; intro a A
      refine wpList_nil ?_
      clear hS; refine and_keep (H.sw hL) fun hS => ?_
      refine dstep hR (i := 6) rfl (by kernel_rfl) (fun _ _ _ h => h) (fun _ _ H' => (Runs.rem A rfl rfl (by omega) (by omega))) A rfl hS ?_; clear A a hR; intro a A hR
      try rw [hix] at A
      refine dstep hR (i := 21) rfl (by kernel_rfl) (fun _ _ _ h => h) (fun _ _ H' => (Runs.indexAddr A rfl rfl SlC.h (by omega) (by omega))) A rfl hS ?_; clear A a hR; intro a A hR
      refine dlist hR (i := 22) rfl (by kernel_rfl) ?_
      have hR := hR.next (i := 22) (by kernel_rfl)
      refine step_store (cs' := cur.take j ++ [u8 (d.getD j 0 ^^^ (1 <<< UInt8.ofNat (k1.toNat % 8)))] ++ cur.drop (j + 1)) A H rfl rfl rfl rfl rfl (by rw [Int.toNat_natCast, Nat.mul_one, Nat.zero_add]; exact setN_put (cs := cur) (vs := [_]) (by show _ + 1 ≤ _; omega)) ?_; intro w H
      refine wpList_nil ?_
      refine and_last (by kernel_rfl) ?_
      refine draw_done hR (by kernel_rfl) ?_
      clear hS hL hR
      refine wp_seq ?_
      refine wp_region_lit ?_
      refine step (Runs.move A rfl) A rfl ?_; clear A a; intro a A
      refine step (Runs.assign A rfl) A rfl ?_; clear A a; intro a A
      refine wpList_nil ?_
      refine wp_ret ?_
      have hb : brkP d k0 k1 = d.set j (d.getD j 0 ^^^ (1 <<< UInt8.ofNat (k1.toNat % 8))) := by rw [brkP, if_neg (by omega), hl, ← hj]
      have hct2 : cur.take n = d.map u8 := by rw [← hct, Nat.mul_one]
      have H := H.block_row (k := n) (c := c1) (size := 1) (xs := (brkP d k0 k1).map u8) (by rw [hb]; simp [hl]) (by omega) (by omega) (by simp only [List.length_append, List.length_take, List.length_drop, List.length_cons, List.length_nil]; omega) (by rw [hb, Nat.mul_one]; exact brk_take hct2 hl hjn)
      obtain ⟨m2, hm2, hw, H⟩ := H.row_freeze
      exact retF A rfl rfl (hM.trans hm2) H ⟨_, _, _, rfl, hw, by omega⟩
end Sl
end Go.Proofs.YtanhehbfbakdcaaGreatDoor
