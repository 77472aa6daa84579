/- The lexer's walks: printed by my gen.py out of annotations. -/
import Derived.Test.YtanhehbfbakdcaaGreatDoorLexD
set_option linter.unusedSimpArgs false
set_option linter.unusedVariables false
namespace Go.Proofs.YtanhehbfbakdcaaGreatDoor
namespace Sl
open Go

theorem c_lexer_scanner_is {b bc i k c n : Nat} {s : ByteArray} {tv : Value} {cl : List Int} {bcs : List Value} {m : Mem} (hbc : bcs = cl.map (.int .u8)) (hn : n = cl.length) (hik : i + k ≤ 9223372036854775807) (hcl : cl.length ≤ 1000) : Spec Tryz.prog 179 #[.pointer (some ⟨b, 0, none⟩), .int .i64 k, .slice (some ⟨bc, 0, none⟩) n c] m [pt b (scn s i tv) 244, pt bc bcs 5] (RetV fun _ v L => v = .bool (isB s (i + k) cl) ∧ L = [pt b (scn s i tv) 244, pt bc bcs 5]) := by
  subst hbc; subst hn
  refine Spec.enter Tryz.func179 rfl 46 Tryz.ntmps179 rfl fun a w0 Lf A H => ?_
  simp only [List.cons_append, List.nil_append] at H
  have hM := Le.refl m
  refine wp_seq ?_
  refine wp_region_lit ?_
  refine step (Runs.assign A rfl) A rfl ?_; clear A a; intro a A
  refine wpList_nil ?_
  refine wp_seq ?_
  refine wp_seq ?_
  refine draw_begin0 (by kernel_rfl) (N := 12) rfl (by kernel_rfl) H ?_; clear H; intro w H hR
  have hS : SW m _ w := ⟨_, H⟩
  have hL := Le.refl m
  refine dstep hR (i := 0) rfl (by kernel_rfl) (fun _ _ _ h => h) (fun _ _ H' => (Runs.move A rfl)) A rfl hS ?_; clear A a hR; intro a A hR
  refine dstep hR (i := 1) rfl (by kernel_rfl) (fun _ _ _ h => h) (fun _ _ H' => (Runs.nilCheck A rfl)) A rfl hS ?_; clear A a hR; intro a A hR
  refine dstep hR (i := 2) rfl (by kernel_rfl) (fun _ _ _ h => h) (fun _ _ H' => (Runs.fa A rfl)) A rfl hS ?_; clear A a hR; intro a A hR
  refine dstep hR (i := 3) rfl (by kernel_rfl) (fun _ _ _ h => h) (fun _ _ H' => (Runs.ld1 A H' rfl rfl)) A rfl hS ?_; clear A a hR; intro a A hR
  refine dstep hR (i := 4) rfl (by kernel_rfl) (fun _ _ _ h => h) (fun _ _ H' => (Runs.move A rfl)) A rfl hS ?_; clear A a hR; intro a A hR
  refine dstep hR (i := 5) rfl (by kernel_rfl) (fun _ _ _ h => h) (fun _ _ H' => (Runs.add A rfl rfl (by omega))) A rfl hS ?_; clear A a hR; intro a A hR
  refine dstep hR (i := 6) rfl (by kernel_rfl) (fun _ _ _ h => h) (fun _ _ H' => (Runs.move A rfl)) A rfl hS ?_; clear A a hR; intro a A hR
  refine dstep hR (i := 7) rfl (by kernel_rfl) (fun _ _ _ h => h) (fun _ _ H' => (Runs.nilCheck A rfl)) A rfl hS ?_; clear A a hR; intro a A hR
  refine dstep hR (i := 8) rfl (by kernel_rfl) (fun _ _ _ h => h) (fun _ _ H' => (Runs.fa A rfl)) A rfl hS ?_; clear A a hR; intro a A hR
  refine dstep hR (i := 9) rfl (by kernel_rfl) (fun _ _ _ h => h) (fun _ _ H' => (Runs.ld1 A H' rfl rfl)) A rfl hS ?_; clear A a hR; intro a A hR
  refine dstep hR (i := 10) rfl (by kernel_rfl) (fun _ _ _ h => h) (fun _ _ H' => (Runs.lenS A rfl StrC.h)) A rfl hS ?_; clear A a hR; intro a A hR
  refine dstep hR (i := 11) rfl (by kernel_rfl) (fun _ _ _ h => h) (fun _ _ H' => (Runs.geq A rfl rfl)) A rfl hS ?_; clear A a hR; intro a A hR
  refine draw_done hR (by kernel_rfl) ?_
  clear hS hL hR
  refine cond_split A rfl (fun h1 => ?_) (fun h1 => ?_)
  · have g1 := h1
    try simp only [decide_eq_true_eq, decide_eq_false_iff_not, Bool.not_eq_true', Bool.not_eq_false', ne_eq, Decidable.not_not, Int.not_lt, Int.not_le] at g1
    refine wp_seq ?_
    refine wp_region_lit ?_
    refine step (Runs.assign A rfl) A rfl ?_; clear A a; intro a A
    refine wpList_nil ?_
    refine wp_ret ?_
    refine retV A rfl rfl hM H ⟨congrArg Value.bool ?_, rfl⟩
    have : ¬ (i + k < s.size) := by omega
    simp [isB, this]
  · have g1 := h1
    try simp only [decide_eq_true_eq, decide_eq_false_iff_not, Bool.not_eq_true', Bool.not_eq_false', ne_eq, Decidable.not_not, Int.not_lt, Int.not_le] at g1
    refine wp_skip ?_
    refine wp_seq ?_
    refine wp_seq ?_
    refine wp_region_lit ?_
    refine step (Runs.move A rfl) A rfl ?_; clear A a; intro a A
    refine step (Runs.lenL A rfl SlC.h) A rfl ?_; clear A a; intro a A
    refine step (Runs.move A rfl) A rfl ?_; clear A a; intro a A
    refine wpList_nil ?_
    refine wp_block ?_
    refine wp_loop_ghost (fun q a w => ∃ (j : Nat) (m' : Mem), q = cl.length - j ∧ (j ≤ cl.length ∧ (cl.take j).contains (cls (bt s (i + k)).toNat) = false) ∧ Le m m' ∧ Fr 46 a [(0, .pointer (some ⟨b, 0, none⟩)), (1, .int .i64 k), (21, .slice (some ⟨bc, 0, none⟩) cl.length c), (22, .int .i64 cl.length), (23, .int .i64 j)] [] ∧ St w0 w m' (pt b (scn s i tv) 244 :: pt bc (cl.map (.int .u8)) 5 :: Lf)) _ ⟨0, m, rfl, ⟨by omega, by simp⟩, Le.refl m, (Fr.cons A rfl (Fr.cons A rfl (Fr.cons A rfl (Fr.cons A rfl (Fr.cons A rfl (Fr.nil A)))))), H⟩ ?_
    clear A H; rintro q a w ⟨j, m, rfl, hinv, hm, A, H⟩
    have hM := hM.trans hm
    have hl1 := hm
    obtain ⟨hj, hno⟩ := hinv
    refine wp_seq ?_
    refine wp_region_lit ?_
    refine step (Runs.lss A rfl rfl) A rfl ?_; clear A a; intro a A
    refine wpList_nil ?_
    refine wp_seq ?_
    refine cond_split A rfl (fun h2 => ?_) (fun h2 => ?_)
    · have g2 := h2
      try simp only [decide_eq_true_eq, decide_eq_false_iff_not, Bool.not_eq_true', Bool.not_eq_false', ne_eq, Decidable.not_not, Int.not_lt, Int.not_le] at g2
      refine wp_skip ?_
      refine wp_seq ?_
      refine wp_block ?_
      refine wp_seq ?_
      refine wp_region_lit ?_
      refine step (Runs.indexAddr A rfl rfl SlC.h (by omega) (by omega)) A rfl ?_; clear A a; intro a A
      have hjl : j < cl.length := by omega
      obtain ⟨x, hjx⟩ : ∃ x, cl[j]? = some x := ⟨_, List.getElem?_eq_getElem hjl⟩
      refine step (Runs.ld1 A H rfl (v := .int .u8 x) (by simp [hjx])) A rfl ?_; clear A a; intro a A
      refine step (Runs.assign A rfl) A rfl ?_; clear A a; intro a A
      refine wpList_nil ?_
      refine wp_seq ?_
      refine draw_begin0 (by kernel_rfl) (N := 18) rfl (by kernel_rfl) H ?_; clear H; intro w H hR
      have hS : SW m _ w := ⟨_, H⟩
      have hL := Le.refl m
      refine dstep hR (i := 0) rfl (by kernel_rfl) (fun _ _ _ h => h) (fun _ _ H' => (Runs.move A rfl)) A rfl hS ?_; clear A a hR; intro a A hR
      refine dstep hR (i := 1) rfl (by kernel_rfl) (fun _ _ _ h => h) (fun _ _ H' => (Runs.move A rfl)) A rfl hS ?_; clear A a hR; intro a A hR
      refine dstep hR (i := 2) rfl (by kernel_rfl) (fun _ _ _ h => h) (fun _ _ H' => (Runs.nilCheck A rfl)) A rfl hS ?_; clear A a hR; intro a A hR
      refine dstep hR (i := 3) rfl (by kernel_rfl) (fun _ _ _ h => h) (fun _ _ H' => (Runs.fa A rfl)) A rfl hS ?_; clear A a hR; intro a A hR
      refine dstep hR (i := 4) rfl (by kernel_rfl) (fun _ _ _ h => h) (fun _ _ H' => (Runs.ld1 A H' rfl rfl)) A rfl hS ?_; clear A a hR; intro a A hR
      refine dstep hR (i := 5) rfl (by kernel_rfl) (fun _ _ _ h => h) (fun _ _ H' => (Runs.move A rfl)) A rfl hS ?_; clear A a hR; intro a A hR
      refine dstep hR (i := 6) rfl (by kernel_rfl) (fun _ _ _ h => h) (fun _ _ H' => (Runs.nilCheck A rfl)) A rfl hS ?_; clear A a hR; intro a A hR
      refine dstep hR (i := 7) rfl (by kernel_rfl) (fun _ _ _ h => h) (fun _ _ H' => (Runs.fa A rfl)) A rfl hS ?_; clear A a hR; intro a A hR
      refine dstep hR (i := 8) rfl (by kernel_rfl) (fun _ _ _ h => h) (fun _ _ H' => (Runs.ld1 A H' rfl rfl)) A rfl hS ?_; clear A a hR; intro a A hR
      refine dstep hR (i := 9) rfl (by kernel_rfl) (fun _ _ _ h => h) (fun _ _ H' => (Runs.move A rfl)) A rfl hS ?_; clear A a hR; intro a A hR
      refine dstep hR (i := 10) rfl (by kernel_rfl) (fun _ _ _ h => h) (fun _ _ H' => (Runs.add A rfl rfl (by omega))) A rfl hS ?_; clear A a hR; intro a A hR
      refine dstep hR (i := 11) rfl (by kernel_rfl) (fun _ _ _ h => h) (fun _ _ H' => (Runs.indexS A rfl rfl StrC.h (by omega) (by omega))) A rfl hS ?_; clear A a hR; intro a A hR
      refine dstep hR (i := 12) rfl (by kernel_rfl) (fun _ _ _ h => h) (fun _ _ H' => (Runs.nilCheck A rfl)) A rfl hS ?_; clear A a hR; intro a A hR
      refine dstep hR (i := 13) rfl (by kernel_rfl) (fun _ _ _ h => h) (fun _ _ H' => (Runs.fa A rfl)) A rfl hS ?_; clear A a hR; intro a A hR
      have hbt := bt_range s (i + k)
      have hbe : ((i : Int) + (k : Int)).toNat = i + k := by omega
      refine dstep hR (i := 14) rfl (by kernel_rfl) (fun _ _ _ h => h) (fun _ _ H' => (Runs.indexArr A rfl rfl (by rw [hbe]; omega) (by rw [hbe]; omega))) A rfl hS ?_; clear A a hR; intro a A hR
      refine dstep hR (i := 15) rfl (by kernel_rfl) (fun _ _ _ h => h) (fun _ _ H' => (Runs.ld1 A H' rfl (v := .int .u8 (cls (bt s (i + k)).toNat)) (by rw [Nat.mul_one, Nat.zero_add, hbe]; exact scn_cls _ _ _ _ (bt_lt s _)))) A rfl hS ?_; clear A a hR; intro a A hR
      refine dstep hR (i := 16) rfl (by kernel_rfl) (fun _ _ _ h => h) (fun _ _ H' => (Runs.move A rfl)) A rfl hS ?_; clear A a hR; intro a A hR
      refine dstep hR (i := 17) rfl (by kernel_rfl) (fun _ _ _ h => h) (fun _ _ H' => (Runs.eql A rfl rfl)) A rfl hS ?_; clear A a hR; intro a A hR
      refine draw_done hR (by kernel_rfl) ?_
      clear hS hL hR
      refine cond_split A rfl (fun h3 => ?_) (fun h3 => ?_)
      · have g3 := h3
        try simp only [decide_eq_true_eq, decide_eq_false_iff_not, Bool.not_eq_true', Bool.not_eq_false', ne_eq, Decidable.not_not, Int.not_lt, Int.not_le] at g3
        refine wp_seq ?_
        refine wp_region_lit ?_
        refine step (Runs.assign A rfl) A rfl ?_; clear A a; intro a A
        refine wpList_nil ?_
        refine wp_ret ?_
        refine retV A rfl rfl hM H ⟨congrArg Value.bool ?_, rfl⟩
        have h1 : i + k < s.size := by omega
        have h2 : cl.contains (cls (bt s (i + k)).toNat) = true := by rw [List.contains_iff_mem, g3]; exact List.mem_of_getElem? hjx
        rw [isB, decide_eq_true h1, h2]; rfl
      · have g3 := h3
        try simp only [decide_eq_true_eq, decide_eq_false_iff_not, Bool.not_eq_true', Bool.not_eq_false', ne_eq, Decidable.not_not, Int.not_lt, Int.not_le] at g3
        refine wp_skip ?_
        refine wp_region_lit ?_
        refine step (Runs.add A rfl rfl (by omega)) A rfl ?_; clear A a; intro a A
        refine step (Runs.move A rfl) A rfl ?_; clear A a; intro a A
        refine wpList_nil ?_
        exact ⟨_, by omega, j + 1, m, rfl, ⟨by omega, by rw [List.take_add_one, List.contains_eq_any_beq, List.any_append]; simp only [List.contains_eq_any_beq] at hno; rw [hno]; simp [hjx]; omega⟩, hl1, (Fr.cons A rfl (Fr.cons A rfl (Fr.cons A rfl (Fr.cons A rfl (Fr.cons A rfl (Fr.nil A)))))), H⟩
    · have g2 := h2
      try simp only [decide_eq_true_eq, decide_eq_false_iff_not, Bool.not_eq_true', Bool.not_eq_false', ne_eq, Decidable.not_not, Int.not_lt, Int.not_le] at g2
      refine wp_exit ?_
      refine wp_seq ?_
      refine wp_region_lit ?_
      refine step (Runs.assign A rfl) A rfl ?_; clear A a; intro a A
      refine wpList_nil ?_
      refine wp_ret ?_
      refine retV A rfl rfl hM H ⟨congrArg Value.bool ?_, rfl⟩
      have h2 : cl.take j = cl := List.take_of_length_le (by omega)
      rw [h2] at hno
      rw [isB, hno, Bool.and_false]

theorem c_lexer_scanner_take {b i k c : Nat} {s : ByteArray} {ad : Option Addr} {kind : Int} {toks : List Tok} {m : Mem} (hik : i + k ≤ s.size) (hs : s.size ≤ 9223372036854775807) (ht : toks.length ≤ 1000000) : Spec Tryz.prog 150 #[.pointer (some ⟨b, 0, none⟩), .int .i64 kind, .int .i64 k] m [pt b (scn s i (.slice ad toks.length c)) 244, row 170 3 ad toks.length c (tokCells toks)] (RetV fun _ v L => v = .bool true ∧ ∃ ad' c', L = [pt b (scn s ((i : Int) + k) (.slice ad' (toks.length + 1) c')) 244, row 170 3 ad' (toks.length + 1) c' (tokCells (toks ++ [⟨kind, s.extract i (i + k), i⟩]))]) := by
  refine Spec.enter Tryz.func150 rfl 45 Tryz.ntmps150 rfl fun a w0 Lf A H => ?_
  simp only [List.cons_append, List.nil_append] at H
  have hM := Le.refl m
  refine wp_seq ?_
  refine wp_region_lit ?_
  refine step (Runs.assign A rfl) A rfl ?_; clear A a; intro a A
  refine wpList_nil ?_
  refine wp_seq ?_
  refine draw_begin (ms := m) (Ls := [pt b (scn s i (.slice ad toks.length c)) 244]) (by kernel_rfl) (N := 31) rfl (by kernel_rfl) H ?_; clear H; intro w H hR
  have hS : SW m [pt b (scn s i (.slice ad toks.length c)) 244] w := H.sw (Le.refl m)
  have hL := Le.refl m
  refine dstep hR (i := 0) rfl (by kernel_rfl) (fun _ _ _ h => h) (fun _ _ H' => (Runs.move A rfl)) A rfl hS ?_; clear A a hR; intro a A hR
  refine dstep hR (i := 1) rfl (by kernel_rfl) (fun _ _ _ h => h) (fun _ _ H' => (Runs.move A rfl)) A rfl hS ?_; clear A a hR; intro a A hR
  refine dstep hR (i := 2) rfl (by kernel_rfl) (fun _ _ _ h => h) (fun _ _ H' => (Runs.nilCheck A rfl)) A rfl hS ?_; clear A a hR; intro a A hR
  refine dstep hR (i := 3) rfl (by kernel_rfl) (fun _ _ _ h => h) (fun _ _ H' => (Runs.fa A rfl)) A rfl hS ?_; clear A a hR; intro a A hR
  refine dstep hR (i := 4) rfl (by kernel_rfl) (fun _ _ _ h => h) (fun _ _ H' => (Runs.ld1 A H' rfl (scn_tok _ _ _))) A rfl hS ?_; clear A a hR; intro a A hR
  refine dstep hR (i := 5) rfl (by kernel_rfl) (fun _ _ _ h => h) (fun _ _ H' => (Runs.move A rfl)) A rfl hS ?_; clear A a hR; intro a A hR
  refine dstep hR (i := 6) rfl (by kernel_rfl) (fun _ _ _ h => h) (fun _ _ H' => (Runs.move A rfl)) A rfl hS ?_; clear A a hR; intro a A hR
  refine dstep hR (i := 7) rfl (by kernel_rfl) (fun _ _ _ h => h) (fun _ _ H' => (Runs.nilCheck A rfl)) A rfl hS ?_; clear A a hR; intro a A hR
  refine dstep hR (i := 8) rfl (by kernel_rfl) (fun _ _ _ h => h) (fun _ _ H' => (Runs.fa A rfl)) A rfl hS ?_; clear A a hR; intro a A hR
  refine dstep hR (i := 9) rfl (by kernel_rfl) (fun _ _ _ h => h) (fun _ _ H' => (Runs.ld1 A H' rfl rfl)) A rfl hS ?_; clear A a hR; intro a A hR
  refine dstep hR (i := 10) rfl (by kernel_rfl) (fun _ _ _ h => h) (fun _ _ H' => (Runs.move A rfl)) A rfl hS ?_; clear A a hR; intro a A hR
  refine dstep hR (i := 11) rfl (by kernel_rfl) (fun _ _ _ h => h) (fun _ _ H' => (Runs.nilCheck A rfl)) A rfl hS ?_; clear A a hR; intro a A hR
  refine dstep hR (i := 12) rfl (by kernel_rfl) (fun _ _ _ h => h) (fun _ _ H' => (Runs.fa A rfl)) A rfl hS ?_; clear A a hR; intro a A hR
  refine dstep hR (i := 13) rfl (by kernel_rfl) (fun _ _ _ h => h) (fun _ _ H' => (Runs.ld1 A H' rfl rfl)) A rfl hS ?_; clear A a hR; intro a A hR
  refine dstep hR (i := 14) rfl (by kernel_rfl) (fun _ _ _ h => h) (fun _ _ H' => (Runs.move A rfl)) A rfl hS ?_; clear A a hR; intro a A hR
  refine dstep hR (i := 15) rfl (by kernel_rfl) (fun _ _ _ h => h) (fun _ _ H' => (Runs.nilCheck A rfl)) A rfl hS ?_; clear A a hR; intro a A hR
  refine dstep hR (i := 16) rfl (by kernel_rfl) (fun _ _ _ h => h) (fun _ _ H' => (Runs.fa A rfl)) A rfl hS ?_; clear A a hR; intro a A hR
  refine dstep hR (i := 17) rfl (by kernel_rfl) (fun _ _ _ h => h) (fun _ _ H' => (Runs.ld1 A H' rfl rfl)) A rfl hS ?_; clear A a hR; intro a A hR
  refine dstep hR (i := 18) rfl (by kernel_rfl) (fun _ _ _ h => h) (fun _ _ H' => (Runs.move A rfl)) A rfl hS ?_; clear A a hR; intro a A hR
  refine dstep hR (i := 19) rfl (by kernel_rfl) (fun _ _ _ h => h) (fun _ _ H' => (Runs.add A rfl rfl (by omega))) A rfl hS ?_; clear A a hR; intro a A hR
  refine dstep hR (i := 20) rfl (by kernel_rfl) (fun _ _ _ h => h) (fun _ _ H' => (Runs.sliceS A rfl rfl rfl StrC.h (by omega) (by omega) (by omega))) A rfl hS ?_; clear A a hR; intro a A hR
  refine dstep hR (i := 21) rfl (by kernel_rfl) (fun _ _ _ h => h) (fun _ _ H' => (Runs.move A rfl)) A rfl hS ?_; clear A a hR; intro a A hR
  refine dstep hR (i := 22) rfl (by kernel_rfl) (fun _ _ _ h => h) (fun _ _ H' => (Runs.nilCheck A rfl)) A rfl hS ?_; clear A a hR; intro a A hR
  refine dstep hR (i := 23) rfl (by kernel_rfl) (fun _ _ _ h => h) (fun _ _ H' => (Runs.fa A rfl)) A rfl hS ?_; clear A a hR; intro a A hR
  refine dstep hR (i := 24) rfl (by kernel_rfl) (fun _ _ _ h => h) (fun _ _ H' => (Runs.ld1 A H' rfl rfl)) A rfl hS ?_; clear A a hR; intro a A hR
  refine dstep hR (i := 25) rfl (by kernel_rfl) (fun _ _ _ h => h) (fun _ _ H' => (Runs.build A rfl rfl rfl)) A rfl hS ?_; clear A a hR; intro a A hR
  refine dlist hR (i := 26) rfl (by kernel_rfl) ?_
  have hR := hR.next (i := 26) (by kernel_rfl)
  refine step_slice A H rfl rfl rfl rfl rfl rfl ?_; intro b1 a w A H
  refine wpList_nil ?_
  clear hS; refine and_keep (H.sw hL) fun hS => ?_
  refine dlist hR (i := 27) rfl (by kernel_rfl) ?_
  have hR := hR.next (i := 27) (by kernel_rfl)
  refine step_append A H rfl rfl rfl rfl (by decide) (by omega) (by simp only [maxLen]; omega) rfl rfl ?_; clear A a; intro ad1 c1 a w A H
  refine wpList_nil ?_
  clear hS; refine and_keep (H.sw hL) fun hS => ?_
  refine dstep hR (i := 28) rfl (by kernel_rfl) (fun _ _ _ h => h) (fun _ _ H' => (Runs.nilCheck A rfl)) A rfl hS ?_; clear A a hR; intro a A hR
  refine dstep hR (i := 29) rfl (by kernel_rfl) (fun _ _ _ h => h) (fun _ _ H' => (Runs.fa A rfl)) A rfl hS ?_; clear A a hR; intro a A hR
  refine dlist hR (i := 30) rfl (by kernel_rfl) ?_
  have hR := hR.next (i := 30) (by kernel_rfl)
  refine step_store A H rfl rfl rfl rfl rfl (scn_set _ _ _ _) ?_; intro w H
  refine wpList_nil ?_
  refine and_last (by kernel_rfl) ?_
  refine draw_done hR (by kernel_rfl) ?_
  clear hS hL hR
  refine wp_seq ?_
  refine wp_region_lit ?_
  refine step (Runs.move A rfl) A rfl ?_; clear A a; intro a A
  refine step (Runs.nilCheck A rfl) A rfl ?_; clear A a; intro a A
  refine step (Runs.fa A rfl) A rfl ?_; clear A a; intro a A
  refine step (Runs.ld1 A H rfl rfl) A rfl ?_; clear A a; intro a A
  refine step (Runs.move A rfl) A rfl ?_; clear A a; intro a A
  refine step (Runs.add A rfl rfl (by omega)) A rfl ?_; clear A a; intro a A
  refine step (Runs.nilCheck A rfl) A rfl ?_; clear A a; intro a A
  refine step (Runs.fa A rfl) A rfl ?_; clear A a; intro a A
  refine step_store A H rfl rfl rfl rfl rfl (scn_at _ _ _ _) ?_; intro w H
  refine wpList_nil ?_
  refine wp_seq ?_
  refine wp_region_lit ?_
  refine step (Runs.assign A rfl) A rfl ?_; clear A a; intro a A
  refine wpList_nil ?_
  refine wp_ret ?_
  have e1 : ((i : Int)).toNat = i := by omega
  have e2 : ((i : Int) + (k : Int)).toNat = i + k := by omega
  rw [e1, e2] at H
  have e3 : tokCells toks ++ [.int .i64 kind, .string (s.extract i (i + k)), .int .i64 i] = tokCells (toks ++ [⟨kind, s.extract i (i + k), i⟩]) := by simp [tokCells, Tok.cells]
  rw [e3] at H
  refine retV A rfl rfl hM H ⟨rfl, ad1, c1, rfl⟩

theorem atoi_range {l : List UInt8} {n : Int} (h : Lib.atoiAll l = .ok n) : -9223372036854775808 ≤ n ∧ n ≤ 9223372036854775807 := by
  unfold Lib.atoiAll at h
  cases l with
  | nil => cases h
  | cons c r =>
    simp only at h
    split at h
    · cases h
    · cases h
    · split at h
      · cases h
      · split at h
        · cases h
        · injection h with h
          rename_i h1 h2
          split at h <;> omega
/-- The kind of letters and digits. -/
def wkind (s : ByteArray) : Int :=
  if s = ⟨#[]⟩ then 0 else if 97 ≤ bt s 0 ∧ bt s 0 ≤ 122 then 1 else
  match Lib.atoiAll s.data.toList with
  | .ok n => if n > 1000000 then 0 else if (⟨(Lib.itoa n).toArray⟩ : ByteArray) ≠ s then 0 else 2
  | _ => 0
theorem size_pos {s : ByteArray} (h : ¬ s = ⟨#[]⟩) : 0 < s.size := by
  rcases Nat.eq_zero_or_pos s.size with h0 | h0
  · exact absurd (by cases s with | mk d => exact congrArg ByteArray.mk (Array.eq_empty_of_size_eq_zero h0)) h
  · exact h0

theorem c_lexer_wordKind {s : ByteArray} {m : Mem} (G : Glob m) (hs : s.size ≤ 140737488355328) : Spec Tryz.prog 182 #[.string s] m [] (RetE (.int .i64 (wkind s))) := by
  refine Spec.enter0 Tryz.func182 rfl 32 Tryz.ntmps182 rfl fun a w0 Lf A H => ?_
  have hM := Le.refl m
  refine wp_seq ?_
  refine wp_region_lit ?_
  refine step (Runs.assign A rfl) A rfl ?_; clear A a; intro a A
  refine wpList_nil ?_
  refine wp_seq ?_
  refine wp_seq ?_
  refine wp_region_lit ?_
  refine step (Runs.move A rfl) A rfl ?_; clear A a; intro a A
  refine step (Runs.seql A rfl rfl) A rfl ?_; clear A a; intro a A
  refine wpList_nil ?_
  refine cond_split A rfl (fun h1 => ?_) (fun h1 => ?_)
  · have g1 := h1
    try simp only [decide_eq_true_eq, decide_eq_false_iff_not, Bool.not_eq_true', Bool.not_eq_false', ne_eq, Decidable.not_not, Int.not_lt, Int.not_le] at g1
    refine wp_seq ?_
    refine wp_region_lit ?_
    refine step (Runs.assign A rfl) A rfl ?_; clear A a; intro a A
    refine wpList_nil ?_
    refine wp_ret ?_
    refine retF A rfl rfl hM H ?_
    simp only [wkind, if_pos g1]
  · have g1 := h1
    try simp only [decide_eq_true_eq, decide_eq_false_iff_not, Bool.not_eq_true', Bool.not_eq_false', ne_eq, Decidable.not_not, Int.not_lt, Int.not_le] at g1
    refine wp_skip ?_
    refine wp_seq ?_
    refine wp_seq ?_
    refine wp_region_lit ?_
    refine step (Runs.move A rfl) A rfl ?_; clear A a; intro a A
    have hpos := size_pos g1
    refine step (Runs.indexS A rfl rfl StrC.h (by omega) (by omega)) A rfl ?_; clear A a; intro a A
    refine step (Runs.geq A rfl rfl) A rfl ?_; clear A a; intro a A
    refine step (Runs.move A rfl) A rfl ?_; clear A a; intro a A
    refine onBool A (dj := 10) rfl (fun h2 => ?_) (fun h2 => ?_)
    · have g2 := h2
      try simp only [decide_eq_true_eq, decide_eq_false_iff_not, Bool.not_eq_true', Bool.not_eq_false', ne_eq, Decidable.not_not, Int.not_lt, Int.not_le] at g2
      refine stepG (dj := 10) rfl rfl h2 (Runs.move A rfl) A rfl ?_; clear A a; intro a A
      refine stepG (dj := 10) rfl rfl h2 (Runs.indexS A rfl rfl StrC.h (by omega) (by omega)) A rfl ?_; clear A a; intro a A
      refine stepG (dj := 10) rfl rfl h2 (Runs.leq A rfl rfl) A rfl ?_; clear A a; intro a A
      refine step (Runs.pickT A rfl h2 rfl) A rfl ?_; clear A a; intro a A
      refine wpList_nil ?_
      refine cond_split A rfl (fun h3 => ?_) (fun h3 => ?_)
      · have g3 := h3
        try simp only [decide_eq_true_eq, decide_eq_false_iff_not, Bool.not_eq_true', Bool.not_eq_false', ne_eq, Decidable.not_not, Int.not_lt, Int.not_le] at g3
        refine wp_seq ?_
        refine wp_region_lit ?_
        refine step (Runs.assign A rfl) A rfl ?_; clear A a; intro a A
        refine wpList_nil ?_
        refine wp_ret ?_
        refine retF A rfl rfl hM H ?_
        try simp only [show Int.toNat 0 = 0 from rfl] at *
        first | (simp [wkind, *]; done) | (simp [wkind, *]; intros; exfalso; omega) | (have hc : ¬ (97 ≤ bt s 0 ∧ bt s 0 ≤ 122) := (by omega); rw [wkind, if_neg g1, if_neg hc, hn]; simp [*]; done)
      · have g3 := h3
        try simp only [decide_eq_true_eq, decide_eq_false_iff_not, Bool.not_eq_true', Bool.not_eq_false', ne_eq, Decidable.not_not, Int.not_lt, Int.not_le] at g3
        refine wp_skip ?_
        refine wp_seq ?_
        refine wp_seq ?_
        refine wp_region_lit ?_
        refine step (Runs.move A rfl) A rfl ?_; clear A a; intro a A
        refine step_callF A rfl rfl (c_Atoi G (by omega)) H ?_
        rintro v5_1 a w m hm hat A H
        have hM := hM.trans hm
        have G := G.mono hm
        rcases hat with ⟨nn, hn, rfl⟩ | ⟨hno, nn, tt, pp, rfl⟩
        · have hr := atoi_range hn
          refine step (Runs.move A rfl) A rfl ?_; clear A a; intro a A
          refine step (Runs.extract A rfl rfl) A rfl ?_; clear A a; intro a A
          refine step (Runs.extract A rfl rfl) A rfl ?_; clear A a; intro a A
          refine step (Runs.assign A rfl) A rfl ?_; clear A a; intro a A
          refine step (Runs.assign A rfl) A rfl ?_; clear A a; intro a A
          refine wpList_nil ?_
          refine wp_seq ?_
          refine wp_region_lit ?_
          refine step (Runs.move A rfl) A rfl ?_; clear A a; intro a A
          refine step (Runs.nilErr A rfl (by kernel_rfl)) A rfl ?_; clear A a; intro a A
          refine step (Runs.move A rfl) A rfl ?_; clear A a; intro a A
          refine stepG (dj := 22) rfl rfl rfl (Runs.move A rfl) A rfl ?_; clear A a; intro a A
          refine stepG (dj := 22) rfl rfl rfl (Runs.gtr A rfl rfl) A rfl ?_; clear A a; intro a A
          refine step (Runs.pickF A rfl rfl rfl) A rfl ?_; clear A a; intro a A
          refine step (Runs.move A rfl) A rfl ?_; clear A a; intro a A
          refine onBool A (dj := 26) rfl (fun h4 => ?_) (fun h4 => ?_)
          · have g4 := h4
            try simp only [decide_eq_true_eq, decide_eq_false_iff_not, Bool.not_eq_true', Bool.not_eq_false', ne_eq, Decidable.not_not, Int.not_lt, Int.not_le] at g4
            refine stepSkip (dj := 26) rfl rfl h4 A rfl ?_; clear A a; intro a A
            refine stepSkip (dj := 26) rfl rfl h4 A rfl ?_; clear A a; intro a A
            refine stepSkip (dj := 26) rfl rfl h4 A rfl ?_; clear A a; intro a A
            refine stepSkip (dj := 26) rfl rfl h4 A rfl ?_; clear A a; intro a A
            refine step (Runs.pickT A rfl h4 rfl) A rfl ?_; clear A a; intro a A
            refine wpList_nil ?_
            refine cond_true A rfl rfl ?_
            refine wp_seq ?_
            refine wp_region_lit ?_
            refine step (Runs.assign A rfl) A rfl ?_; clear A a; intro a A
            refine wpList_nil ?_
            refine wp_ret ?_
            refine retF A rfl rfl hM H ?_
            try simp only [show Int.toNat 0 = 0 from rfl] at *
            first | (simp [wkind, *]; done) | (simp [wkind, *]; intros; exfalso; omega) | (have hc : ¬ (97 ≤ bt s 0 ∧ bt s 0 ≤ 122) := (by omega); rw [wkind, if_neg g1, if_neg hc, hn]; simp [*]; done)
          · have g4 := h4
            try simp only [decide_eq_true_eq, decide_eq_false_iff_not, Bool.not_eq_true', Bool.not_eq_false', ne_eq, Decidable.not_not, Int.not_lt, Int.not_le] at g4
            refine stepG (dj := 26) rfl rfl h4 (Runs.move A rfl) A rfl ?_; clear A a; intro a A
            refine step_callFG (dj := 26) rfl rfl h4 A rfl rfl (c_Itoa G (by omega) (by omega)) H ?_
            rintro v6_8 a w m hm rfl A H
            have hM := hM.trans hm
            have G := G.mono hm
            refine stepG (dj := 26) rfl rfl h4 (Runs.move A rfl) A rfl ?_; clear A a; intro a A
            refine stepG (dj := 26) rfl rfl h4 (Runs.sneq A rfl rfl) A rfl ?_; clear A a; intro a A
            refine step (Runs.pickF A rfl h4 rfl) A rfl ?_; clear A a; intro a A
            refine wpList_nil ?_
            refine cond_split A rfl (fun h5 => ?_) (fun h5 => ?_)
            · have g5 := h5
              try simp only [decide_eq_true_eq, decide_eq_false_iff_not, Bool.not_eq_true', Bool.not_eq_false', ne_eq, Decidable.not_not, Int.not_lt, Int.not_le] at g5
              refine wp_seq ?_
              refine wp_region_lit ?_
              refine step (Runs.assign A rfl) A rfl ?_; clear A a; intro a A
              refine wpList_nil ?_
              refine wp_ret ?_
              refine retF A rfl rfl hM H ?_
              try simp only [show Int.toNat 0 = 0 from rfl] at *
              first | (simp [wkind, *]; done) | (simp [wkind, *]; intros; exfalso; omega) | (have hc : ¬ (97 ≤ bt s 0 ∧ bt s 0 ≤ 122) := (by omega); rw [wkind, if_neg g1, if_neg hc, hn]; simp [*]; done)
            · have g5 := h5
              try simp only [decide_eq_true_eq, decide_eq_false_iff_not, Bool.not_eq_true', Bool.not_eq_false', ne_eq, Decidable.not_not, Int.not_lt, Int.not_le] at g5
              refine wp_skip ?_
              refine wp_seq ?_
              refine wp_region_lit ?_
              refine step (Runs.assign A rfl) A rfl ?_; clear A a; intro a A
              refine wpList_nil ?_
              refine wp_ret ?_
              refine retF A rfl rfl hM H ?_
              try simp only [show Int.toNat 0 = 0 from rfl] at *
              first | (simp [wkind, *]; done) | (simp [wkind, *]; intros; exfalso; omega) | (have hc : ¬ (97 ≤ bt s 0 ∧ bt s 0 ≤ 122) := (by omega); rw [wkind, if_neg g1, if_neg hc, hn]; simp [*]; done)
        · refine step (Runs.move A rfl) A rfl ?_; clear A a; intro a A
          refine step (Runs.extract A rfl rfl) A rfl ?_; clear A a; intro a A
          refine step (Runs.extract A rfl rfl) A rfl ?_; clear A a; intro a A
          refine step (Runs.assign A rfl) A rfl ?_; clear A a; intro a A
          refine step (Runs.assign A rfl) A rfl ?_; clear A a; intro a A
          refine wpList_nil ?_
          refine wp_seq ?_
          refine wp_region_lit ?_
          refine step (Runs.move A rfl) A rfl ?_; clear A a; intro a A
          refine step (Runs.someErr A rfl (by kernel_rfl)) A rfl ?_; clear A a; intro a A
          refine step (Runs.move A rfl) A rfl ?_; clear A a; intro a A
          refine stepSkip (dj := 22) rfl rfl rfl A rfl ?_; clear A a; intro a A
          refine stepSkip (dj := 22) rfl rfl rfl A rfl ?_; clear A a; intro a A
          refine step (Runs.pickT A rfl rfl rfl) A rfl ?_; clear A a; intro a A
          refine step (Runs.move A rfl) A rfl ?_; clear A a; intro a A
          refine stepSkip (dj := 26) rfl rfl rfl A rfl ?_; clear A a; intro a A
          refine stepSkip (dj := 26) rfl rfl rfl A rfl ?_; clear A a; intro a A
          refine stepSkip (dj := 26) rfl rfl rfl A rfl ?_; clear A a; intro a A
          refine stepSkip (dj := 26) rfl rfl rfl A rfl ?_; clear A a; intro a A
          refine step (Runs.pickT A rfl rfl rfl) A rfl ?_; clear A a; intro a A
          refine wpList_nil ?_
          refine cond_true A rfl rfl ?_
          refine wp_seq ?_
          refine wp_region_lit ?_
          refine step (Runs.assign A rfl) A rfl ?_; clear A a; intro a A
          refine wpList_nil ?_
          refine wp_ret ?_
          refine retF A rfl rfl hM H ?_
          try simp only [show Int.toNat 0 = 0 from rfl] at *
          first | (simp [wkind, *]; done) | (simp [wkind, *]; intros; exfalso; omega) | (have hc : ¬ (97 ≤ bt s 0 ∧ bt s 0 ≤ 122) := (by omega); rw [wkind, if_neg g1, if_neg hc, hn]; simp [*]; done)
    · have g2 := h2
      try simp only [decide_eq_true_eq, decide_eq_false_iff_not, Bool.not_eq_true', Bool.not_eq_false', ne_eq, Decidable.not_not, Int.not_lt, Int.not_le] at g2
      refine stepSkip (dj := 10) rfl rfl h2 A rfl ?_; clear A a; intro a A
      refine stepSkip (dj := 10) rfl rfl h2 A rfl ?_; clear A a; intro a A
      refine stepSkip (dj := 10) rfl rfl h2 A rfl ?_; clear A a; intro a A
      refine step (Runs.pickF A rfl h2 rfl) A rfl ?_; clear A a; intro a A
      refine wpList_nil ?_
      refine cond_false A rfl rfl ?_
      refine wp_skip ?_
      refine wp_seq ?_
      refine wp_seq ?_
      refine wp_region_lit ?_
      refine step (Runs.move A rfl) A rfl ?_; clear A a; intro a A
      refine step_callF A rfl rfl (c_Atoi G (by omega)) H ?_
      rintro v5_1 a w m hm hat A H
      have hM := hM.trans hm
      have G := G.mono hm
      rcases hat with ⟨nn, hn, rfl⟩ | ⟨hno, nn, tt, pp, rfl⟩
      · have hr := atoi_range hn
        refine step (Runs.move A rfl) A rfl ?_; clear A a; intro a A
        refine step (Runs.extract A rfl rfl) A rfl ?_; clear A a; intro a A
        refine step (Runs.extract A rfl rfl) A rfl ?_; clear A a; intro a A
        refine step (Runs.assign A rfl) A rfl ?_; clear A a; intro a A
        refine step (Runs.assign A rfl) A rfl ?_; clear A a; intro a A
        refine wpList_nil ?_
        refine wp_seq ?_
        refine wp_region_lit ?_
        refine step (Runs.move A rfl) A rfl ?_; clear A a; intro a A
        refine step (Runs.nilErr A rfl (by kernel_rfl)) A rfl ?_; clear A a; intro a A
        refine step (Runs.move A rfl) A rfl ?_; clear A a; intro a A
        refine stepG (dj := 22) rfl rfl rfl (Runs.move A rfl) A rfl ?_; clear A a; intro a A
        refine stepG (dj := 22) rfl rfl rfl (Runs.gtr A rfl rfl) A rfl ?_; clear A a; intro a A
        refine step (Runs.pickF A rfl rfl rfl) A rfl ?_; clear A a; intro a A
        refine step (Runs.move A rfl) A rfl ?_; clear A a; intro a A
        refine onBool A (dj := 26) rfl (fun h6 => ?_) (fun h6 => ?_)
        · have g6 := h6
          try simp only [decide_eq_true_eq, decide_eq_false_iff_not, Bool.not_eq_true', Bool.not_eq_false', ne_eq, Decidable.not_not, Int.not_lt, Int.not_le] at g6
          refine stepSkip (dj := 26) rfl rfl h6 A rfl ?_; clear A a; intro a A
          refine stepSkip (dj := 26) rfl rfl h6 A rfl ?_; clear A a; intro a A
          refine stepSkip (dj := 26) rfl rfl h6 A rfl ?_; clear A a; intro a A
          refine stepSkip (dj := 26) rfl rfl h6 A rfl ?_; clear A a; intro a A
          refine step (Runs.pickT A rfl h6 rfl) A rfl ?_; clear A a; intro a A
          refine wpList_nil ?_
          refine cond_true A rfl rfl ?_
          refine wp_seq ?_
          refine wp_region_lit ?_
          refine step (Runs.assign A rfl) A rfl ?_; clear A a; intro a A
          refine wpList_nil ?_
          refine wp_ret ?_
          refine retF A rfl rfl hM H ?_
          try simp only [show Int.toNat 0 = 0 from rfl] at *
          first | (simp [wkind, *]; done) | (simp [wkind, *]; intros; exfalso; omega) | (have hc : ¬ (97 ≤ bt s 0 ∧ bt s 0 ≤ 122) := (by omega); rw [wkind, if_neg g1, if_neg hc, hn]; simp [*]; done)
        · have g6 := h6
          try simp only [decide_eq_true_eq, decide_eq_false_iff_not, Bool.not_eq_true', Bool.not_eq_false', ne_eq, Decidable.not_not, Int.not_lt, Int.not_le] at g6
          refine stepG (dj := 26) rfl rfl h6 (Runs.move A rfl) A rfl ?_; clear A a; intro a A
          refine step_callFG (dj := 26) rfl rfl h6 A rfl rfl (c_Itoa G (by omega) (by omega)) H ?_
          rintro v6_8 a w m hm rfl A H
          have hM := hM.trans hm
          have G := G.mono hm
          refine stepG (dj := 26) rfl rfl h6 (Runs.move A rfl) A rfl ?_; clear A a; intro a A
          refine stepG (dj := 26) rfl rfl h6 (Runs.sneq A rfl rfl) A rfl ?_; clear A a; intro a A
          refine step (Runs.pickF A rfl h6 rfl) A rfl ?_; clear A a; intro a A
          refine wpList_nil ?_
          refine cond_split A rfl (fun h7 => ?_) (fun h7 => ?_)
          · have g7 := h7
            try simp only [decide_eq_true_eq, decide_eq_false_iff_not, Bool.not_eq_true', Bool.not_eq_false', ne_eq, Decidable.not_not, Int.not_lt, Int.not_le] at g7
            refine wp_seq ?_
            refine wp_region_lit ?_
            refine step (Runs.assign A rfl) A rfl ?_; clear A a; intro a A
            refine wpList_nil ?_
            refine wp_ret ?_
            refine retF A rfl rfl hM H ?_
            try simp only [show Int.toNat 0 = 0 from rfl] at *
            first | (simp [wkind, *]; done) | (simp [wkind, *]; intros; exfalso; omega) | (have hc : ¬ (97 ≤ bt s 0 ∧ bt s 0 ≤ 122) := (by omega); rw [wkind, if_neg g1, if_neg hc, hn]; simp [*]; done)
          · have g7 := h7
            try simp only [decide_eq_true_eq, decide_eq_false_iff_not, Bool.not_eq_true', Bool.not_eq_false', ne_eq, Decidable.not_not, Int.not_lt, Int.not_le] at g7
            refine wp_skip ?_
            refine wp_seq ?_
            refine wp_region_lit ?_
            refine step (Runs.assign A rfl) A rfl ?_; clear A a; intro a A
            refine wpList_nil ?_
            refine wp_ret ?_
            refine retF A rfl rfl hM H ?_
            try simp only [show Int.toNat 0 = 0 from rfl] at *
            first | (simp [wkind, *]; done) | (simp [wkind, *]; intros; exfalso; omega) | (have hc : ¬ (97 ≤ bt s 0 ∧ bt s 0 ≤ 122) := (by omega); rw [wkind, if_neg g1, if_neg hc, hn]; simp [*]; done)
      · refine step (Runs.move A rfl) A rfl ?_; clear A a; intro a A
        refine step (Runs.extract A rfl rfl) A rfl ?_; clear A a; intro a A
        refine step (Runs.extract A rfl rfl) A rfl ?_; clear A a; intro a A
        refine step (Runs.assign A rfl) A rfl ?_; clear A a; intro a A
        refine step (Runs.assign A rfl) A rfl ?_; clear A a; intro a A
        refine wpList_nil ?_
        refine wp_seq ?_
        refine wp_region_lit ?_
        refine step (Runs.move A rfl) A rfl ?_; clear A a; intro a A
        refine step (Runs.someErr A rfl (by kernel_rfl)) A rfl ?_; clear A a; intro a A
        refine step (Runs.move A rfl) A rfl ?_; clear A a; intro a A
        refine stepSkip (dj := 22) rfl rfl rfl A rfl ?_; clear A a; intro a A
        refine stepSkip (dj := 22) rfl rfl rfl A rfl ?_; clear A a; intro a A
        refine step (Runs.pickT A rfl rfl rfl) A rfl ?_; clear A a; intro a A
        refine step (Runs.move A rfl) A rfl ?_; clear A a; intro a A
        refine stepSkip (dj := 26) rfl rfl rfl A rfl ?_; clear A a; intro a A
        refine stepSkip (dj := 26) rfl rfl rfl A rfl ?_; clear A a; intro a A
        refine stepSkip (dj := 26) rfl rfl rfl A rfl ?_; clear A a; intro a A
        refine stepSkip (dj := 26) rfl rfl rfl A rfl ?_; clear A a; intro a A
        refine step (Runs.pickT A rfl rfl rfl) A rfl ?_; clear A a; intro a A
        refine wpList_nil ?_
        refine cond_true A rfl rfl ?_
        refine wp_seq ?_
        refine wp_region_lit ?_
        refine step (Runs.assign A rfl) A rfl ?_; clear A a; intro a A
        refine wpList_nil ?_
        refine wp_ret ?_
        refine retF A rfl rfl hM H ?_
        try simp only [show Int.toNat 0 = 0 from rfl] at *
        first | (simp [wkind, *]; done) | (simp [wkind, *]; intros; exfalso; omega) | (have hc : ¬ (97 ≤ bt s 0 ∧ bt s 0 ≤ 122) := (by omega); rw [wkind, if_neg g1, if_neg hc, hn]; simp [*]; done)

theorem c_lexer_scanner_word {b i c : Nat} {s : ByteArray} {ad : Option Addr} {toks : List Tok} {m : Mem} (G : Glob m) (hi : i ≤ s.size) (hs : s.size ≤ 140737488355328) (ht : toks.length ≤ 100000) : Spec Tryz.prog 148 #[.pointer (some ⟨b, 0, none⟩)] m [pt b (scn s i (.slice ad toks.length c)) 244, row 170 3 ad toks.length c (tokCells toks)] (RetV fun _ v L => (wkind (s.extract i (i + wl s i)) ≠ 0 ∧ v = .bool true ∧ ∃ ad' c', L = [pt b (scn s ((i : Int) + (wl s i : Int)) (.slice ad' (toks.length + 1) c')) 244, row 170 3 ad' (toks.length + 1) c' (tokCells (toks ++ [⟨wkind (s.extract i (i + wl s i)), s.extract i (i + wl s i), i⟩]))]) ∨ (wkind (s.extract i (i + wl s i)) = 0 ∧ v = .bool false ∧ L = [pt b (scn s i (.slice ad toks.length c)) 244, row 170 3 ad toks.length c (tokCells toks)])) := by
  refine Spec.enter Tryz.func148 rfl 33 Tryz.ntmps148 rfl fun a w0 Lf A H => ?_
  simp only [List.cons_append, List.nil_append] at H
  have hM := Le.refl m
  refine wp_seq ?_
  refine wp_region_lit ?_
  refine step (Runs.assign A rfl) A rfl ?_; clear A a; intro a A
  refine wpList_nil ?_
  refine wp_seq ?_
  refine wp_region_lit ?_
  refine step (Runs.assign A rfl) A rfl ?_; clear A a; intro a A
  refine wpList_nil ?_
  refine wp_seq ?_
  refine wp_block ?_
  refine wp_loop_ghost (fun q a w => ∃ (n : Nat) (m' : Mem), q = s.size + 1 - n ∧ (i + n ≤ s.size ∧ ∀ j, j < n → isB s (i + j) [1, 2] = true) ∧ Le m m' ∧ Fr 33 a [(0, .pointer (some ⟨b, 0, none⟩)), (3, .int .i64 n)] [] ∧ St w0 w m' (pt b (scn s i (.slice ad toks.length c)) 244 :: row 170 3 ad toks.length c (tokCells toks) :: Lf)) _ ⟨0, m, rfl, ⟨by omega, fun j hj => absurd hj (by omega)⟩, Le.refl m, (Fr.cons A rfl (Fr.cons A rfl (Fr.nil A))), H⟩ ?_
  clear A H; rintro q a w ⟨n, m, rfl, hinv, hm, A, H⟩
  have hM := hM.trans hm
  have G := G.mono hm
  have hl1 := hm
  obtain ⟨hn, hall⟩ := hinv
  refine wp_seq ?_
  refine wp_seq ?_
  refine wp_region_lit ?_
  refine step (Runs.move A rfl) A rfl ?_; clear A a; intro a A
  refine step (Runs.move A rfl) A rfl ?_; clear A a; intro a A
  refine step_slice A H rfl rfl rfl rfl rfl rfl ?_; intro b1 a w A H
  refine step_callS A rfl rfl (c_lexer_scanner_is (b := b) (s := s) (i := i) (k := n) (tv := .slice ad toks.length c) (cl := [1, 2]) (bcs := [.int .u8 1, .int .u8 2]) rfl rfl (by omega) (by decide)) H ?_
  rintro v2_3 a w m L' hm ⟨rfl, rfl⟩ A H
  simp only [List.cons_append, List.nil_append] at H
  have hM := hM.trans hm
  have hl1 := hl1.trans hm
  have G := G.mono hm
  refine wpList_nil ?_
  refine cond_split A rfl (fun h1 => ?_) (fun h1 => ?_)
  · have g1 := h1
    try simp only [decide_eq_true_eq, decide_eq_false_iff_not, Bool.not_eq_true', Bool.not_eq_false', ne_eq, Decidable.not_not, Int.not_lt, Int.not_le] at g1
    refine wp_skip ?_
    refine wp_block ?_
    refine wp_region_lit ?_
    refine step (Runs.move A rfl) A rfl ?_; clear A a; intro a A
    refine step (Runs.add A rfl rfl (by omega)) A rfl ?_; clear A a; intro a A
    refine step (Runs.assign A rfl) A rfl ?_; clear A a; intro a A
    refine wpList_nil ?_
    have hlt : i + n < s.size := by have := h1; simp [isB] at this; omega
    exact ⟨_, by omega, n + 1, m, rfl, ⟨by omega, fun j hj => (Nat.lt_succ_iff_lt_or_eq.1 hj).elim (hall j) (fun h => (by subst h; exact h1))⟩, hl1, (Fr.cons A rfl (Fr.cons A rfl (Fr.nil A))), H.subH⟩
  · have g1 := h1
    try simp only [decide_eq_true_eq, decide_eq_false_iff_not, Bool.not_eq_true', Bool.not_eq_false', ne_eq, Decidable.not_not, Int.not_lt, Int.not_le] at g1
    refine wp_exit ?_
    refine wp_seq ?_
    refine wp_seq ?_
    refine draw_begin (ms := m) (Ls := [pt b (scn s i (.slice ad toks.length c)) 244]) (by kernel_rfl) (N := 17) rfl (by kernel_rfl) H ?_; clear H; intro w H hR
    have hS : SW m [pt b (scn s i (.slice ad toks.length c)) 244] w := H.sw (Le.refl m)
    have hL := Le.refl m
    have hwl := wl_of hall (by simpa using h1)
    refine dstep hR (i := 0) rfl (by kernel_rfl) (fun _ _ _ h => h) (fun _ _ H' => (Runs.move A rfl)) A rfl hS ?_; clear A a hR; intro a A hR
    refine dstep hR (i := 1) rfl (by kernel_rfl) (fun _ _ _ h => h) (fun _ _ H' => (Runs.nilCheck A rfl)) A rfl hS ?_; clear A a hR; intro a A hR
    refine dstep hR (i := 2) rfl (by kernel_rfl) (fun _ _ _ h => h) (fun _ _ H' => (Runs.fa A rfl)) A rfl hS ?_; clear A a hR; intro a A hR
    refine dstep hR (i := 3) rfl (by kernel_rfl) (fun _ _ _ h => h) (fun _ _ H' => (Runs.ld1 A H' rfl rfl)) A rfl hS ?_; clear A a hR; intro a A hR
    refine dstep hR (i := 4) rfl (by kernel_rfl) (fun _ _ _ h => h) (fun _ _ H' => (Runs.move A rfl)) A rfl hS ?_; clear A a hR; intro a A hR
    refine dstep hR (i := 5) rfl (by kernel_rfl) (fun _ _ _ h => h) (fun _ _ H' => (Runs.nilCheck A rfl)) A rfl hS ?_; clear A a hR; intro a A hR
    refine dstep hR (i := 6) rfl (by kernel_rfl) (fun _ _ _ h => h) (fun _ _ H' => (Runs.fa A rfl)) A rfl hS ?_; clear A a hR; intro a A hR
    refine dstep hR (i := 7) rfl (by kernel_rfl) (fun _ _ _ h => h) (fun _ _ H' => (Runs.ld1 A H' rfl rfl)) A rfl hS ?_; clear A a hR; intro a A hR
    refine dstep hR (i := 8) rfl (by kernel_rfl) (fun _ _ _ h => h) (fun _ _ H' => (Runs.move A rfl)) A rfl hS ?_; clear A a hR; intro a A hR
    refine dstep hR (i := 9) rfl (by kernel_rfl) (fun _ _ _ h => h) (fun _ _ H' => (Runs.nilCheck A rfl)) A rfl hS ?_; clear A a hR; intro a A hR
    refine dstep hR (i := 10) rfl (by kernel_rfl) (fun _ _ _ h => h) (fun _ _ H' => (Runs.fa A rfl)) A rfl hS ?_; clear A a hR; intro a A hR
    refine dstep hR (i := 11) rfl (by kernel_rfl) (fun _ _ _ h => h) (fun _ _ H' => (Runs.ld1 A H' rfl rfl)) A rfl hS ?_; clear A a hR; intro a A hR
    refine dstep hR (i := 12) rfl (by kernel_rfl) (fun _ _ _ h => h) (fun _ _ H' => (Runs.move A rfl)) A rfl hS ?_; clear A a hR; intro a A hR
    refine dstep hR (i := 13) rfl (by kernel_rfl) (fun _ _ _ h => h) (fun _ _ H' => (Runs.add A rfl rfl (by omega))) A rfl hS ?_; clear A a hR; intro a A hR
    refine dstep hR (i := 14) rfl (by kernel_rfl) (fun _ _ _ h => h) (fun _ _ H' => (Runs.sliceN (lo := i) (hi := i + n) A rfl rfl rfl (by omega) (by omega) (by omega) (by omega))) A rfl hS ?_; clear A a hR; intro a A hR
    refine dlist hR (i := 15) rfl (by kernel_rfl) ?_
    have hR := hR.next (i := 15) (by kernel_rfl)
    refine step_callF A rfl rfl (c_lexer_wordKind G (by simp; omega)) H ?_
    rintro v4_15 a w m hm rfl A H
    have hM := hM.trans hm
    have G := G.mono hm
    have hL := hL.trans hm
    refine wpList_nil ?_
    clear hS; refine and_keep (H.sw hL) fun hS => ?_
    refine dstep hR (i := 16) rfl (by kernel_rfl) (fun _ _ _ h => h) (fun _ _ H' => (Runs.assign A rfl)) A rfl hS ?_; clear A a hR; intro a A hR
    refine draw_done hR (by kernel_rfl) ?_
    clear hS hL hR
    refine wp_seq ?_
    refine wp_region_lit ?_
    refine step (Runs.move A rfl) A rfl ?_; clear A a; intro a A
    refine step (Runs.neq A rfl rfl) A rfl ?_; clear A a; intro a A
    refine wpList_nil ?_
    refine cond_split A rfl (fun h2 => ?_) (fun h2 => ?_)
    · have g2 := h2
      try simp only [decide_eq_true_eq, decide_eq_false_iff_not, Bool.not_eq_true', Bool.not_eq_false', ne_eq, Decidable.not_not, Int.not_lt, Int.not_le] at g2
      refine wp_seq ?_
      refine wp_region_lit ?_
      refine step (Runs.move A rfl) A rfl ?_; clear A a; intro a A
      refine step (Runs.move A rfl) A rfl ?_; clear A a; intro a A
      refine step (Runs.move A rfl) A rfl ?_; clear A a; intro a A
      refine step_callS A rfl rfl (c_lexer_scanner_take (b := b) (s := s) (i := i) (k := n) (ad := ad) (c := c) (toks := toks) (by omega) (by omega) (by omega)) H ?_
      rintro v6_3 a w m L' hm ⟨rfl, ad1, c1, rfl⟩ A H
      simp only [List.cons_append, List.nil_append] at H
      have hM := hM.trans hm
      have G := G.mono hm
      refine step (Runs.assign A rfl) A rfl ?_; clear A a; intro a A
      refine wpList_nil ?_
      refine wp_ret ?_
      refine retV A rfl rfl hM H (.inl (by rw [hwl]; exact ⟨g2, rfl, ad1, c1, rfl⟩))
    · have g2 := h2
      try simp only [decide_eq_true_eq, decide_eq_false_iff_not, Bool.not_eq_true', Bool.not_eq_false', ne_eq, Decidable.not_not, Int.not_lt, Int.not_le] at g2
      refine wp_skip ?_
      refine wp_seq ?_
      refine wp_region_lit ?_
      refine step (Runs.assign A rfl) A rfl ?_; clear A a; intro a A
      refine wpList_nil ?_
      refine wp_ret ?_
      refine retV A rfl rfl hM H (.inr (by rw [hwl]; exact ⟨g2, rfl, rfl⟩))

theorem prefix_tw {l : List UInt8} (h : Lib.hasPrefix l [47, 47] = true) : 0 < (l.takeWhile (· != 10)).length := by
  obtain ⟨t, rfl⟩ := List.isPrefixOf_iff_prefix.1 h
  simp [List.takeWhile_cons]

theorem c_lexer_scanner_space {b i : Nat} {s : ByteArray} {tv : Value} {m : Mem} (hi : i ≤ s.size) (hs : s.size ≤ 140737488355328) : Spec Tryz.prog 147 #[.pointer (some ⟨b, 0, none⟩)] m [pt b (scn s i tv) 244] (RetV fun _ v L => (spN s i ≠ 0 ∧ v = .bool true ∧ L = [pt b (scn s ((i : Int) + (spN s i : Int)) tv) 244]) ∨ (spN s i = 0 ∧ v = .bool false ∧ L = [pt b (scn s i tv) 244])) := by
  refine Spec.enter Tryz.func147 rfl 55 Tryz.ntmps147 rfl fun a w0 Lf A H => ?_
  simp only [List.cons_append, List.nil_append] at H
  have hM := Le.refl m
  refine wp_seq ?_
  refine wp_region_lit ?_
  refine step (Runs.assign A rfl) A rfl ?_; clear A a; intro a A
  refine wpList_nil ?_
  refine wp_seq ?_
  refine wp_seq ?_
  refine wp_region_lit ?_
  refine step (Runs.move A rfl) A rfl ?_; clear A a; intro a A
  refine step_slice A H rfl rfl rfl rfl rfl rfl ?_; intro b1 a w A H
  refine step_callS A rfl rfl (c_lexer_scanner_is (b := b) (s := s) (i := i) (k := 0) (tv := tv) (cl := [3]) (bcs := [.int .u8 3]) rfl rfl (by omega) (by decide)) H ?_
  rintro v1_2 a w m L' hm ⟨rfl, rfl⟩ A H
  simp only [List.cons_append, List.nil_append] at H
  have hM := hM.trans hm
  refine wpList_nil ?_
  refine cond_split A rfl (fun h1 => ?_) (fun h1 => ?_)
  · have g1 := h1
    try simp only [decide_eq_true_eq, decide_eq_false_iff_not, Bool.not_eq_true', Bool.not_eq_false', ne_eq, Decidable.not_not, Int.not_lt, Int.not_le] at g1
    refine wp_seq ?_
    refine wp_region_lit ?_
    refine step (Runs.move A rfl) A rfl ?_; clear A a; intro a A
    refine step (Runs.nilCheck A rfl) A rfl ?_; clear A a; intro a A
    refine step (Runs.fa A rfl) A rfl ?_; clear A a; intro a A
    refine step (Runs.ld1 A H rfl rfl) A rfl ?_; clear A a; intro a A
    refine step (Runs.add A rfl rfl (by omega)) A rfl ?_; clear A a; intro a A
    refine step (Runs.nilCheck A rfl) A rfl ?_; clear A a; intro a A
    refine step (Runs.fa A rfl) A rfl ?_; clear A a; intro a A
    refine step_store A H rfl rfl rfl rfl rfl (scn_at _ _ _ _) ?_; intro w H
    refine wpList_nil ?_
    refine wp_seq ?_
    refine wp_region_lit ?_
    refine step (Runs.assign A rfl) A rfl ?_; clear A a; intro a A
    refine wpList_nil ?_
    refine wp_ret ?_
    have h1' : isB s i [3] = true := h1
    have e : spN s i = 1 := by rw [spN, if_pos h1']
    refine retV A rfl rfl hM H (.inl (by rw [e]; exact ⟨by decide, rfl, rfl⟩))
  · have g1 := h1
    try simp only [decide_eq_true_eq, decide_eq_false_iff_not, Bool.not_eq_true', Bool.not_eq_false', ne_eq, Decidable.not_not, Int.not_lt, Int.not_le] at g1
    refine wp_skip ?_
    refine wp_seq ?_
    refine wp_seq ?_
    refine draw_begin (ms := m) (Ls := [pt b (scn s i tv) 244]) (by kernel_rfl) (N := 11) rfl (by kernel_rfl) H ?_; clear H; intro w H hR
    have hS : SW m [pt b (scn s i tv) 244] w := H.sw (Le.refl m)
    have hL := Le.refl m
    have h1' : isB s i [3] = false := h1
    refine dstep hR (i := 0) rfl (by kernel_rfl) (fun _ _ _ h => h) (fun _ _ H' => (Runs.move A rfl)) A rfl hS ?_; clear A a hR; intro a A hR
    refine dstep hR (i := 1) rfl (by kernel_rfl) (fun _ _ _ h => h) (fun _ _ H' => (Runs.nilCheck A rfl)) A rfl hS ?_; clear A a hR; intro a A hR
    refine dstep hR (i := 2) rfl (by kernel_rfl) (fun _ _ _ h => h) (fun _ _ H' => (Runs.fa A rfl)) A rfl hS ?_; clear A a hR; intro a A hR
    refine dstep hR (i := 3) rfl (by kernel_rfl) (fun _ _ _ h => h) (fun _ _ H' => (Runs.ld1 A H' rfl rfl)) A rfl hS ?_; clear A a hR; intro a A hR
    refine dstep hR (i := 4) rfl (by kernel_rfl) (fun _ _ _ h => h) (fun _ _ H' => (Runs.move A rfl)) A rfl hS ?_; clear A a hR; intro a A hR
    refine dstep hR (i := 5) rfl (by kernel_rfl) (fun _ _ _ h => h) (fun _ _ H' => (Runs.nilCheck A rfl)) A rfl hS ?_; clear A a hR; intro a A hR
    refine dstep hR (i := 6) rfl (by kernel_rfl) (fun _ _ _ h => h) (fun _ _ H' => (Runs.fa A rfl)) A rfl hS ?_; clear A a hR; intro a A hR
    refine dstep hR (i := 7) rfl (by kernel_rfl) (fun _ _ _ h => h) (fun _ _ H' => (Runs.ld1 A H' rfl rfl)) A rfl hS ?_; clear A a hR; intro a A hR
    refine dstep hR (i := 8) rfl (by kernel_rfl) (fun _ _ _ h => h) (fun _ _ H' => (Runs.sliceNlo (lo := i) A rfl rfl rfl (by omega))) A rfl hS ?_; clear A a hR; intro a A hR
    refine dlist hR (i := 9) rfl (by kernel_rfl) ?_
    have hR := hR.next (i := 9) (by kernel_rfl)
    refine step_callF A rfl rfl (c_HasPrefix) H ?_
    rintro v4_9 a w m hm rfl A H
    have hM := hM.trans hm
    have hL := hL.trans hm
    refine wpList_nil ?_
    clear hS; refine and_keep (H.sw hL) fun hS => ?_
    refine dstep hR (i := 10) rfl (by kernel_rfl) (fun _ _ _ h => h) (fun _ _ H' => (Runs.not A rfl)) A rfl hS ?_; clear A a hR; intro a A hR
    refine draw_done hR (by kernel_rfl) ?_
    clear hS hL hR
    refine cond_split A rfl (fun h2 => ?_) (fun h2 => ?_)
    · have g2 := h2
      try simp only [decide_eq_true_eq, decide_eq_false_iff_not, Bool.not_eq_true', Bool.not_eq_false', ne_eq, Decidable.not_not, Int.not_lt, Int.not_le] at g2
      refine wp_seq ?_
      refine wp_region_lit ?_
      refine step (Runs.assign A rfl) A rfl ?_; clear A a; intro a A
      refine wpList_nil ?_
      refine wp_ret ?_
      have h1' : ¬ isB s i [3] = true := by rw [show isB s i [3] = false from h1]; decide
      rw [extract_rest] at g2
      have e : spN s i = 0 := by rw [spN, if_neg h1', if_neg]; simpa using g2
      refine retV A rfl rfl hM H (.inr (by rw [e]; exact ⟨rfl, rfl, rfl⟩))
    · have g2 := h2
      try simp only [decide_eq_true_eq, decide_eq_false_iff_not, Bool.not_eq_true', Bool.not_eq_false', ne_eq, Decidable.not_not, Int.not_lt, Int.not_le] at g2
      refine wp_skip ?_
      refine wp_seq ?_
      refine draw_begin (ms := m) (Ls := [pt b (scn s i tv) 244]) (by kernel_rfl) (N := 11) rfl (by kernel_rfl) H ?_; clear H; intro w H hR
      have hS : SW m [pt b (scn s i tv) 244] w := H.sw (Le.refl m)
      have hL := Le.refl m
      have h2s := (by assumption : Lib.hasPrefix _ _ = true); rw [extract_rest] at h2s
      refine dstep hR (i := 0) rfl (by kernel_rfl) (fun _ _ _ h => h) (fun _ _ H' => (Runs.move A rfl)) A rfl hS ?_; clear A a hR; intro a A hR
      refine dstep hR (i := 1) rfl (by kernel_rfl) (fun _ _ _ h => h) (fun _ _ H' => (Runs.nilCheck A rfl)) A rfl hS ?_; clear A a hR; intro a A hR
      refine dstep hR (i := 2) rfl (by kernel_rfl) (fun _ _ _ h => h) (fun _ _ H' => (Runs.fa A rfl)) A rfl hS ?_; clear A a hR; intro a A hR
      refine dstep hR (i := 3) rfl (by kernel_rfl) (fun _ _ _ h => h) (fun _ _ H' => (Runs.ld1 A H' rfl rfl)) A rfl hS ?_; clear A a hR; intro a A hR
      refine dstep hR (i := 4) rfl (by kernel_rfl) (fun _ _ _ h => h) (fun _ _ H' => (Runs.move A rfl)) A rfl hS ?_; clear A a hR; intro a A hR
      refine dstep hR (i := 5) rfl (by kernel_rfl) (fun _ _ _ h => h) (fun _ _ H' => (Runs.nilCheck A rfl)) A rfl hS ?_; clear A a hR; intro a A hR
      refine dstep hR (i := 6) rfl (by kernel_rfl) (fun _ _ _ h => h) (fun _ _ H' => (Runs.fa A rfl)) A rfl hS ?_; clear A a hR; intro a A hR
      refine dstep hR (i := 7) rfl (by kernel_rfl) (fun _ _ _ h => h) (fun _ _ H' => (Runs.ld1 A H' rfl rfl)) A rfl hS ?_; clear A a hR; intro a A hR
      refine dstep hR (i := 8) rfl (by kernel_rfl) (fun _ _ _ h => h) (fun _ _ H' => (Runs.sliceNlo (lo := i) A rfl rfl rfl (by omega))) A rfl hS ?_; clear A a hR; intro a A hR
      refine dlist hR (i := 9) rfl (by kernel_rfl) ?_
      have hR := hR.next (i := 9) (by kernel_rfl)
      refine step_callF A rfl rfl (c_IndexByte) H ?_
      rintro v6_9 a w m hm rfl A H
      have hM := hM.trans hm
      have hL := hL.trans hm
      refine wpList_nil ?_
      clear hS; refine and_keep (H.sw hL) fun hS => ?_
      refine dstep hR (i := 10) rfl (by kernel_rfl) (fun _ _ _ h => h) (fun _ _ H' => (Runs.assign A rfl)) A rfl hS ?_; clear A a hR; intro a A hR
      refine draw_done hR (by kernel_rfl) ?_
      clear hS hL hR
      refine wp_seq ?_
      refine wp_seq ?_
      refine wp_region_lit ?_
      refine step (Runs.move A rfl) A rfl ?_; clear A a; intro a A
      rw [extract_rest] at *
      have hix := index_take (rest s i) (Int.toNat 10).toUInt8
      have etw : (rest s i).takeWhile (· != (Int.toNat 10).toUInt8) = (rest s i).takeWhile (· != 10) := rfl
      rw [etw] at hix
      have htl := (List.takeWhile_sublist (l := rest s i) (· != 10)).length_le
      have hrl := rest_length s i
      refine step (Runs.lss A rfl rfl) A rfl ?_; clear A a; intro a A
      refine wpList_nil ?_
      refine cond_split A rfl (fun h3 => ?_) (fun h3 => ?_)
      · have g3 := h3
        try simp only [decide_eq_true_eq, decide_eq_false_iff_not, Bool.not_eq_true', Bool.not_eq_false', ne_eq, Decidable.not_not, Int.not_lt, Int.not_le] at g3
        refine draw_begin (ms := m) (Ls := [pt b (scn s i tv) 244]) (by kernel_rfl) (N := 11) rfl (by kernel_rfl) H ?_; clear H; intro w H hR
        have hS : SW m [pt b (scn s i tv) 244] w := H.sw (Le.refl m)
        have hL := Le.refl m
        refine dstep hR (i := 0) rfl (by kernel_rfl) (fun _ _ _ h => h) (fun _ _ H' => (Runs.move A rfl)) A rfl hS ?_; clear A a hR; intro a A hR
        refine dstep hR (i := 1) rfl (by kernel_rfl) (fun _ _ _ h => h) (fun _ _ H' => (Runs.nilCheck A rfl)) A rfl hS ?_; clear A a hR; intro a A hR
        refine dstep hR (i := 2) rfl (by kernel_rfl) (fun _ _ _ h => h) (fun _ _ H' => (Runs.fa A rfl)) A rfl hS ?_; clear A a hR; intro a A hR
        refine dstep hR (i := 3) rfl (by kernel_rfl) (fun _ _ _ h => h) (fun _ _ H' => (Runs.ld1 A H' rfl rfl)) A rfl hS ?_; clear A a hR; intro a A hR
        refine dstep hR (i := 4) rfl (by kernel_rfl) (fun _ _ _ h => h) (fun _ _ H' => (Runs.lenS A rfl StrC.h)) A rfl hS ?_; clear A a hR; intro a A hR
        refine dstep hR (i := 5) rfl (by kernel_rfl) (fun _ _ _ h => h) (fun _ _ H' => (Runs.move A rfl)) A rfl hS ?_; clear A a hR; intro a A hR
        refine dstep hR (i := 6) rfl (by kernel_rfl) (fun _ _ _ h => h) (fun _ _ H' => (Runs.nilCheck A rfl)) A rfl hS ?_; clear A a hR; intro a A hR
        refine dstep hR (i := 7) rfl (by kernel_rfl) (fun _ _ _ h => h) (fun _ _ H' => (Runs.fa A rfl)) A rfl hS ?_; clear A a hR; intro a A hR
        refine dstep hR (i := 8) rfl (by kernel_rfl) (fun _ _ _ h => h) (fun _ _ H' => (Runs.ld1 A H' rfl rfl)) A rfl hS ?_; clear A a hR; intro a A hR
        refine dstep hR (i := 9) rfl (by kernel_rfl) (fun _ _ _ h => h) (fun _ _ H' => (Runs.sub A rfl rfl (by omega))) A rfl hS ?_; clear A a hR; intro a A hR
        refine dstep hR (i := 10) rfl (by kernel_rfl) (fun _ _ _ h => h) (fun _ _ H' => (Runs.assign A rfl)) A rfl hS ?_; clear A a hR; intro a A hR
        refine draw_done hR (by kernel_rfl) ?_
        clear hS hL hR
        refine wp_seq ?_
        refine wp_region_lit ?_
        refine step (Runs.move A rfl) A rfl ?_; clear A a; intro a A
        refine step (Runs.nilCheck A rfl) A rfl ?_; clear A a; intro a A
        refine step (Runs.fa A rfl) A rfl ?_; clear A a; intro a A
        refine step (Runs.ld1 A H rfl rfl) A rfl ?_; clear A a; intro a A
        refine step (Runs.move A rfl) A rfl ?_; clear A a; intro a A
        refine step (Runs.add A rfl rfl (by omega)) A rfl ?_; clear A a; intro a A
        refine step (Runs.nilCheck A rfl) A rfl ?_; clear A a; intro a A
        refine step (Runs.fa A rfl) A rfl ?_; clear A a; intro a A
        refine step_store A H rfl rfl rfl rfl rfl (scn_at _ _ _ _) ?_; intro w H
        refine wpList_nil ?_
        refine wp_seq ?_
        refine wp_region_lit ?_
        refine step (Runs.assign A rfl) A rfl ?_; clear A a; intro a A
        refine wpList_nil ?_
        refine wp_ret ?_
        have h1n : ¬ isB s i [3] = true := by rw [h1']; decide
        have hp := prefix_le h2s
        have e : spN s i = s.size - i := by rw [spN, if_neg h1n, if_pos h2s]; rcases hix with ⟨_, h⟩ | ⟨h, _⟩ <;> omega
        have ez : (i:Int) + ((s.size:Int) - i) = (i:Int) + ((s.size - i : Nat) : Int) := by omega
        rw [ez, ← e] at H
        refine retV A rfl rfl hM H (.inl ⟨by simp at hp; omega, rfl, rfl⟩)
      · have g3 := h3
        try simp only [decide_eq_true_eq, decide_eq_false_iff_not, Bool.not_eq_true', Bool.not_eq_false', ne_eq, Decidable.not_not, Int.not_lt, Int.not_le] at g3
        refine wp_skip ?_
        refine wp_seq ?_
        refine wp_region_lit ?_
        refine step (Runs.move A rfl) A rfl ?_; clear A a; intro a A
        refine step (Runs.nilCheck A rfl) A rfl ?_; clear A a; intro a A
        refine step (Runs.fa A rfl) A rfl ?_; clear A a; intro a A
        refine step (Runs.ld1 A H rfl rfl) A rfl ?_; clear A a; intro a A
        refine step (Runs.move A rfl) A rfl ?_; clear A a; intro a A
        refine step (Runs.add A rfl rfl (by omega)) A rfl ?_; clear A a; intro a A
        refine step (Runs.nilCheck A rfl) A rfl ?_; clear A a; intro a A
        refine step (Runs.fa A rfl) A rfl ?_; clear A a; intro a A
        refine step_store A H rfl rfl rfl rfl rfl (scn_at _ _ _ _) ?_; intro w H
        refine wpList_nil ?_
        refine wp_seq ?_
        refine wp_region_lit ?_
        refine step (Runs.assign A rfl) A rfl ?_; clear A a; intro a A
        refine wpList_nil ?_
        refine wp_ret ?_
        have h1n : ¬ isB s i [3] = true := by rw [h1']; decide
        have hp := prefix_tw h2s
        have e : (spN s i : Int) = Lib.indexByte (rest s i) (Int.toNat 10).toUInt8 := by rw [spN, if_neg h1n, if_pos h2s]; rcases hix with ⟨h, _⟩ | ⟨_, h⟩ <;> omega
        rw [← e] at H
        refine retV A rfl rfl hM H (.inl ⟨by omega, rfl, rfl⟩)

theorem c_lexer_scanner_sign {b i c : Nat} {s : ByteArray} {ad : Option Addr} {toks : List Tok} {m : Mem} (hi : i ≤ s.size) (hs : s.size ≤ 140737488355328) (ht : toks.length ≤ 100000) : Spec Tryz.prog 149 #[.pointer (some ⟨b, 0, none⟩)] m [pt b (scn s i (.slice ad toks.length c)) 244, row 170 3 ad toks.length c (tokCells toks)] (RetV fun _ v L => (sgn s i ≠ 0 ∧ v = .bool true ∧ ∃ ad' c', L = [pt b (scn s ((i : Int) + (sgn s i : Int)) (.slice ad' (toks.length + 1) c')) 244, row 170 3 ad' (toks.length + 1) c' (tokCells (toks ++ [⟨3, s.extract i (i + sgn s i), i⟩]))]) ∨ (sgn s i = 0 ∧ v = .bool false ∧ L = [pt b (scn s i (.slice ad toks.length c)) 244, row 170 3 ad toks.length c (tokCells toks)])) := by
  refine Spec.enter Tryz.func149 rfl 34 Tryz.ntmps149 rfl fun a w0 Lf A H => ?_
  simp only [List.cons_append, List.nil_append] at H
  have hM := Le.refl m
  refine wp_seq ?_
  refine wp_region_lit ?_
  refine step (Runs.assign A rfl) A rfl ?_; clear A a; intro a A
  refine wpList_nil ?_
  refine wp_seq ?_
  refine wp_seq ?_
  refine wp_region_lit ?_
  refine step_slice A H rfl rfl rfl rfl rfl rfl ?_; intro b1 a w A H
  refine step (Runs.lenL A rfl SlC.h) A rfl ?_; clear A a; intro a A
  refine step (Runs.move A rfl) A rfl ?_; clear A a; intro a A
  refine wpList_nil ?_
  refine wp_block ?_
  refine wp_loop_ghost (fun q a w => ∃ (j : Nat) (m' : Mem), q = 2 - j ∧ (j ≤ 2 ∧ (0 < j → Lib.hasPrefix (rest s i) [45, 62] = false) ∧ (1 < j → Lib.hasPrefix (rest s i) [61, 61] = false)) ∧ Le m m' ∧ Fr 34 a [(0, .pointer (some ⟨b, 0, none⟩)), (5, .slice (some ⟨b1, 0, none⟩) 2 2), (6, .int .i64 2), (7, .int .i64 j)] [] ∧ St w0 w m' (pt b1 [.string ⟨#[45, 62]⟩, .string ⟨#[61, 61]⟩] 9 :: pt b (scn s i (.slice ad toks.length c)) 244 :: row 170 3 ad toks.length c (tokCells toks) :: Lf)) _ ⟨0, m, rfl, ⟨by omega, fun h => absurd h (by omega), fun h => absurd h (by omega)⟩, Le.refl m, (Fr.cons A rfl (Fr.cons A rfl (Fr.cons A rfl (Fr.cons A rfl (Fr.nil A))))), H⟩ ?_
  clear A H; rintro q a w ⟨j, m, rfl, hinv, hm, A, H⟩
  have hM := hM.trans hm
  have hl1 := hm
  obtain ⟨hj, hp0, hp1⟩ := hinv
  refine wp_seq ?_
  refine wp_region_lit ?_
  refine step (Runs.lss A rfl rfl) A rfl ?_; clear A a; intro a A
  refine wpList_nil ?_
  refine wp_seq ?_
  refine cond_split A rfl (fun h1 => ?_) (fun h1 => ?_)
  · have g1 := h1
    try simp only [decide_eq_true_eq, decide_eq_false_iff_not, Bool.not_eq_true', Bool.not_eq_false', ne_eq, Decidable.not_not, Int.not_lt, Int.not_le] at g1
    refine wp_skip ?_
    refine wp_seq ?_
    refine wp_block ?_
    refine wp_seq ?_
    refine wp_region_lit ?_
    obtain ⟨tw, htw, hts, hcase⟩ : ∃ tw : ByteArray, ([.string ⟨#[45, 62]⟩, .string ⟨#[61, 61]⟩] : List Value)[j]? = some (.string tw) ∧ tw.size = 2 ∧ (j = 0 ∧ tw.data.toList = [45, 62] ∨ j = 1 ∧ tw.data.toList = [61, 61]) := by
      have : j = 0 ∨ j = 1 := by omega
      rcases this with rfl | rfl
      · exact ⟨_, rfl, rfl, .inl ⟨rfl, rfl⟩⟩
      · exact ⟨_, rfl, rfl, .inr ⟨rfl, rfl⟩⟩
    refine step (Runs.indexAddr A rfl rfl SlC.h (by omega) (by omega)) A rfl ?_; clear A a; intro a A
    refine step (Runs.ld1 A H rfl (v := .string tw) (by simpa using htw)) A rfl ?_; clear A a; intro a A
    refine step (Runs.assign A rfl) A rfl ?_; clear A a; intro a A
    refine wpList_nil ?_
    refine wp_seq ?_
    refine draw_begin (ms := m) (Ls := [pt b (scn s i (.slice ad toks.length c)) 244]) (by kernel_rfl) (N := 11) rfl (by kernel_rfl) H ?_; clear H; intro w H hR
    have hS : SW m [pt b (scn s i (.slice ad toks.length c)) 244] w := H.sw (Le.refl m)
    have hL := Le.refl m
    refine dstep hR (i := 0) rfl (by kernel_rfl) (fun _ _ _ h => h) (fun _ _ H' => (Runs.move A rfl)) A rfl hS ?_; clear A a hR; intro a A hR
    refine dstep hR (i := 1) rfl (by kernel_rfl) (fun _ _ _ h => h) (fun _ _ H' => (Runs.nilCheck A rfl)) A rfl hS ?_; clear A a hR; intro a A hR
    refine dstep hR (i := 2) rfl (by kernel_rfl) (fun _ _ _ h => h) (fun _ _ H' => (Runs.fa A rfl)) A rfl hS ?_; clear A a hR; intro a A hR
    refine dstep hR (i := 3) rfl (by kernel_rfl) (fun _ _ _ h => h) (fun _ _ H' => (Runs.ld1 A H' rfl rfl)) A rfl hS ?_; clear A a hR; intro a A hR
    refine dstep hR (i := 4) rfl (by kernel_rfl) (fun _ _ _ h => h) (fun _ _ H' => (Runs.move A rfl)) A rfl hS ?_; clear A a hR; intro a A hR
    refine dstep hR (i := 5) rfl (by kernel_rfl) (fun _ _ _ h => h) (fun _ _ H' => (Runs.nilCheck A rfl)) A rfl hS ?_; clear A a hR; intro a A hR
    refine dstep hR (i := 6) rfl (by kernel_rfl) (fun _ _ _ h => h) (fun _ _ H' => (Runs.fa A rfl)) A rfl hS ?_; clear A a hR; intro a A hR
    refine dstep hR (i := 7) rfl (by kernel_rfl) (fun _ _ _ h => h) (fun _ _ H' => (Runs.ld1 A H' rfl rfl)) A rfl hS ?_; clear A a hR; intro a A hR
    refine dstep hR (i := 8) rfl (by kernel_rfl) (fun _ _ _ h => h) (fun _ _ H' => (Runs.sliceNlo (lo := i) A rfl rfl rfl (by omega))) A rfl hS ?_; clear A a hR; intro a A hR
    refine dstep hR (i := 9) rfl (by kernel_rfl) (fun _ _ _ h => h) (fun _ _ H' => (Runs.move A rfl)) A rfl hS ?_; clear A a hR; intro a A hR
    refine dlist hR (i := 10) rfl (by kernel_rfl) ?_
    have hR := hR.next (i := 10) (by kernel_rfl)
    refine step_callF A rfl rfl (c_HasPrefix) H ?_
    rintro v4_10 a w m hm rfl A H
    have hM := hM.trans hm
    have hl1 := hl1.trans hm
    have hL := hL.trans hm
    refine wpList_nil ?_
    clear hS; refine and_keep (H.sw hL) fun hS => ?_
    refine draw_done hR (by kernel_rfl) ?_
    clear hS hL hR
    refine cond_split A rfl (fun h2 => ?_) (fun h2 => ?_)
    · have g2 := h2
      try simp only [decide_eq_true_eq, decide_eq_false_iff_not, Bool.not_eq_true', Bool.not_eq_false', ne_eq, Decidable.not_not, Int.not_lt, Int.not_le] at g2
      refine wp_seq ?_
      refine wp_region_lit ?_
      refine step (Runs.move A rfl) A rfl ?_; clear A a; intro a A
      refine step (Runs.move A rfl) A rfl ?_; clear A a; intro a A
      refine step (Runs.lenS A rfl StrC.h) A rfl ?_; clear A a; intro a A
      have hpre := h2
      rw [extract_rest] at hpre
      have hple := prefix_le hpre
      rw [rest_length, show tw.data.toList.length = 2 from by rw [Array.length_toList]; exact hts] at hple
      rw [hts] at A
      refine step_callS A rfl rfl (c_lexer_scanner_take (b := b) (s := s) (i := i) (k := 2) (ad := ad) (c := c) (toks := toks) (by omega) (by omega) (by omega)) H ?_
      rintro v5_3 a w m L' hm ⟨rfl, ad1, c1, rfl⟩ A H
      simp only [List.cons_append, List.nil_append] at H
      have hM := hM.trans hm
      have hl1 := hl1.trans hm
      refine step (Runs.assign A rfl) A rfl ?_; clear A a; intro a A
      refine wpList_nil ?_
      refine wp_ret ?_
      have e : sgn s i = 2 := by
        rcases hcase with ⟨rfl, e⟩ | ⟨rfl, e⟩
        · rw [e] at hpre; rw [sgn, if_pos hpre]
        · rw [e] at hpre; rw [sgn, hp0 (by omega), hpre]; rfl
      refine retV A rfl rfl hM H (.inl (by rw [e]; exact ⟨by decide, rfl, ad1, c1, rfl⟩))
    · have g2 := h2
      try simp only [decide_eq_true_eq, decide_eq_false_iff_not, Bool.not_eq_true', Bool.not_eq_false', ne_eq, Decidable.not_not, Int.not_lt, Int.not_le] at g2
      refine wp_skip ?_
      refine wp_region_lit ?_
      refine step (Runs.add A rfl rfl (by omega)) A rfl ?_; clear A a; intro a A
      refine step (Runs.move A rfl) A rfl ?_; clear A a; intro a A
      refine wpList_nil ?_
      have g2' : Lib.hasPrefix (rest s i) tw.data.toList = false := by rw [← extract_rest]; exact h2
      have hq0 : 0 < j + 1 → Lib.hasPrefix (rest s i) [45, 62] = false := by
        intro _; rcases hcase with ⟨rfl, e⟩ | ⟨rfl, e⟩
        · rw [← e]; exact g2'
        · exact hp0 (by omega)
      have hq1 : 1 < j + 1 → Lib.hasPrefix (rest s i) [61, 61] = false := by
        intro h; rcases hcase with ⟨rfl, e⟩ | ⟨rfl, e⟩
        · omega
        · rw [← e]; exact g2'
      exact ⟨_, by omega, j + 1, m, rfl, ⟨by omega, hq0, hq1⟩, hl1, (Fr.cons A rfl (Fr.cons A rfl (Fr.cons A rfl (Fr.cons A rfl (Fr.nil A))))), H.subH⟩
  · have g1 := h1
    try simp only [decide_eq_true_eq, decide_eq_false_iff_not, Bool.not_eq_true', Bool.not_eq_false', ne_eq, Decidable.not_not, Int.not_lt, Int.not_le] at g1
    refine wp_exit ?_
    refine wp_seq ?_
    refine wp_region_lit ?_
    refine step (Runs.move A rfl) A rfl ?_; clear A a; intro a A
    refine step_slice A H rfl rfl rfl rfl rfl rfl ?_; intro b2 a w A H
    refine step_callS A rfl rfl (c_lexer_scanner_is (b := b) (s := s) (i := i) (k := 0) (tv := .slice ad toks.length c) (cl := [4]) (bcs := [.int .u8 4]) rfl rfl (by omega) (by decide)) H ?_
    rintro v7_2 a w m L' hm ⟨rfl, rfl⟩ A H
    simp only [List.cons_append, List.nil_append] at H
    have hM := hM.trans hm
    refine step (Runs.move A rfl) A rfl ?_; clear A a; intro a A
    refine onBool A (dj := 30) rfl (fun h3 => ?_) (fun h3 => ?_)
    · have g3 := h3
      try simp only [decide_eq_true_eq, decide_eq_false_iff_not, Bool.not_eq_true', Bool.not_eq_false', ne_eq, Decidable.not_not, Int.not_lt, Int.not_le] at g3
      refine stepG (dj := 30) rfl rfl h3 (Runs.move A rfl) A rfl ?_; clear A a; intro a A
      have h1' : isB s i [4] = true := h3
      have hlt : i < s.size := by simp [isB] at h1'; omega
      refine step_callSG (dj := 30) rfl rfl h3 A rfl rfl (c_lexer_scanner_take (b := b) (s := s) (i := i) (k := 1) (ad := ad) (c := c) (toks := toks) (by omega) (by omega) (by omega)) H ?_
      rintro v7_5 a w m L' hm ⟨rfl, ad1, c1, rfl⟩ A H
      simp only [List.cons_append, List.nil_append] at H
      have hM := hM.trans hm
      refine step (Runs.pickT A rfl h3 rfl) A rfl ?_; clear A a; intro a A
      refine step (Runs.assign A rfl) A rfl ?_; clear A a; intro a A
      refine wpList_nil ?_
      refine wp_ret ?_
      have e : sgn s i = 1 := by rw [sgn, hp0 (by omega), hp1 (by omega), h1']; rfl
      refine retV A rfl rfl hM H (.inl (by rw [e]; exact ⟨by decide, rfl, ad1, c1, rfl⟩))
    · have g3 := h3
      try simp only [decide_eq_true_eq, decide_eq_false_iff_not, Bool.not_eq_true', Bool.not_eq_false', ne_eq, Decidable.not_not, Int.not_lt, Int.not_le] at g3
      refine stepSkip (dj := 30) rfl rfl h3 A rfl ?_; clear A a; intro a A
      refine stepSkip (dj := 30) rfl rfl h3 A rfl ?_; clear A a; intro a A
      refine step (Runs.pickF A rfl h3 rfl) A rfl ?_; clear A a; intro a A
      refine step (Runs.assign A rfl) A rfl ?_; clear A a; intro a A
      refine wpList_nil ?_
      refine wp_ret ?_
      have h1' : isB s i [4] = false := h3
      have e : sgn s i = 0 := by rw [sgn, hp0 (by omega), hp1 (by omega), h1']; rfl
      refine retV A rfl rfl hM H (.inr (by rw [e]; exact ⟨rfl, rfl, rfl⟩))
end Sl
end Go.Proofs.YtanhehbfbakdcaaGreatDoor
