/- Stores: more walks, printed by my gen.py out of annotations. -/
import Derived.Test.YtanhehbfbakdcaaGreatDoorApp
import Derived.Test.YtanhehbfbakdcaaGreatDoorObjW
set_option linter.unusedSimpArgs false
set_option linter.unusedVariables false
namespace Go.Proofs.YtanhehbfbakdcaaGreatDoor
namespace Sl
open Go

theorem c_wireloomref06_Same {ad ad2 : Option Addr} {n c n2 c2 : Nat} {l l2 : List UInt8} {m : Mem} (hl : Slc m 1 ad n c (l.map u8)) (hl2 : Slc m 1 ad2 n2 c2 (l2.map u8)) : Spec Tryz.prog 36 #[.slice ad n c, .slice ad2 n2 c2] m [] (RetE (.bool (decide (l = l2)))) := by
  refine Spec.enter0 Tryz.func36 rfl 26 Tryz.ntmps36 rfl fun a w0 Lf A H => ?_
  have hM := Le.refl m
  have hn := hl.len8.symm
  have hn2 := hl2.len8.symm
  have hcap := hl.2.1
  have hcap2 := hl.2.2.1
  have hmx : maxLen = 9223372036854775807 := rfl
  refine wp_seq ?_
  refine wp_region_lit ?_
  refine step (Runs.assign A rfl) A rfl ?_; clear A a; intro a A
  refine wpList_nil ?_
  refine wp_seq ?_
  refine wp_seq ?_
  refine wp_region_lit ?_
  refine step (Runs.move A rfl) A rfl ?_; clear A a; intro a A
  refine step (Runs.lenL A rfl SlC.h) A rfl ?_; clear A a; intro a A
  refine step (Runs.move A rfl) A rfl ?_; clear A a; intro a A
  refine step (Runs.lenL A rfl SlC.h) A rfl ?_; clear A a; intro a A
  refine step (Runs.neq A rfl rfl) A rfl ?_; clear A a; intro a A
  refine wpList_nil ?_
  refine cond_split A rfl (fun h1 => ?_) (fun h1 => ?_)
  · have g1 := h1
    try simp only [decide_eq_true_eq, decide_eq_false_iff_not, Bool.not_eq_true', Bool.not_eq_false', ne_eq, Decidable.not_not, Int.not_lt, Int.not_le] at g1
    refine wp_seq ?_
    refine wp_region_lit ?_
    refine step (Runs.assign A rfl) A rfl ?_; clear A a; intro a A
    refine wpList_nil ?_
    refine wp_ret ?_
    exact retF A rfl rfl hM H (congrArg Value.bool (decide_eq_false fun e => by subst e; omega)).symm
  · have g1 := h1
    try simp only [decide_eq_true_eq, decide_eq_false_iff_not, Bool.not_eq_true', Bool.not_eq_false', ne_eq, Decidable.not_not, Int.not_lt, Int.not_le] at g1
    refine wp_skip ?_
    refine wp_seq ?_
    refine wp_seq ?_
    refine wp_region_lit ?_
    refine step (Runs.assign A rfl) A rfl ?_; clear A a; intro a A
    refine wpList_nil ?_
    refine wp_block ?_
    refine wp_loop_ghost (fun q a w => ∃ (i : Nat) (m' : Mem), q = n + 1 - i ∧ (i ≤ n ∧ ∀ (k : Nat) (x : UInt8), k < i → l[k]? = some x → l2[k]? = some x) ∧ Le m m' ∧ Fr 26 a [(0, .slice ad n c), (1, .slice ad2 n2 c2), (5, .int .i64 i)] [] ∧ St w0 w m' (Lf)) _ ⟨0, m, rfl, ⟨by omega, fun k _ h => absurd h (by omega)⟩, Le.refl m, (Fr.cons A rfl (Fr.cons A rfl (Fr.cons A rfl (Fr.nil A)))), H⟩ ?_
    clear A H; rintro q a w ⟨i, m, rfl, hinv, hm, A, H⟩
    have hM := hM.trans hm
    have hl := hl.mono hm
    have hl2 := hl2.mono hm
    have hl1 := hm
    obtain ⟨hin, hall⟩ := hinv
    refine wp_seq ?_
    refine wp_seq ?_
    refine wp_region_lit ?_
    refine step (Runs.move A rfl) A rfl ?_; clear A a; intro a A
    refine step (Runs.move A rfl) A rfl ?_; clear A a; intro a A
    refine step (Runs.lenL A rfl SlC.h) A rfl ?_; clear A a; intro a A
    refine step (Runs.lss A rfl rfl) A rfl ?_; clear A a; intro a A
    refine wpList_nil ?_
    refine cond_split A rfl (fun h2 => ?_) (fun h2 => ?_)
    · have g2 := h2
      try simp only [decide_eq_true_eq, decide_eq_false_iff_not, Bool.not_eq_true', Bool.not_eq_false', ne_eq, Decidable.not_not, Int.not_lt, Int.not_le] at g2
      refine wp_skip ?_
      refine wp_seq ?_
      refine wp_block ?_
      refine wp_seq ?_
      refine draw_begin0 (by kernel_rfl) (N := 9) rfl (by kernel_rfl) H ?_; clear H; intro w H hR
      have hS : SW m _ w := ⟨_, H⟩
      have hL := Le.refl m
      obtain ⟨x, hx⟩ := ex_at (l := l) (i := i) (by omega)
      obtain ⟨y, hy⟩ := ex_at (l := l2) (i := i) (by omega)
      obtain ⟨bb, off, cs, rfl, hfz, hcs⟩ := hl.all8 (by omega)
      obtain ⟨bb2, off2, cs2, rfl, hfz2, hcs2⟩ := hl2.all8 (by omega)
      have hx1 := hcs _ _ hx
      have hy1 := hcs2 _ _ hy
      refine dstep hR (i := 0) rfl (by kernel_rfl) (fun _ _ _ h => h) (fun _ _ H' => (Runs.move A rfl)) A rfl hS ?_; clear A a hR; intro a A hR
      refine dstep hR (i := 1) rfl (by kernel_rfl) (fun _ _ _ h => h) (fun _ _ H' => (Runs.move A rfl)) A rfl hS ?_; clear A a hR; intro a A hR
      refine dstep hR (i := 2) rfl (by kernel_rfl) (fun _ _ _ h => h) (fun _ _ H' => (Runs.indexAddr A rfl rfl SlC.h (by omega) (by omega))) A rfl hS ?_; clear A a hR; intro a A hR
      refine dstep hR (i := 3) rfl (by kernel_rfl) (fun _ _ _ h => h) (fun _ _ H' => (Runs.ld1 A H' rfl (v := u8 x) (by simpa using hx1))) A rfl hS ?_; clear A a hR; intro a A hR
      refine dstep hR (i := 4) rfl (by kernel_rfl) (fun _ _ _ h => h) (fun _ _ H' => (Runs.move A rfl)) A rfl hS ?_; clear A a hR; intro a A hR
      refine dstep hR (i := 5) rfl (by kernel_rfl) (fun _ _ _ h => h) (fun _ _ H' => (Runs.move A rfl)) A rfl hS ?_; clear A a hR; intro a A hR
      refine dstep hR (i := 6) rfl (by kernel_rfl) (fun _ _ _ h => h) (fun _ _ H' => (Runs.indexAddr A rfl rfl SlC.h (by omega) (by omega))) A rfl hS ?_; clear A a hR; intro a A hR
      refine dstep hR (i := 7) rfl (by kernel_rfl) (fun _ _ _ h => h) (fun _ _ H' => (Runs.ld1 A H' rfl (v := u8 y) (by simpa using hy1))) A rfl hS ?_; clear A a hR; intro a A hR
      refine dstep hR (i := 8) rfl (by kernel_rfl) (fun _ _ _ h => h) (fun _ _ H' => (Runs.neq A rfl rfl)) A rfl hS ?_; clear A a hR; intro a A hR
      refine draw_done hR (by kernel_rfl) ?_
      clear hS hL hR
      refine cond_split A rfl (fun h3 => ?_) (fun h3 => ?_)
      · have g3 := h3
        try simp only [decide_eq_true_eq, decide_eq_false_iff_not, Bool.not_eq_true', Bool.not_eq_false', ne_eq, Decidable.not_not, Int.not_lt, Int.not_le] at g3
        refine wp_seq ?_
        refine wp_region_lit ?_
        refine step (Runs.assign A rfl) A rfl ?_; clear A a; intro a A
        refine wpList_nil ?_
        refine wp_ret ?_
        refine retF A rfl rfl hM H (congrArg Value.bool (decide_eq_false fun e => ?_)).symm
        subst e
        rw [hx] at hy
        cases hy
        omega
      · have g3 := h3
        try simp only [decide_eq_true_eq, decide_eq_false_iff_not, Bool.not_eq_true', Bool.not_eq_false', ne_eq, Decidable.not_not, Int.not_lt, Int.not_le] at g3
        refine wp_skip ?_
        refine wp_region_lit ?_
        refine step (Runs.move A rfl) A rfl ?_; clear A a; intro a A
        refine step (Runs.add A rfl rfl (by omega)) A rfl ?_; clear A a; intro a A
        refine step (Runs.assign A rfl) A rfl ?_; clear A a; intro a A
        refine wpList_nil ?_
        have hxy : x = y := by first | (rw [← UInt8.toNat_inj]; omega) | (rw [← UInt64.toNat_inj]; omega)
        exact ⟨_, by omega, i + 1, m, rfl, ⟨by omega, lt_ext hall hx (by rw [hy, hxy])⟩, hl1, (Fr.cons A rfl (Fr.cons A rfl (Fr.cons A rfl (Fr.nil A)))), H⟩
    · have g2 := h2
      try simp only [decide_eq_true_eq, decide_eq_false_iff_not, Bool.not_eq_true', Bool.not_eq_false', ne_eq, Decidable.not_not, Int.not_lt, Int.not_le] at g2
      refine wp_exit ?_
      refine wp_seq ?_
      refine wp_region_lit ?_
      refine step (Runs.assign A rfl) A rfl ?_; clear A a; intro a A
      refine wpList_nil ?_
      refine wp_ret ?_
      exact retF A rfl rfl hM H (congrArg Value.bool (decide_eq_true (List.ext_getElem? fun k => (by
        rcases Nat.lt_or_ge k l.length with h | h
        · obtain ⟨x, hx⟩ := ex_at h
          rw [hx, hall k x (by omega) hx]
        · rw [List.getElem?_eq_none h, List.getElem?_eq_none (by omega)])))).symm

theorem c_wireloomref01_Same {ad ad2 : Option Addr} {n c n2 c2 : Nat} {l l2 : List UInt64} {m : Mem} (hl : Ws m ad n c l) (hl2 : Ws m ad2 n2 c2 l2) : Spec Tryz.prog 19 #[.slice ad n c, .slice ad2 n2 c2] m [] (RetE (.bool (decide (l = l2)))) := by
  refine Spec.enter0 Tryz.func19 rfl 26 Tryz.ntmps19 rfl fun a w0 Lf A H => ?_
  have hM := Le.refl m
  have hn := hl.len
  have hn2 := hl2.len
  have hcap := hl.2.1
  have hcap2 := hl.2.2.1
  have hmx : maxLen = 9223372036854775807 := rfl
  refine wp_seq ?_
  refine wp_region_lit ?_
  refine step (Runs.assign A rfl) A rfl ?_; clear A a; intro a A
  refine wpList_nil ?_
  refine wp_seq ?_
  refine wp_seq ?_
  refine wp_region_lit ?_
  refine step (Runs.move A rfl) A rfl ?_; clear A a; intro a A
  refine step (Runs.lenL A rfl SlC.h) A rfl ?_; clear A a; intro a A
  refine step (Runs.move A rfl) A rfl ?_; clear A a; intro a A
  refine step (Runs.lenL A rfl SlC.h) A rfl ?_; clear A a; intro a A
  refine step (Runs.neq A rfl rfl) A rfl ?_; clear A a; intro a A
  refine wpList_nil ?_
  refine cond_split A rfl (fun h1 => ?_) (fun h1 => ?_)
  · have g1 := h1
    try simp only [decide_eq_true_eq, decide_eq_false_iff_not, Bool.not_eq_true', Bool.not_eq_false', ne_eq, Decidable.not_not, Int.not_lt, Int.not_le] at g1
    refine wp_seq ?_
    refine wp_region_lit ?_
    refine step (Runs.assign A rfl) A rfl ?_; clear A a; intro a A
    refine wpList_nil ?_
    refine wp_ret ?_
    exact retF A rfl rfl hM H (congrArg Value.bool (decide_eq_false fun e => by subst e; omega)).symm
  · have g1 := h1
    try simp only [decide_eq_true_eq, decide_eq_false_iff_not, Bool.not_eq_true', Bool.not_eq_false', ne_eq, Decidable.not_not, Int.not_lt, Int.not_le] at g1
    refine wp_skip ?_
    refine wp_seq ?_
    refine wp_seq ?_
    refine wp_region_lit ?_
    refine step (Runs.assign A rfl) A rfl ?_; clear A a; intro a A
    refine wpList_nil ?_
    refine wp_block ?_
    refine wp_loop_ghost (fun q a w => ∃ (i : Nat) (m' : Mem), q = n + 1 - i ∧ (i ≤ n ∧ ∀ (k : Nat) (x : UInt64), k < i → l[k]? = some x → l2[k]? = some x) ∧ Le m m' ∧ Fr 26 a [(0, .slice ad n c), (1, .slice ad2 n2 c2), (5, .int .i64 i)] [] ∧ St w0 w m' (Lf)) _ ⟨0, m, rfl, ⟨by omega, fun k _ h => absurd h (by omega)⟩, Le.refl m, (Fr.cons A rfl (Fr.cons A rfl (Fr.cons A rfl (Fr.nil A)))), H⟩ ?_
    clear A H; rintro q a w ⟨i, m, rfl, hinv, hm, A, H⟩
    have hM := hM.trans hm
    have hl := hl.mono hm
    have hl2 := hl2.mono hm
    have hl1 := hm
    obtain ⟨hin, hall⟩ := hinv
    refine wp_seq ?_
    refine wp_seq ?_
    refine wp_region_lit ?_
    refine step (Runs.move A rfl) A rfl ?_; clear A a; intro a A
    refine step (Runs.move A rfl) A rfl ?_; clear A a; intro a A
    refine step (Runs.lenL A rfl SlC.h) A rfl ?_; clear A a; intro a A
    refine step (Runs.lss A rfl rfl) A rfl ?_; clear A a; intro a A
    refine wpList_nil ?_
    refine cond_split A rfl (fun h2 => ?_) (fun h2 => ?_)
    · have g2 := h2
      try simp only [decide_eq_true_eq, decide_eq_false_iff_not, Bool.not_eq_true', Bool.not_eq_false', ne_eq, Decidable.not_not, Int.not_lt, Int.not_le] at g2
      refine wp_skip ?_
      refine wp_seq ?_
      refine wp_block ?_
      refine wp_seq ?_
      refine draw_begin0 (by kernel_rfl) (N := 9) rfl (by kernel_rfl) H ?_; clear H; intro w H hR
      have hS : SW m _ w := ⟨_, H⟩
      have hL := Le.refl m
      obtain ⟨x, hx⟩ := ex_at (l := l) (i := i) (by omega)
      obtain ⟨y, hy⟩ := ex_at (l := l2) (i := i) (by omega)
      obtain ⟨bb, off, cs, rfl, hfz, hcs⟩ := hl.all_ (by omega)
      obtain ⟨bb2, off2, cs2, rfl, hfz2, hcs2⟩ := hl2.all_ (by omega)
      have hx1 := hcs _ _ hx
      have hy1 := hcs2 _ _ hy
      refine dstep hR (i := 0) rfl (by kernel_rfl) (fun _ _ _ h => h) (fun _ _ H' => (Runs.move A rfl)) A rfl hS ?_; clear A a hR; intro a A hR
      refine dstep hR (i := 1) rfl (by kernel_rfl) (fun _ _ _ h => h) (fun _ _ H' => (Runs.move A rfl)) A rfl hS ?_; clear A a hR; intro a A hR
      refine dstep hR (i := 2) rfl (by kernel_rfl) (fun _ _ _ h => h) (fun _ _ H' => (Runs.indexAddr A rfl rfl SlC.h (by omega) (by omega))) A rfl hS ?_; clear A a hR; intro a A hR
      refine dstep hR (i := 3) rfl (by kernel_rfl) (fun _ _ _ h => h) (fun _ _ H' => (Runs.ld1 A H' rfl (v := u64 x) (by simpa using hx1))) A rfl hS ?_; clear A a hR; intro a A hR
      refine dstep hR (i := 4) rfl (by kernel_rfl) (fun _ _ _ h => h) (fun _ _ H' => (Runs.move A rfl)) A rfl hS ?_; clear A a hR; intro a A hR
      refine dstep hR (i := 5) rfl (by kernel_rfl) (fun _ _ _ h => h) (fun _ _ H' => (Runs.move A rfl)) A rfl hS ?_; clear A a hR; intro a A hR
      refine dstep hR (i := 6) rfl (by kernel_rfl) (fun _ _ _ h => h) (fun _ _ H' => (Runs.indexAddr A rfl rfl SlC.h (by omega) (by omega))) A rfl hS ?_; clear A a hR; intro a A hR
      refine dstep hR (i := 7) rfl (by kernel_rfl) (fun _ _ _ h => h) (fun _ _ H' => (Runs.ld1 A H' rfl (v := u64 y) (by simpa using hy1))) A rfl hS ?_; clear A a hR; intro a A hR
      refine dstep hR (i := 8) rfl (by kernel_rfl) (fun _ _ _ h => h) (fun _ _ H' => (Runs.neq A rfl rfl)) A rfl hS ?_; clear A a hR; intro a A hR
      refine draw_done hR (by kernel_rfl) ?_
      clear hS hL hR
      refine cond_split A rfl (fun h3 => ?_) (fun h3 => ?_)
      · have g3 := h3
        try simp only [decide_eq_true_eq, decide_eq_false_iff_not, Bool.not_eq_true', Bool.not_eq_false', ne_eq, Decidable.not_not, Int.not_lt, Int.not_le] at g3
        refine wp_seq ?_
        refine wp_region_lit ?_
        refine step (Runs.assign A rfl) A rfl ?_; clear A a; intro a A
        refine wpList_nil ?_
        refine wp_ret ?_
        refine retF A rfl rfl hM H (congrArg Value.bool (decide_eq_false fun e => ?_)).symm
        subst e
        rw [hx] at hy
        cases hy
        omega
      · have g3 := h3
        try simp only [decide_eq_true_eq, decide_eq_false_iff_not, Bool.not_eq_true', Bool.not_eq_false', ne_eq, Decidable.not_not, Int.not_lt, Int.not_le] at g3
        refine wp_skip ?_
        refine wp_region_lit ?_
        refine step (Runs.move A rfl) A rfl ?_; clear A a; intro a A
        refine step (Runs.add A rfl rfl (by omega)) A rfl ?_; clear A a; intro a A
        refine step (Runs.assign A rfl) A rfl ?_; clear A a; intro a A
        refine wpList_nil ?_
        have hxy : x = y := by first | (rw [← UInt8.toNat_inj]; omega) | (rw [← UInt64.toNat_inj]; omega)
        exact ⟨_, by omega, i + 1, m, rfl, ⟨by omega, lt_ext hall hx (by rw [hy, hxy])⟩, hl1, (Fr.cons A rfl (Fr.cons A rfl (Fr.cons A rfl (Fr.nil A)))), H⟩
    · have g2 := h2
      try simp only [decide_eq_true_eq, decide_eq_false_iff_not, Bool.not_eq_true', Bool.not_eq_false', ne_eq, Decidable.not_not, Int.not_lt, Int.not_le] at g2
      refine wp_exit ?_
      refine wp_seq ?_
      refine wp_region_lit ?_
      refine step (Runs.assign A rfl) A rfl ?_; clear A a; intro a A
      refine wpList_nil ?_
      refine wp_ret ?_
      exact retF A rfl rfl hM H (congrArg Value.bool (decide_eq_true (List.ext_getElem? fun k => (by
        rcases Nat.lt_or_ge k l.length with h | h
        · obtain ⟨x, hx⟩ := ex_at h
          rw [hx, hall k x (by omega) hx]
        · rw [List.getElem?_eq_none h, List.getElem?_eq_none (by omega)])))).symm

theorem c_wireloomref18_Same {ad ad2 : Option Addr} {n c n2 c2 : Nat} {l l2 : List Obj} {m : Mem} (hl : Objs m ad n c l) (hl2 : Objs m ad2 n2 c2 l2) : Spec Tryz.prog 22 #[.slice ad n c, .slice ad2 n2 c2] m [] (RetE (.bool (decide (l = l2)))) := by
  refine Spec.enter0 Tryz.func22 rfl 42 Tryz.ntmps22 rfl fun a w0 Lf A H => ?_
  have hM := Le.refl m
  have hn := hl.1
  have hn2 := hl2.1
  have hcap := hl.cap
  have hmx : maxLen = 9223372036854775807 := rfl
  refine wp_seq ?_
  refine wp_region_lit ?_
  refine step (Runs.assign A rfl) A rfl ?_; clear A a; intro a A
  refine wpList_nil ?_
  refine wp_seq ?_
  refine wp_seq ?_
  refine wp_region_lit ?_
  refine step (Runs.move A rfl) A rfl ?_; clear A a; intro a A
  refine step (Runs.lenL A rfl SlC.h) A rfl ?_; clear A a; intro a A
  refine step (Runs.move A rfl) A rfl ?_; clear A a; intro a A
  refine step (Runs.lenL A rfl SlC.h) A rfl ?_; clear A a; intro a A
  refine step (Runs.neq A rfl rfl) A rfl ?_; clear A a; intro a A
  refine wpList_nil ?_
  refine cond_split A rfl (fun h1 => ?_) (fun h1 => ?_)
  · have g1 := h1
    try simp only [decide_eq_true_eq, decide_eq_false_iff_not, Bool.not_eq_true', Bool.not_eq_false', ne_eq, Decidable.not_not, Int.not_lt, Int.not_le] at g1
    refine wp_seq ?_
    refine wp_region_lit ?_
    refine step (Runs.assign A rfl) A rfl ?_; clear A a; intro a A
    refine wpList_nil ?_
    refine wp_ret ?_
    exact retF A rfl rfl hM H (congrArg Value.bool (decide_eq_false fun e => by subst e; omega)).symm
  · have g1 := h1
    try simp only [decide_eq_true_eq, decide_eq_false_iff_not, Bool.not_eq_true', Bool.not_eq_false', ne_eq, Decidable.not_not, Int.not_lt, Int.not_le] at g1
    refine wp_skip ?_
    refine wp_seq ?_
    refine wp_seq ?_
    refine wp_region_lit ?_
    refine step (Runs.assign A rfl) A rfl ?_; clear A a; intro a A
    refine wpList_nil ?_
    refine wp_block ?_
    refine wp_loop_ghost (fun q a w => ∃ (i : Nat) (m' : Mem), q = n + 1 - i ∧ (i ≤ n ∧ ∀ (k : Nat) (x : Obj), k < i → l[k]? = some x → l2[k]? = some x) ∧ Le m m' ∧ Fr 42 a [(0, .slice ad n c), (1, .slice ad2 n2 c2), (5, .int .i64 i)] [] ∧ St w0 w m' (Lf)) _ ⟨0, m, rfl, ⟨by omega, fun k _ h => absurd h (by omega)⟩, Le.refl m, (Fr.cons A rfl (Fr.cons A rfl (Fr.cons A rfl (Fr.nil A)))), H⟩ ?_
    clear A H; rintro q a w ⟨i, m, rfl, hinv, hm, A, H⟩
    have hM := hM.trans hm
    have hl := hl.mono hm
    have hl2 := hl2.mono hm
    have hl1 := hm
    obtain ⟨hin, hall⟩ := hinv
    refine wp_seq ?_
    refine wp_seq ?_
    refine wp_region_lit ?_
    refine step (Runs.move A rfl) A rfl ?_; clear A a; intro a A
    refine step (Runs.move A rfl) A rfl ?_; clear A a; intro a A
    refine step (Runs.lenL A rfl SlC.h) A rfl ?_; clear A a; intro a A
    refine step (Runs.lss A rfl rfl) A rfl ?_; clear A a; intro a A
    refine wpList_nil ?_
    refine cond_split A rfl (fun h2 => ?_) (fun h2 => ?_)
    · have g2 := h2
      try simp only [decide_eq_true_eq, decide_eq_false_iff_not, Bool.not_eq_true', Bool.not_eq_false', ne_eq, Decidable.not_not, Int.not_lt, Int.not_le] at g2
      refine wp_skip ?_
      refine wp_seq ?_
      refine wp_block ?_
      refine wp_seq ?_
      refine draw_begin0 (by kernel_rfl) (N := 25) rfl (by kernel_rfl) H ?_; clear H; intro w H hR
      have hS : SW m _ w := ⟨_, H⟩
      have hL := Le.refl m
      obtain ⟨x, hx⟩ := ex_at (l := l) (i := i) (by omega)
      obtain ⟨y, hy⟩ := ex_at (l := l2) (i := i) (by omega)
      obtain ⟨bb, off, cs, rfl, hfz, hcs⟩ := hl.all_ (by omega)
      obtain ⟨bb2, off2, cs2, rfl, hfz2, hcs2⟩ := hl2.all_ (by omega)
      obtain ⟨vx, hx1, hx2, hx3, adx, nx, cx, rfl, hsx, _⟩ := hcs _ _ hx
      obtain ⟨vy, hy1, hy2, hy3, ady, ny, cy, rfl, hsy, _⟩ := hcs2 _ _ hy
      refine dstep hR (i := 0) rfl (by kernel_rfl) (fun _ _ _ h => h) (fun _ _ H' => (Runs.move A rfl)) A rfl hS ?_; clear A a hR; intro a A hR
      refine dstep hR (i := 1) rfl (by kernel_rfl) (fun _ _ _ h => h) (fun _ _ H' => (Runs.move A rfl)) A rfl hS ?_; clear A a hR; intro a A hR
      refine dstep hR (i := 2) rfl (by kernel_rfl) (fun _ _ _ h => h) (fun _ _ H' => (Runs.indexAddr A rfl rfl SlC.h (by omega) (by omega))) A rfl hS ?_; clear A a hR; intro a A hR
      refine dstep hR (i := 3) rfl (by kernel_rfl) (fun _ _ _ h => h) (fun _ _ H' => (Runs.fa A rfl)) A rfl hS ?_; clear A a hR; intro a A hR
      refine dstep hR (i := 4) rfl (by kernel_rfl) (fun _ _ _ h => h) (fun _ _ H' => (Runs.ld1 A H' rfl (v := u64 x.id) (by simpa using hx1))) A rfl hS ?_; clear A a hR; intro a A hR
      refine dstep hR (i := 5) rfl (by kernel_rfl) (fun _ _ _ h => h) (fun _ _ H' => (Runs.move A rfl)) A rfl hS ?_; clear A a hR; intro a A hR
      refine dstep hR (i := 6) rfl (by kernel_rfl) (fun _ _ _ h => h) (fun _ _ H' => (Runs.move A rfl)) A rfl hS ?_; clear A a hR; intro a A hR
      refine dstep hR (i := 7) rfl (by kernel_rfl) (fun _ _ _ h => h) (fun _ _ H' => (Runs.indexAddr A rfl rfl SlC.h (by omega) (by omega))) A rfl hS ?_; clear A a hR; intro a A hR
      refine dstep hR (i := 8) rfl (by kernel_rfl) (fun _ _ _ h => h) (fun _ _ H' => (Runs.fa A rfl)) A rfl hS ?_; clear A a hR; intro a A hR
      refine dstep hR (i := 9) rfl (by kernel_rfl) (fun _ _ _ h => h) (fun _ _ H' => (Runs.ld1 A H' rfl (v := u64 y.id) (by simpa using hy1))) A rfl hS ?_; clear A a hR; intro a A hR
      refine dstep hR (i := 10) rfl (by kernel_rfl) (fun _ _ _ h => h) (fun _ _ H' => (Runs.neq A rfl rfl)) A rfl hS ?_; clear A a hR; intro a A hR
      refine dstep hR (i := 11) rfl (by kernel_rfl) (fun _ _ _ h => h) (fun _ _ H' => (Runs.move A rfl)) A rfl hS ?_; clear A a hR; intro a A hR
      refine onBool A (dj := 28) rfl (fun h3 => ?_) (fun h3 => ?_)
      · have g3 := h3
        try simp only [decide_eq_true_eq, decide_eq_false_iff_not, Bool.not_eq_true', Bool.not_eq_false', ne_eq, Decidable.not_not, Int.not_lt, Int.not_le] at g3
        refine dskip hR (i := 12) (dj := 28) rfl (by kernel_rfl) (fun _ _ _ h => h) rfl rfl h3 A rfl hS ?_; clear A a hR; intro a A hR
        refine dskip hR (i := 13) (dj := 28) rfl (by kernel_rfl) (fun _ _ _ h => h) rfl rfl h3 A rfl hS ?_; clear A a hR; intro a A hR
        refine dskip hR (i := 14) (dj := 28) rfl (by kernel_rfl) (fun _ _ _ h => h) rfl rfl h3 A rfl hS ?_; clear A a hR; intro a A hR
        refine dskip hR (i := 15) (dj := 28) rfl (by kernel_rfl) (fun _ _ _ h => h) rfl rfl h3 A rfl hS ?_; clear A a hR; intro a A hR
        refine dskip hR (i := 16) (dj := 28) rfl (by kernel_rfl) (fun _ _ _ h => h) rfl rfl h3 A rfl hS ?_; clear A a hR; intro a A hR
        refine dskip hR (i := 17) (dj := 28) rfl (by kernel_rfl) (fun _ _ _ h => h) rfl rfl h3 A rfl hS ?_; clear A a hR; intro a A hR
        refine dskip hR (i := 18) (dj := 28) rfl (by kernel_rfl) (fun _ _ _ h => h) rfl rfl h3 A rfl hS ?_; clear A a hR; intro a A hR
        refine dskip hR (i := 19) (dj := 28) rfl (by kernel_rfl) (fun _ _ _ h => h) rfl rfl h3 A rfl hS ?_; clear A a hR; intro a A hR
        refine dskip hR (i := 20) (dj := 28) rfl (by kernel_rfl) (fun _ _ _ h => h) rfl rfl h3 A rfl hS ?_; clear A a hR; intro a A hR
        refine dskip hR (i := 21) (dj := 28) rfl (by kernel_rfl) (fun _ _ _ h => h) rfl rfl h3 A rfl hS ?_; clear A a hR; intro a A hR
        refine dskip hR (i := 22) (dj := 28) rfl (by kernel_rfl) (fun _ _ _ h => h) rfl rfl h3 A rfl hS ?_; clear A a hR; intro a A hR
        refine dskip hR (i := 23) (dj := 28) rfl (by kernel_rfl) (fun _ _ _ h => h) rfl rfl h3 A rfl hS ?_; clear A a hR; intro a A hR
        refine dstep hR (i := 24) rfl (by kernel_rfl) (fun _ _ _ h => h) (fun _ _ H' => (Runs.pickT A rfl h3 rfl)) A rfl hS ?_; clear A a hR; intro a A hR
        refine draw_done hR (by kernel_rfl) ?_
        clear hS hL hR
        refine cond_true A rfl rfl ?_
        refine wp_seq ?_
        refine wp_region_lit ?_
        refine step (Runs.assign A rfl) A rfl ?_; clear A a; intro a A
        refine wpList_nil ?_
        refine wp_ret ?_
        refine retF A rfl rfl hM H (congrArg Value.bool (decide_eq_false fun e => ?_)).symm
        subst e
        rw [hx] at hy
        cases hy
        omega
      · have g3 := h3
        try simp only [decide_eq_true_eq, decide_eq_false_iff_not, Bool.not_eq_true', Bool.not_eq_false', ne_eq, Decidable.not_not, Int.not_lt, Int.not_le] at g3
        refine dstepG hR (i := 12) (dj := 28) rfl (by kernel_rfl) (fun _ _ _ h => h) rfl rfl h3 (fun _ _ H' => (Runs.move A rfl)) A rfl hS ?_; clear A a hR; intro a A hR
        refine dstepG hR (i := 13) (dj := 28) rfl (by kernel_rfl) (fun _ _ _ h => h) rfl rfl h3 (fun _ _ H' => (Runs.move A rfl)) A rfl hS ?_; clear A a hR; intro a A hR
        refine dstepG hR (i := 14) (dj := 28) rfl (by kernel_rfl) (fun _ _ _ h => h) rfl rfl h3 (fun _ _ H' => (Runs.indexAddr A rfl rfl SlC.h (by omega) (by omega))) A rfl hS ?_; clear A a hR; intro a A hR
        refine dstepG hR (i := 15) (dj := 28) rfl (by kernel_rfl) (fun _ _ _ h => h) rfl rfl h3 (fun _ _ H' => (Runs.fa A rfl)) A rfl hS ?_; clear A a hR; intro a A hR
        refine dstepG hR (i := 16) (dj := 28) rfl (by kernel_rfl) (fun _ _ _ h => h) rfl rfl h3 (fun _ _ H' => (Runs.ld1 A H' rfl (v := .slice adx nx cx) (by simpa using hx2))) A rfl hS ?_; clear A a hR; intro a A hR
        refine dstepG hR (i := 17) (dj := 28) rfl (by kernel_rfl) (fun _ _ _ h => h) rfl rfl h3 (fun _ _ H' => (Runs.move A rfl)) A rfl hS ?_; clear A a hR; intro a A hR
        refine dstepG hR (i := 18) (dj := 28) rfl (by kernel_rfl) (fun _ _ _ h => h) rfl rfl h3 (fun _ _ H' => (Runs.move A rfl)) A rfl hS ?_; clear A a hR; intro a A hR
        refine dstepG hR (i := 19) (dj := 28) rfl (by kernel_rfl) (fun _ _ _ h => h) rfl rfl h3 (fun _ _ H' => (Runs.indexAddr A rfl rfl SlC.h (by omega) (by omega))) A rfl hS ?_; clear A a hR; intro a A hR
        refine dstepG hR (i := 20) (dj := 28) rfl (by kernel_rfl) (fun _ _ _ h => h) rfl rfl h3 (fun _ _ H' => (Runs.fa A rfl)) A rfl hS ?_; clear A a hR; intro a A hR
        refine dstepG hR (i := 21) (dj := 28) rfl (by kernel_rfl) (fun _ _ _ h => h) rfl rfl h3 (fun _ _ H' => (Runs.ld1 A H' rfl (v := .slice ady ny cy) (by simpa using hy2))) A rfl hS ?_; clear A a hR; intro a A hR
        refine dlist hR (i := 22) rfl (by kernel_rfl) ?_
        have hR := hR.next (i := 22) (by kernel_rfl)
        refine step_callFG (dj := 28) rfl rfl h3 A rfl rfl (c_wireloomref06_Same hsx hsy) H ?_
        rintro v6_22 a w m hm rfl A H
        have hM := hM.trans hm
        have hl1 := hl1.trans hm
        have hl := hl.mono hm
        have hl2 := hl2.mono hm
        have hL := hL.trans hm
        refine wpList_nil ?_
        clear hS; refine and_keep (H.sw hL) fun hS => ?_
        refine dstepG hR (i := 23) (dj := 28) rfl (by kernel_rfl) (fun _ _ _ h => h) rfl rfl h3 (fun _ _ H' => (Runs.not A rfl)) A rfl hS ?_; clear A a hR; intro a A hR
        refine dstep hR (i := 24) rfl (by kernel_rfl) (fun _ _ _ h => h) (fun _ _ H' => (Runs.pickF A rfl h3 rfl)) A rfl hS ?_; clear A a hR; intro a A hR
        refine draw_done hR (by kernel_rfl) ?_
        clear hS hL hR
        refine cond_split A rfl (fun h4 => ?_) (fun h4 => ?_)
        · have g4 := h4
          try simp only [decide_eq_true_eq, decide_eq_false_iff_not, Bool.not_eq_true', Bool.not_eq_false', ne_eq, Decidable.not_not, Int.not_lt, Int.not_le] at g4
          refine wp_seq ?_
          refine wp_region_lit ?_
          refine step (Runs.assign A rfl) A rfl ?_; clear A a; intro a A
          refine wpList_nil ?_
          refine wp_ret ?_
          refine retF A rfl rfl hM H (congrArg Value.bool (decide_eq_false fun e => ?_)).symm
          subst e
          rw [hx] at hy
          cases hy
          simp at h4
        · have g4 := h4
          try simp only [decide_eq_true_eq, decide_eq_false_iff_not, Bool.not_eq_true', Bool.not_eq_false', ne_eq, Decidable.not_not, Int.not_lt, Int.not_le] at g4
          refine wp_skip ?_
          refine wp_region_lit ?_
          refine step (Runs.move A rfl) A rfl ?_; clear A a; intro a A
          refine step (Runs.add A rfl rfl (by omega)) A rfl ?_; clear A a; intro a A
          refine step (Runs.assign A rfl) A rfl ?_; clear A a; intro a A
          refine wpList_nil ?_
          have hid : x.id = y.id := by rw [← UInt64.toNat_inj]; omega
          have hdt : x.data = y.data := by simpa using h4
          have hxy : x = y := by cases x; cases y; simp only at hid hdt; subst hid; subst hdt; rfl
          exact ⟨_, by omega, i + 1, m, rfl, ⟨by omega, lt_ext hall hx (by rw [hy, hxy])⟩, hl1, (Fr.cons A rfl (Fr.cons A rfl (Fr.cons A rfl (Fr.nil A)))), H⟩
    · have g2 := h2
      try simp only [decide_eq_true_eq, decide_eq_false_iff_not, Bool.not_eq_true', Bool.not_eq_false', ne_eq, Decidable.not_not, Int.not_lt, Int.not_le] at g2
      refine wp_exit ?_
      refine wp_seq ?_
      refine wp_region_lit ?_
      refine step (Runs.assign A rfl) A rfl ?_; clear A a; intro a A
      refine wpList_nil ?_
      refine wp_ret ?_
      exact retF A rfl rfl hM H (congrArg Value.bool (decide_eq_true (List.ext_getElem? fun k => (by
        rcases Nat.lt_or_ge k l.length with h | h
        · obtain ⟨x, hx⟩ := ex_at h
          rw [hx, hall k x (by omega) hx]
        · rw [List.getElem?_eq_none h, List.getElem?_eq_none (by omega)])))).symm

theorem c_wireloomref18_Ids {ad : Option Addr} {n c : Nat} {l : List Obj} {m : Mem} (hl : Objs m ad n c l) (hb : n ≤ 1100000) : Spec Tryz.prog 28 #[.slice ad n c] m [] (RetV fun _ v L => ∃ ad' c', v = .slice ad' n c' ∧ L = [row 29 1 ad' n c' ((l.map (·.id)).map u64)]) := by
  refine Spec.enter Tryz.func28 rfl 21 Tryz.ntmps28 rfl fun a w0 Lf A H => ?_
  simp only [List.cons_append, List.nil_append] at H
  have hM := Le.refl m
  have hn := hl.1
  have hcap := hl.cap
  have hmx : maxLen = 9223372036854775807 := rfl
  refine wp_seq ?_
  refine wp_region_lit ?_
  refine step (Runs.assign A rfl) A rfl ?_; clear A a; intro a A
  refine wpList_nil ?_
  refine wp_seq ?_
  refine wp_region_lit ?_
  refine step_slice A H rfl rfl rfl rfl rfl rfl ?_; intro b1 a w A H
  refine step (Runs.assign A rfl) A rfl ?_; clear A a; intro a A
  refine wpList_nil ?_
  refine wp_seq ?_
  refine wp_seq ?_
  refine wp_region_lit ?_
  refine step (Runs.assign A rfl) A rfl ?_; clear A a; intro a A
  refine wpList_nil ?_
  refine wp_block ?_
  have H := H.row_pt (n := 0) (size := 1) rfl (by omega)
  refine wp_loop_ghost (fun q a w => ∃ (i : Nat) (ad2 : Option Addr) (c2 : Nat) (m' : Mem), q = n + 1 - i ∧ (i ≤ n) ∧ Le m m' ∧ Fr 21 a [(0, .slice ad n c), (3, .slice ad2 i c2), (4, .int .i64 i)] [] ∧ St w0 w m' (row 29 1 ad2 i c2 (((l.take i).map (·.id)).map u64) :: Lf)) _ ⟨0, some ⟨b1, 0, none⟩, 0, m, rfl, by omega, Le.refl m, (Fr.cons A rfl (Fr.cons A rfl (Fr.cons A rfl (Fr.nil A)))), H⟩ ?_
  clear A H; rintro q a w ⟨i, ad2, c2, m, rfl, hinv, hm, A, H⟩
  have hM := hM.trans hm
  have hl := hl.mono hm
  have hl1 := hm
  refine wp_seq ?_
  refine wp_seq ?_
  refine wp_region_lit ?_
  refine step (Runs.move A rfl) A rfl ?_; clear A a; intro a A
  refine step (Runs.move A rfl) A rfl ?_; clear A a; intro a A
  refine step (Runs.lenL A rfl SlC.h) A rfl ?_; clear A a; intro a A
  refine step (Runs.lss A rfl rfl) A rfl ?_; clear A a; intro a A
  refine wpList_nil ?_
  refine cond_split A rfl (fun h1 => ?_) (fun h1 => ?_)
  · have g1 := h1
    try simp only [decide_eq_true_eq, decide_eq_false_iff_not, Bool.not_eq_true', Bool.not_eq_false', ne_eq, Decidable.not_not, Int.not_lt, Int.not_le] at g1
    refine wp_skip ?_
    refine wp_seq ?_
    refine wp_block ?_
    refine wp_region_lit ?_
    refine step (Runs.move A rfl) A rfl ?_; clear A a; intro a A
    refine step (Runs.move A rfl) A rfl ?_; clear A a; intro a A
    refine step (Runs.move A rfl) A rfl ?_; clear A a; intro a A
    obtain ⟨x, hx⟩ := ex_at (l := l) (i := i) (by omega)
    obtain ⟨bb, off, cs, rfl, hfz, hcs⟩ := hl.all_ (by omega)
    obtain ⟨vx, hx1, hx2, hx3, hxd⟩ := hcs _ _ hx
    refine step (Runs.indexAddr A rfl rfl SlC.h (by omega) (by omega)) A rfl ?_; clear A a; intro a A
    refine step (Runs.fa A rfl) A rfl ?_; clear A a; intro a A
    refine step (Runs.ld1 A H rfl (v := u64 x.id) (by simpa using hx1)) A rfl ?_; clear A a; intro a A
    refine step_slice A H rfl rfl rfl rfl rfl rfl ?_; intro b2 a w A H
    refine step_append A H rfl rfl rfl rfl (by decide) (by omega) (by simp only [maxLen]; omega) rfl rfl ?_; clear A a; intro ad1 c1 a w A H
    refine step (Runs.assign A rfl) A rfl ?_; clear A a; intro a A
    refine wpList_nil ?_
    refine wp_region_lit ?_
    refine step (Runs.move A rfl) A rfl ?_; clear A a; intro a A
    refine step (Runs.add A rfl rfl (by omega)) A rfl ?_; clear A a; intro a A
    refine step (Runs.assign A rfl) A rfl ?_; clear A a; intro a A
    refine wpList_nil ?_
    have ex : ((l.take i).map (·.id)).map u64 ++ [u64 x.id] = ((l.take (i + 1)).map (·.id)).map u64 := by rw [List.take_add_one, hx]; simp
    rw [ex] at H
    exact ⟨_, by omega, i + 1, ad1, c1, m, rfl, by omega, hl1, (Fr.cons A rfl (Fr.cons A rfl (Fr.cons A rfl (Fr.nil A)))), H.subH⟩
  · have g1 := h1
    try simp only [decide_eq_true_eq, decide_eq_false_iff_not, Bool.not_eq_true', Bool.not_eq_false', ne_eq, Decidable.not_not, Int.not_lt, Int.not_le] at g1
    refine wp_exit ?_
    refine wp_seq ?_
    refine wp_region_lit ?_
    refine step (Runs.move A rfl) A rfl ?_; clear A a; intro a A
    refine step (Runs.assign A rfl) A rfl ?_; clear A a; intro a A
    refine wpList_nil ?_
    refine wp_ret ?_
    have ei : i = n := by omega
    subst ei
    rw [show l.take i = l by rw [hn]; exact List.take_length ..] at H
    exact retV A rfl rfl hM H ⟨_, _, rfl, rfl⟩

def dmgP (l : List Obj) : List UInt64 := (l.filter fun o => !sndP o).map (·.id)
def keepP (l : List Obj) (ids : List UInt64) : List Obj := l.filter fun o => decide (o.id ∈ ids)
theorem take_filter {α : Type} {l : List α} {i : Nat} {x : α} (p : α → Bool) (h : l[i]? = some x) : (l.take (i + 1)).filter p = (l.take i).filter p ++ if p x then [x] else [] := by
  rw [List.take_add_one, h, List.filter_append]
  simp only [Option.toList_some]
  split
  · rename_i hp; simp [hp]
  · rename_i hp; simp [hp]
theorem filter_le {α : Type} {l : List α} {i : Nat} (p : α → Bool) : ((l.take i).filter p).length ≤ i := Nat.le_trans (List.length_filter_le _ _) (List.length_take_le _ _)

theorem c_objects_Damaged {ad : Option Addr} {n c : Nat} {l : List Obj} {m : Mem} (hl : Objs m ad n c l) (hb : n ≤ 1100000) : Spec Tryz.prog 20 #[.slice ad n c] m [] (RetF fun m' v => ∃ ad' c', v = .slice ad' (dmgP l).length c' ∧ Ws m' ad' (dmgP l).length c' (dmgP l)) := by
  refine Spec.enter0 Tryz.func20 rfl 22 Tryz.ntmps20 rfl fun a w0 Lf A H => ?_
  have hM := Le.refl m
  have hn := hl.1
  have hcap := hl.cap
  have hmx : maxLen = 9223372036854775807 := rfl
  refine wp_seq ?_
  refine wp_region_lit ?_
  refine step (Runs.assign A rfl) A rfl ?_; clear A a; intro a A
  refine wpList_nil ?_
  refine wp_seq ?_
  refine wp_region_lit ?_
  refine step (Runs.assign A rfl) A rfl ?_; clear A a; intro a A
  refine wpList_nil ?_
  refine wp_seq ?_
  refine wp_seq ?_
  refine wp_region_lit ?_
  refine step (Runs.move A rfl) A rfl ?_; clear A a; intro a A
  refine step (Runs.lenL A rfl SlC.h) A rfl ?_; clear A a; intro a A
  refine step (Runs.move A rfl) A rfl ?_; clear A a; intro a A
  refine wpList_nil ?_
  refine wp_block ?_
  have H := H.row_nil 29 1
  refine wp_loop_ghost (fun q a w => ∃ (i : Nat) (ad2 : Option Addr) (c2 : Nat) (m' : Mem), q = n + 1 - i ∧ (i ≤ n) ∧ Le m m' ∧ Fr 22 a [(3, .slice ad2 (dmgP (l.take i)).length c2), (6, .slice ad n c), (7, .int .i64 n), (8, .int .i64 i)] [] ∧ St w0 w m' (row 29 1 ad2 (dmgP (l.take i)).length c2 ((dmgP (l.take i)).map u64) :: Lf)) _ ⟨0, none, 0, m, rfl, by omega, Le.refl m, (Fr.cons A rfl (Fr.cons A rfl (Fr.cons A rfl (Fr.cons A rfl (Fr.nil A))))), H⟩ ?_
  clear A H; rintro q a w ⟨i, ad2, c2, m, rfl, hinv, hm, A, H⟩
  have hM := hM.trans hm
  have hl := hl.mono hm
  have hl1 := hm
  have hfl := filter_le (l := l) (i := i) (fun o => !sndP o)
  have hfl2 : (dmgP (l.take i)).length ≤ i := by rw [dmgP, List.length_map]; exact hfl
  refine wp_seq ?_
  refine wp_region_lit ?_
  refine step (Runs.lss A rfl rfl) A rfl ?_; clear A a; intro a A
  refine wpList_nil ?_
  refine wp_seq ?_
  refine cond_split A rfl (fun h1 => ?_) (fun h1 => ?_)
  · have g1 := h1
    try simp only [decide_eq_true_eq, decide_eq_false_iff_not, Bool.not_eq_true', Bool.not_eq_false', ne_eq, Decidable.not_not, Int.not_lt, Int.not_le] at g1
    refine wp_skip ?_
    refine wp_seq ?_
    refine wp_block ?_
    refine wp_seq ?_
    refine wp_region_lit ?_
    obtain ⟨x, hx⟩ := ex_at (l := l) (i := i) (by omega)
    obtain ⟨bb, off, cs, rfl, hfz, hcs⟩ := hl.all_ (by omega)
    obtain ⟨vx, hx1, hx2, hx3, hxd⟩ := hcs _ _ hx
    obtain ⟨adx, nx, cx, rfl, hsx, hnx⟩ := hxd
    have hxd : Dat m (.slice adx nx cx) x.data := ⟨_, _, _, rfl, hsx, hnx⟩
    refine step (Runs.indexAddr A rfl rfl SlC.h (by omega) (by omega)) A rfl ?_; clear A a; intro a A
    refine step (Runs.ldN A H rfl (by simpa using hx3)) A rfl ?_; clear A a; intro a A
    refine step_alloc A H rfl ?_; clear A a; intro b1 a w A H
    refine step_store A H rfl rfl rfl rfl rfl rfl ?_; intro w H
    refine wpList_nil ?_
    refine wp_seq ?_
    refine wp_region_lit ?_
    refine step (Runs.ldN A H rfl rfl) A rfl ?_; clear A a; intro a A
    refine step_callF A rfl rfl (c_objects_sound hxd) H ?_
    rintro v5_1 a w m hm rfl A H
    have hM := hM.trans hm
    have hl1 := hl1.trans hm
    have hl := hl.mono hm
    have hxd := hxd.mono hm
    refine step (Runs.not A rfl) A rfl ?_; clear A a; intro a A
    refine wpList_nil ?_
    refine cond_split A rfl (fun h2 => ?_) (fun h2 => ?_)
    · have g2 := h2
      try simp only [decide_eq_true_eq, decide_eq_false_iff_not, Bool.not_eq_true', Bool.not_eq_false', ne_eq, Decidable.not_not, Int.not_lt, Int.not_le] at g2
      refine wp_region_lit ?_
      refine step (Runs.move A rfl) A rfl ?_; clear A a; intro a A
      refine step (Runs.fa A rfl) A rfl ?_; clear A a; intro a A
      refine step (Runs.ld1 A H rfl (v := u64 x.id) rfl) A rfl ?_; clear A a; intro a A
      refine step_slice A H rfl rfl rfl rfl rfl rfl ?_; intro b2 a w A H
      refine step_append A H rfl rfl rfl rfl (by decide) (by omega) (by simp only [maxLen]; omega) rfl rfl ?_; clear A a; intro ad1 c1 a w A H
      refine step (Runs.assign A rfl) A rfl ?_; clear A a; intro a A
      refine wpList_nil ?_
      refine wp_region_lit ?_
      refine step (Runs.add A rfl rfl (by omega)) A rfl ?_; clear A a; intro a A
      refine step (Runs.move A rfl) A rfl ?_; clear A a; intro a A
      refine wpList_nil ?_
      have hsd : sndP x = false := by simpa [sndP] using h2
      have hst : dmgP (l.take (i + 1)) = dmgP (l.take i) ++ [x.id] := by simp [dmgP, take_filter _ hx, hsd]
      have hlen : (dmgP (l.take (i + 1))).length = (dmgP (l.take i)).length + 1 := by rw [hst]; simp
      have hcl : (dmgP (l.take (i + 1))).map u64 = (dmgP (l.take i)).map u64 ++ [u64 x.id] := by rw [hst]; simp
      rw [← hlen] at A H
      rw [← hcl] at H
      exact ⟨_, by omega, i + 1, ad1, c1, m, rfl, by omega, hl1, (Fr.cons A rfl (Fr.cons A rfl (Fr.cons A rfl (Fr.cons A rfl (Fr.nil A))))), H.subH⟩
    · have g2 := h2
      try simp only [decide_eq_true_eq, decide_eq_false_iff_not, Bool.not_eq_true', Bool.not_eq_false', ne_eq, Decidable.not_not, Int.not_lt, Int.not_le] at g2
      refine wp_skip ?_
      refine wp_region_lit ?_
      refine step (Runs.add A rfl rfl (by omega)) A rfl ?_; clear A a; intro a A
      refine step (Runs.move A rfl) A rfl ?_; clear A a; intro a A
      refine wpList_nil ?_
      have hsd : sndP x = true := by simpa [sndP] using h2
      have hst : dmgP (l.take (i + 1)) = dmgP (l.take i) := by simp [dmgP, take_filter _ hx, hsd]
      rw [← hst] at A H
      exact ⟨_, by omega, i + 1, ad2, c2, m, rfl, by omega, hl1, (Fr.cons A rfl (Fr.cons A rfl (Fr.cons A rfl (Fr.cons A rfl (Fr.nil A))))), H.subH⟩
  · have g1 := h1
    try simp only [decide_eq_true_eq, decide_eq_false_iff_not, Bool.not_eq_true', Bool.not_eq_false', ne_eq, Decidable.not_not, Int.not_lt, Int.not_le] at g1
    refine wp_exit ?_
    refine wp_seq ?_
    refine wp_region_lit ?_
    refine step (Runs.move A rfl) A rfl ?_; clear A a; intro a A
    refine step (Runs.assign A rfl) A rfl ?_; clear A a; intro a A
    refine wpList_nil ?_
    refine wp_ret ?_
    have ei : i = n := by omega
    subst ei
    rw [show l.take i = l by rw [hn]; exact List.take_length ..] at H A
    obtain ⟨m2, hm2, hw, H⟩ := H.row_freeze
    exact retF A rfl rfl (hM.trans hm2) H ⟨_, _, rfl, hw⟩

theorem c_objects_Keep {ad ad3 : Option Addr} {n c n3 c3 : Nat} {l : List Obj} {ids : List UInt64} {m : Mem} (hl : Objs m ad n c l) (hb : n ≤ 1100000) (hi : Ws m ad3 n3 c3 ids) : Spec Tryz.prog 26 #[.slice ad n c, .slice ad3 n3 c3] m [] (RetF fun m' v => ∃ ad' c', v = .slice ad' (keepP l ids).length c' ∧ Objs m' ad' (keepP l ids).length c' (keepP l ids)) := by
  refine Spec.enter0 Tryz.func26 rfl 24 Tryz.ntmps26 rfl fun a w0 Lf A H => ?_
  have hM := Le.refl m
  have hn := hl.1
  have hcap := hl.cap
  have hmx : maxLen = 9223372036854775807 := rfl
  refine wp_seq ?_
  refine wp_region_lit ?_
  refine step (Runs.assign A rfl) A rfl ?_; clear A a; intro a A
  refine wpList_nil ?_
  refine wp_seq ?_
  refine wp_region_lit ?_
  refine step (Runs.assign A rfl) A rfl ?_; clear A a; intro a A
  refine wpList_nil ?_
  refine wp_seq ?_
  refine wp_seq ?_
  refine wp_region_lit ?_
  refine step (Runs.move A rfl) A rfl ?_; clear A a; intro a A
  refine step (Runs.lenL A rfl SlC.h) A rfl ?_; clear A a; intro a A
  refine step (Runs.move A rfl) A rfl ?_; clear A a; intro a A
  refine wpList_nil ?_
  refine wp_block ?_
  have H := H.row_nil 66 2
  refine wp_loop_ghost (fun q a w => ∃ (i : Nat) (ad2 : Option Addr) (c2 : Nat) (xs : List Value) (m' : Mem), q = n + 1 - i ∧ (i ≤ n ∧ OR m' xs (keepP (l.take i) ids)) ∧ Le m m' ∧ Fr 24 a [(1, .slice ad3 n3 c3), (5, .slice ad2 (keepP (l.take i) ids).length c2), (8, .slice ad n c), (9, .int .i64 n), (10, .int .i64 i)] [] ∧ St w0 w m' (row 66 2 ad2 (keepP (l.take i) ids).length c2 xs :: Lf)) _ ⟨0, none, 0, [], m, rfl, ⟨by omega, trivial⟩, Le.refl m, (Fr.cons A rfl (Fr.cons A rfl (Fr.cons A rfl (Fr.cons A rfl (Fr.cons A rfl (Fr.nil A)))))), H⟩ ?_
  clear A H; rintro q a w ⟨i, ad2, c2, xs, m, rfl, hinv, hm, A, H⟩
  have hM := hM.trans hm
  have hl := hl.mono hm
  have hi := hi.mono hm
  have hl1 := hm
  obtain ⟨hin, hxs⟩ := hinv
  have hfl : (keepP (l.take i) ids).length ≤ i := filter_le (l := l) (i := i) (fun o => decide (o.id ∈ ids))
  refine wp_seq ?_
  refine wp_region_lit ?_
  refine step (Runs.lss A rfl rfl) A rfl ?_; clear A a; intro a A
  refine wpList_nil ?_
  refine wp_seq ?_
  refine cond_split A rfl (fun h1 => ?_) (fun h1 => ?_)
  · have g1 := h1
    try simp only [decide_eq_true_eq, decide_eq_false_iff_not, Bool.not_eq_true', Bool.not_eq_false', ne_eq, Decidable.not_not, Int.not_lt, Int.not_le] at g1
    refine wp_skip ?_
    refine wp_seq ?_
    refine wp_block ?_
    refine wp_seq ?_
    refine wp_region_lit ?_
    obtain ⟨x, hx⟩ := ex_at (l := l) (i := i) (by omega)
    obtain ⟨bb, off, cs, rfl, hfz, hcs⟩ := hl.all_ (by omega)
    obtain ⟨vx, hx1, hx2, hx3, hxd⟩ := hcs _ _ hx
    obtain ⟨adx, nx, cx, rfl, hsx, hnx⟩ := hxd
    have hxd : Dat m (.slice adx nx cx) x.data := ⟨_, _, _, rfl, hsx, hnx⟩
    refine step (Runs.indexAddr A rfl rfl SlC.h (by omega) (by omega)) A rfl ?_; clear A a; intro a A
    refine step (Runs.ldN A H rfl (by simpa using hx3)) A rfl ?_; clear A a; intro a A
    refine step_alloc A H rfl ?_; clear A a; intro b1 a w A H
    refine step_store A H rfl rfl rfl rfl rfl rfl ?_; intro w H
    refine wpList_nil ?_
    refine wp_seq ?_
    refine wp_region_lit ?_
    refine step (Runs.move A rfl) A rfl ?_; clear A a; intro a A
    refine step (Runs.fa A rfl) A rfl ?_; clear A a; intro a A
    refine step (Runs.ld1 A H rfl (v := u64 x.id) rfl) A rfl ?_; clear A a; intro a A
    refine step_callF A rfl rfl (c_slices_Contains_uint64_uint64 hi) H ?_
    rintro v5_3 a w m hm rfl A H
    have hM := hM.trans hm
    have hl1 := hl1.trans hm
    have hl := hl.mono hm
    have hi := hi.mono hm
    have hxs := hxs.mono hm
    have hxd := hxd.mono hm
    refine wpList_nil ?_
    refine cond_split A rfl (fun h2 => ?_) (fun h2 => ?_)
    · have g2 := h2
      try simp only [decide_eq_true_eq, decide_eq_false_iff_not, Bool.not_eq_true', Bool.not_eq_false', ne_eq, Decidable.not_not, Int.not_lt, Int.not_le] at g2
      refine wp_region_lit ?_
      refine step (Runs.move A rfl) A rfl ?_; clear A a; intro a A
      refine step (Runs.ldN A H rfl rfl) A rfl ?_; clear A a; intro a A
      refine step_slice A H rfl rfl rfl rfl rfl rfl ?_; intro b2 a w A H
      refine step_append A H rfl rfl rfl rfl (by decide) (by omega) (by simp only [maxLen]; omega) rfl rfl ?_; clear A a; intro ad1 c1 a w A H
      refine step (Runs.assign A rfl) A rfl ?_; clear A a; intro a A
      refine wpList_nil ?_
      refine wp_region_lit ?_
      refine step (Runs.add A rfl rfl (by omega)) A rfl ?_; clear A a; intro a A
      refine step (Runs.move A rfl) A rfl ?_; clear A a; intro a A
      refine wpList_nil ?_
      have hst : keepP (l.take (i + 1)) ids = keepP (l.take i) ids ++ [x] := by simp only [keepP, take_filter _ hx, h2, if_true]
      have hlen : (keepP (l.take (i + 1)) ids).length = (keepP (l.take i) ids).length + 1 := by rw [hst]; simp
      rw [← hlen] at A H
      exact ⟨_, by omega, i + 1, ad1, c1, xs ++ [u64 x.id, .slice adx nx cx], m, rfl, ⟨by omega, by rw [hst]; exact hxs.app ⟨rfl, hxd, trivial⟩⟩, hl1, (Fr.cons A rfl (Fr.cons A rfl (Fr.cons A rfl (Fr.cons A rfl (Fr.cons A rfl (Fr.nil A)))))), H.subH⟩
    · have g2 := h2
      try simp only [decide_eq_true_eq, decide_eq_false_iff_not, Bool.not_eq_true', Bool.not_eq_false', ne_eq, Decidable.not_not, Int.not_lt, Int.not_le] at g2
      refine wp_skip ?_
      refine wp_region_lit ?_
      refine step (Runs.add A rfl rfl (by omega)) A rfl ?_; clear A a; intro a A
      refine step (Runs.move A rfl) A rfl ?_; clear A a; intro a A
      refine wpList_nil ?_
      have hst : keepP (l.take (i + 1)) ids = keepP (l.take i) ids := by simp [keepP, take_filter _ hx, h2]
      rw [← hst] at A H
      exact ⟨_, by omega, i + 1, ad2, c2, xs, m, rfl, ⟨by omega, by rw [hst]; exact hxs⟩, hl1, (Fr.cons A rfl (Fr.cons A rfl (Fr.cons A rfl (Fr.cons A rfl (Fr.cons A rfl (Fr.nil A)))))), H.subH⟩
  · have g1 := h1
    try simp only [decide_eq_true_eq, decide_eq_false_iff_not, Bool.not_eq_true', Bool.not_eq_false', ne_eq, Decidable.not_not, Int.not_lt, Int.not_le] at g1
    refine wp_exit ?_
    refine wp_seq ?_
    refine wp_region_lit ?_
    refine step (Runs.move A rfl) A rfl ?_; clear A a; intro a A
    refine step (Runs.assign A rfl) A rfl ?_; clear A a; intro a A
    refine wpList_nil ?_
    refine wp_ret ?_
    have ei : i = n := by omega
    subst ei
    rw [show l.take i = l by rw [hn]; exact List.take_length ..] at H A hxs
    obtain ⟨m2, hm2, hw, H⟩ := H.row_objs hxs
    exact retF A rfl rfl (hM.trans hm2) H ⟨_, _, rfl, hw⟩
end Sl
end Go.Proofs.YtanhehbfbakdcaaGreatDoor
