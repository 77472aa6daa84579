/- Stores: walks, printed by my gen.py out of annotations. -/
import Derived.Test.YtanhehbfbakdcaaGreatDoorObj
import Derived.Test.YtanhehbfbakdcaaGreatDoorDigW
set_option linter.unusedSimpArgs false
set_option linter.unusedVariables false
namespace Go.Proofs.YtanhehbfbakdcaaGreatDoor
namespace Sl
open Go

theorem c_objects_sound {id : UInt64} {v : Value} {d : List UInt8} {m : Mem} (hd : Dat m v d) : Spec Tryz.prog 49 #[.agg #[u64 id, v]] m [] (RetE (.bool (decide (id = dig d)))) := by
  refine Spec.enter0 Tryz.func49 rfl 9 Tryz.ntmps49 rfl fun a w0 Lf A H => ?_
  have hM := Le.refl m
  obtain ⟨ad, n, c, rfl, hs, hn⟩ := hd
  refine wp_seq ?_
  refine wp_region_lit ?_
  refine step_box A H rfl (by simp only [Value.cells, List.toList_toArray]; rfl) rfl ?_; intro b1 a w A H
  refine step (Runs.assign A rfl) A rfl ?_; clear A a; intro a A
  refine wpList_nil ?_
  refine wp_seq ?_
  refine draw_begin (ms := m) (Ls := [pt b1 [u64 id, .slice ad n c] 66]) (by kernel_rfl) (N := 7) rfl (by kernel_rfl) H ?_; clear H; intro w H hR
  have hS : SW m [pt b1 [u64 id, .slice ad n c] 66] w := H.sw (Le.refl m)
  have hL := Le.refl m
  refine dstep hR (i := 0) rfl (by kernel_rfl) (fun _ _ _ h => h) (fun _ _ H' => (Runs.fa A rfl)) A rfl hS ?_; clear A a hR; intro a A hR
  refine dstep hR (i := 1) rfl (by kernel_rfl) (fun _ _ _ h => h) (fun _ _ H' => (Runs.ld1 A H' rfl rfl)) A rfl hS ?_; clear A a hR; intro a A hR
  refine dstep hR (i := 2) rfl (by kernel_rfl) (fun _ _ _ h => h) (fun _ _ H' => (Runs.fa A rfl)) A rfl hS ?_; clear A a hR; intro a A hR
  refine dstep hR (i := 3) rfl (by kernel_rfl) (fun _ _ _ h => h) (fun _ _ H' => (Runs.ld1 A H' rfl rfl)) A rfl hS ?_; clear A a hR; intro a A hR
  refine dlist hR (i := 4) rfl (by kernel_rfl) ?_
  have hR := hR.next (i := 4) (by kernel_rfl)
  refine step_callF A rfl rfl (c_digest_Bytes hs hn) H ?_
  rintro v1_4 a w m hm rfl A H
  have hM := hM.trans hm
  have hs := hs.mono hm
  have hL := hL.trans hm
  refine wpList_nil ?_
  clear hS; refine and_keep (H.sw hL) fun hS => ?_
  refine dstep hR (i := 5) rfl (by kernel_rfl) (fun _ _ _ h => h) (fun _ _ H' => (Runs.eql A rfl rfl)) A rfl hS ?_; clear A a hR; intro a A hR
  refine dstep hR (i := 6) rfl (by kernel_rfl) (fun _ _ _ h => h) (fun _ _ H' => (Runs.assign A rfl)) A rfl hS ?_; clear A a hR; intro a A hR
  refine draw_done hR (by kernel_rfl) ?_
  clear hS hL hR
  refine wp_ret ?_
  exact retF A rfl rfl hM H (by rw [dec64])

theorem c_wireloomref18_Sound {id : UInt64} {v : Value} {d : List UInt8} {m : Mem} (hd : Dat m v d) : Spec Tryz.prog 44 #[.agg #[u64 id, v]] m [] (RetE (.bool (decide (id = dig d)))) := by
  refine Spec.enter0 Tryz.func44 rfl 9 Tryz.ntmps44 rfl fun a w0 Lf A H => ?_
  have hM := Le.refl m
  obtain ⟨ad, n, c, rfl, hs, hn⟩ := hd
  refine wp_seq ?_
  refine wp_region_lit ?_
  refine step_box A H rfl (by simp only [Value.cells, List.toList_toArray]; rfl) rfl ?_; intro b1 a w A H
  refine step (Runs.assign A rfl) A rfl ?_; clear A a; intro a A
  refine wpList_nil ?_
  refine wp_seq ?_
  refine draw_begin (ms := m) (Ls := [pt b1 [u64 id, .slice ad n c] 66]) (by kernel_rfl) (N := 7) rfl (by kernel_rfl) H ?_; clear H; intro w H hR
  have hS : SW m [pt b1 [u64 id, .slice ad n c] 66] w := H.sw (Le.refl m)
  have hL := Le.refl m
  refine dstep hR (i := 0) rfl (by kernel_rfl) (fun _ _ _ h => h) (fun _ _ H' => (Runs.fa A rfl)) A rfl hS ?_; clear A a hR; intro a A hR
  refine dstep hR (i := 1) rfl (by kernel_rfl) (fun _ _ _ h => h) (fun _ _ H' => (Runs.ld1 A H' rfl rfl)) A rfl hS ?_; clear A a hR; intro a A hR
  refine dstep hR (i := 2) rfl (by kernel_rfl) (fun _ _ _ h => h) (fun _ _ H' => (Runs.fa A rfl)) A rfl hS ?_; clear A a hR; intro a A hR
  refine dstep hR (i := 3) rfl (by kernel_rfl) (fun _ _ _ h => h) (fun _ _ H' => (Runs.ld1 A H' rfl rfl)) A rfl hS ?_; clear A a hR; intro a A hR
  refine dlist hR (i := 4) rfl (by kernel_rfl) ?_
  have hR := hR.next (i := 4) (by kernel_rfl)
  refine step_callF A rfl rfl (c_wireloomref01_Bytes hs hn) H ?_
  rintro v1_4 a w m hm rfl A H
  have hM := hM.trans hm
  have hs := hs.mono hm
  have hL := hL.trans hm
  refine wpList_nil ?_
  clear hS; refine and_keep (H.sw hL) fun hS => ?_
  refine dstep hR (i := 5) rfl (by kernel_rfl) (fun _ _ _ h => h) (fun _ _ H' => (Runs.eql A rfl rfl)) A rfl hS ?_; clear A a hR; intro a A hR
  refine dstep hR (i := 6) rfl (by kernel_rfl) (fun _ _ _ h => h) (fun _ _ H' => (Runs.assign A rfl)) A rfl hS ?_; clear A a hR; intro a A hR
  refine draw_done hR (by kernel_rfl) ?_
  clear hS hL hR
  refine wp_ret ?_
  exact retF A rfl rfl hM H (by rw [dec64])

theorem c_objects_Is {ad : Option Addr} {n c : Nat} {l : List Obj} {m : Mem} (hl : Objs m ad n c l) : Spec Tryz.prog 14 #[.slice ad n c] m [] (RetE (.bool (decide (Srt l)))) := by
  refine Spec.enter0 Tryz.func14 rfl 22 Tryz.ntmps14 rfl fun a w0 Lf A H => ?_
  have hM := Le.refl m
  have hn := hl.1
  have hcap := hl.cap
  have hmx : maxLen = 9223372036854775807 := rfl
  refine wp_seq ?_
  refine wp_region_lit ?_
  refine step (Runs.assign A rfl) A rfl ?_; clear A a; intro a A
  refine wpList_nil ?_
  refine wp_seq ?_
  refine wp_seq ?_
  refine wp_region_lit ?_
  refine step (Runs.assign A rfl) A rfl ?_; clear A a; intro a A
  refine wpList_nil ?_
  refine wp_block ?_
  refine wp_loop_ghost (fun q a w => ∃ (i : Nat) (m' : Mem), q = n + 1 - i ∧ (1 ≤ i ∧ (i ≤ n ∨ i = 1) ∧ ∀ k x y, k + 1 < i → l[k]? = some x → l[k + 1]? = some y → x.id < y.id) ∧ Le m m' ∧ Fr 22 a [(0, .slice ad n c), (3, .int .i64 i)] [] ∧ St w0 w m' (Lf)) _ ⟨1, m, rfl, ⟨by omega, .inr rfl, fun k _ _ h => absurd h (by omega)⟩, Le.refl m, (Fr.cons A rfl (Fr.cons A rfl (Fr.nil A))), H⟩ ?_
  clear A H; rintro q a w ⟨i, m, rfl, hinv, hm, A, H⟩
  have hM := hM.trans hm
  have hl := hl.mono hm
  have hl1 := hm
  obtain ⟨hi1, hin, hall⟩ := hinv
  refine wp_seq ?_
  refine wp_seq ?_
  refine wp_region_lit ?_
  refine step (Runs.move A rfl) A rfl ?_; clear A a; intro a A
  refine step (Runs.move A rfl) A rfl ?_; clear A a; intro a A
  refine step (Runs.lenL A rfl SlC.h) A rfl ?_; clear A a; intro a A
  refine step (Runs.lss A rfl rfl) A rfl ?_; clear A a; intro a A
  refine wpList_nil ?_
  refine cond_split A rfl (fun h1 => ?_) (fun h1 => ?_)
  · have g1 := h1
    try simp only [decide_eq_true_eq, decide_eq_false_iff_not, Bool.not_eq_true', Bool.not_eq_false', ne_eq, Decidable.not_not, Int.not_lt, Int.not_le] at g1
    refine wp_skip ?_
    refine wp_seq ?_
    refine wp_block ?_
    refine wp_seq ?_
    refine draw_begin0 (by kernel_rfl) (N := 12) rfl (by kernel_rfl) H ?_; clear H; intro w H hR
    have hS : SW m _ w := ⟨_, H⟩
    have hL := Le.refl m
    obtain ⟨x, hx⟩ := ex_at (l := l) (i := i - 1) (by omega)
    obtain ⟨y, hy⟩ := ex_at (l := l) (i := i) (by omega)
    obtain ⟨bb, off, cs, rfl, hfz, hcs⟩ := hl.all_ (by omega)
    obtain ⟨vx, hx1, _, _, _⟩ := hcs _ _ hx
    obtain ⟨vy, hy1, _, _, _⟩ := hcs _ _ hy
    have ei : ((i : Int) - 1).toNat = i - 1 := by omega
    refine dstep hR (i := 0) rfl (by kernel_rfl) (fun _ _ _ h => h) (fun _ _ H' => (Runs.move A rfl)) A rfl hS ?_; clear A a hR; intro a A hR
    refine dstep hR (i := 1) rfl (by kernel_rfl) (fun _ _ _ h => h) (fun _ _ H' => (Runs.move A rfl)) A rfl hS ?_; clear A a hR; intro a A hR
    refine dstep hR (i := 2) rfl (by kernel_rfl) (fun _ _ _ h => h) (fun _ _ H' => (Runs.sub A rfl rfl (by omega))) A rfl hS ?_; clear A a hR; intro a A hR
    refine dstep hR (i := 3) rfl (by kernel_rfl) (fun _ _ _ h => h) (fun _ _ H' => (Runs.indexAddr A rfl rfl SlC.h (by omega) (by omega))) A rfl hS ?_; clear A a hR; intro a A hR
    refine dstep hR (i := 4) rfl (by kernel_rfl) (fun _ _ _ h => h) (fun _ _ H' => (Runs.fa A rfl)) A rfl hS ?_; clear A a hR; intro a A hR
    refine dstep hR (i := 5) rfl (by kernel_rfl) (fun _ _ _ h => h) (fun _ _ H' => (Runs.ld1 A H' rfl (v := u64 x.id) (by rw [ei]; simpa using hx1))) A rfl hS ?_; clear A a hR; intro a A hR
    refine dstep hR (i := 6) rfl (by kernel_rfl) (fun _ _ _ h => h) (fun _ _ H' => (Runs.move A rfl)) A rfl hS ?_; clear A a hR; intro a A hR
    refine dstep hR (i := 7) rfl (by kernel_rfl) (fun _ _ _ h => h) (fun _ _ H' => (Runs.move A rfl)) A rfl hS ?_; clear A a hR; intro a A hR
    refine dstep hR (i := 8) rfl (by kernel_rfl) (fun _ _ _ h => h) (fun _ _ H' => (Runs.indexAddr A rfl rfl SlC.h (by omega) (by omega))) A rfl hS ?_; clear A a hR; intro a A hR
    refine dstep hR (i := 9) rfl (by kernel_rfl) (fun _ _ _ h => h) (fun _ _ H' => (Runs.fa A rfl)) A rfl hS ?_; clear A a hR; intro a A hR
    refine dstep hR (i := 10) rfl (by kernel_rfl) (fun _ _ _ h => h) (fun _ _ H' => (Runs.ld1 A H' rfl (v := u64 y.id) (by simpa using hy1))) A rfl hS ?_; clear A a hR; intro a A hR
    refine dstep hR (i := 11) rfl (by kernel_rfl) (fun _ _ _ h => h) (fun _ _ H' => (Runs.geq A rfl rfl)) A rfl hS ?_; clear A a hR; intro a A hR
    refine draw_done hR (by kernel_rfl) ?_
    clear hS hL hR
    refine cond_split A rfl (fun h2 => ?_) (fun h2 => ?_)
    · have g2 := h2
      try simp only [decide_eq_true_eq, decide_eq_false_iff_not, Bool.not_eq_true', Bool.not_eq_false', ne_eq, Decidable.not_not, Int.not_lt, Int.not_le] at g2
      refine wp_seq ?_
      refine wp_region_lit ?_
      refine step (Runs.assign A rfl) A rfl ?_; clear A a; intro a A
      refine wpList_nil ?_
      refine wp_ret ?_
      refine retF A rfl rfl hM H (congrArg Value.bool (decide_eq_false fun hs => ?_)).symm
      have := hs.lt hx hy (by omega)
      rw [UInt64.lt_iff_toNat_lt] at this
      omega
    · have g2 := h2
      try simp only [decide_eq_true_eq, decide_eq_false_iff_not, Bool.not_eq_true', Bool.not_eq_false', ne_eq, Decidable.not_not, Int.not_lt, Int.not_le] at g2
      refine wp_skip ?_
      refine wp_region_lit ?_
      refine step (Runs.move A rfl) A rfl ?_; clear A a; intro a A
      refine step (Runs.add A rfl rfl (by omega)) A rfl ?_; clear A a; intro a A
      refine step (Runs.assign A rfl) A rfl ?_; clear A a; intro a A
      refine wpList_nil ?_
      have hxy : x.id < y.id := by have := g2; rw [UInt64.lt_iff_toNat_lt]; omega
      exact ⟨_, by omega, i + 1, m, rfl, ⟨by omega, by omega, fun k p q hk hp hq => (by
        rcases Nat.lt_or_ge (k + 1) i with h | h
        · exact hall k p q h hp hq
        · obtain rfl : k + 1 = i := by omega
          rw [show k = k + 1 - 1 by omega, hx] at hp; rw [hy] at hq; cases hp; cases hq; exact hxy)⟩, hl1, (Fr.cons A rfl (Fr.cons A rfl (Fr.nil A))), H⟩
  · have g1 := h1
    try simp only [decide_eq_true_eq, decide_eq_false_iff_not, Bool.not_eq_true', Bool.not_eq_false', ne_eq, Decidable.not_not, Int.not_lt, Int.not_le] at g1
    refine wp_exit ?_
    refine wp_seq ?_
    refine wp_region_lit ?_
    refine step (Runs.assign A rfl) A rfl ?_; clear A a; intro a A
    refine wpList_nil ?_
    refine wp_ret ?_
    refine retF A rfl rfl hM H (congrArg Value.bool (decide_eq_true (srt_of_adj fun k x y hx hy => hall k x y ?_ hx hy))).symm
    have := (List.getElem?_eq_some_iff.1 hy).1
    omega

theorem c_wireloomref18_Is {ad : Option Addr} {n c : Nat} {l : List Obj} {m : Mem} (hl : Objs m ad n c l) : Spec Tryz.prog 15 #[.slice ad n c] m [] (RetE (.bool (decide (Srt l)))) := by
  refine Spec.enter0 Tryz.func15 rfl 22 Tryz.ntmps15 rfl fun a w0 Lf A H => ?_
  have hM := Le.refl m
  have hn := hl.1
  have hcap := hl.cap
  have hmx : maxLen = 9223372036854775807 := rfl
  refine wp_seq ?_
  refine wp_region_lit ?_
  refine step (Runs.assign A rfl) A rfl ?_; clear A a; intro a A
  refine wpList_nil ?_
  refine wp_seq ?_
  refine wp_seq ?_
  refine wp_region_lit ?_
  refine step (Runs.assign A rfl) A rfl ?_; clear A a; intro a A
  refine wpList_nil ?_
  refine wp_block ?_
  refine wp_loop_ghost (fun q a w => ∃ (i : Nat) (m' : Mem), q = n + 1 - i ∧ (1 ≤ i ∧ (i ≤ n ∨ i = 1) ∧ ∀ k x y, k + 1 < i → l[k]? = some x → l[k + 1]? = some y → x.id < y.id) ∧ Le m m' ∧ Fr 22 a [(0, .slice ad n c), (3, .int .i64 i)] [] ∧ St w0 w m' (Lf)) _ ⟨1, m, rfl, ⟨by omega, .inr rfl, fun k _ _ h => absurd h (by omega)⟩, Le.refl m, (Fr.cons A rfl (Fr.cons A rfl (Fr.nil A))), H⟩ ?_
  clear A H; rintro q a w ⟨i, m, rfl, hinv, hm, A, H⟩
  have hM := hM.trans hm
  have hl := hl.mono hm
  have hl1 := hm
  obtain ⟨hi1, hin, hall⟩ := hinv
  refine wp_seq ?_
  refine wp_seq ?_
  refine wp_region_lit ?_
  refine step (Runs.move A rfl) A rfl ?_; clear A a; intro a A
  refine step (Runs.move A rfl) A rfl ?_; clear A a; intro a A
  refine step (Runs.lenL A rfl SlC.h) A rfl ?_; clear A a; intro a A
  refine step (Runs.lss A rfl rfl) A rfl ?_; clear A a; intro a A
  refine wpList_nil ?_
  refine cond_split A rfl (fun h1 => ?_) (fun h1 => ?_)
  · have g1 := h1
    try simp only [decide_eq_true_eq, decide_eq_false_iff_not, Bool.not_eq_true', Bool.not_eq_false', ne_eq, Decidable.not_not, Int.not_lt, Int.not_le] at g1
    refine wp_skip ?_
    refine wp_seq ?_
    refine wp_block ?_
    refine wp_seq ?_
    refine draw_begin0 (by kernel_rfl) (N := 12) rfl (by kernel_rfl) H ?_; clear H; intro w H hR
    have hS : SW m _ w := ⟨_, H⟩
    have hL := Le.refl m
    obtain ⟨x, hx⟩ := ex_at (l := l) (i := i - 1) (by omega)
    obtain ⟨y, hy⟩ := ex_at (l := l) (i := i) (by omega)
    obtain ⟨bb, off, cs, rfl, hfz, hcs⟩ := hl.all_ (by omega)
    obtain ⟨vx, hx1, _, _, _⟩ := hcs _ _ hx
    obtain ⟨vy, hy1, _, _, _⟩ := hcs _ _ hy
    have ei : ((i : Int) - 1).toNat = i - 1 := by omega
    refine dstep hR (i := 0) rfl (by kernel_rfl) (fun _ _ _ h => h) (fun _ _ H' => (Runs.move A rfl)) A rfl hS ?_; clear A a hR; intro a A hR
    refine dstep hR (i := 1) rfl (by kernel_rfl) (fun _ _ _ h => h) (fun _ _ H' => (Runs.move A rfl)) A rfl hS ?_; clear A a hR; intro a A hR
    refine dstep hR (i := 2) rfl (by kernel_rfl) (fun _ _ _ h => h) (fun _ _ H' => (Runs.sub A rfl rfl (by omega))) A rfl hS ?_; clear A a hR; intro a A hR
    refine dstep hR (i := 3) rfl (by kernel_rfl) (fun _ _ _ h => h) (fun _ _ H' => (Runs.indexAddr A rfl rfl SlC.h (by omega) (by omega))) A rfl hS ?_; clear A a hR; intro a A hR
    refine dstep hR (i := 4) rfl (by kernel_rfl) (fun _ _ _ h => h) (fun _ _ H' => (Runs.fa A rfl)) A rfl hS ?_; clear A a hR; intro a A hR
    refine dstep hR (i := 5) rfl (by kernel_rfl) (fun _ _ _ h => h) (fun _ _ H' => (Runs.ld1 A H' rfl (v := u64 x.id) (by rw [ei]; simpa using hx1))) A rfl hS ?_; clear A a hR; intro a A hR
    refine dstep hR (i := 6) rfl (by kernel_rfl) (fun _ _ _ h => h) (fun _ _ H' => (Runs.move A rfl)) A rfl hS ?_; clear A a hR; intro a A hR
    refine dstep hR (i := 7) rfl (by kernel_rfl) (fun _ _ _ h => h) (fun _ _ H' => (Runs.move A rfl)) A rfl hS ?_; clear A a hR; intro a A hR
    refine dstep hR (i := 8) rfl (by kernel_rfl) (fun _ _ _ h => h) (fun _ _ H' => (Runs.indexAddr A rfl rfl SlC.h (by omega) (by omega))) A rfl hS ?_; clear A a hR; intro a A hR
    refine dstep hR (i := 9) rfl (by kernel_rfl) (fun _ _ _ h => h) (fun _ _ H' => (Runs.fa A rfl)) A rfl hS ?_; clear A a hR; intro a A hR
    refine dstep hR (i := 10) rfl (by kernel_rfl) (fun _ _ _ h => h) (fun _ _ H' => (Runs.ld1 A H' rfl (v := u64 y.id) (by simpa using hy1))) A rfl hS ?_; clear A a hR; intro a A hR
    refine dstep hR (i := 11) rfl (by kernel_rfl) (fun _ _ _ h => h) (fun _ _ H' => (Runs.geq A rfl rfl)) A rfl hS ?_; clear A a hR; intro a A hR
    refine draw_done hR (by kernel_rfl) ?_
    clear hS hL hR
    refine cond_split A rfl (fun h2 => ?_) (fun h2 => ?_)
    · have g2 := h2
      try simp only [decide_eq_true_eq, decide_eq_false_iff_not, Bool.not_eq_true', Bool.not_eq_false', ne_eq, Decidable.not_not, Int.not_lt, Int.not_le] at g2
      refine wp_seq ?_
      refine wp_region_lit ?_
      refine step (Runs.assign A rfl) A rfl ?_; clear A a; intro a A
      refine wpList_nil ?_
      refine wp_ret ?_
      refine retF A rfl rfl hM H (congrArg Value.bool (decide_eq_false fun hs => ?_)).symm
      have := hs.lt hx hy (by omega)
      rw [UInt64.lt_iff_toNat_lt] at this
      omega
    · have g2 := h2
      try simp only [decide_eq_true_eq, decide_eq_false_iff_not, Bool.not_eq_true', Bool.not_eq_false', ne_eq, Decidable.not_not, Int.not_lt, Int.not_le] at g2
      refine wp_skip ?_
      refine wp_region_lit ?_
      refine step (Runs.move A rfl) A rfl ?_; clear A a; intro a A
      refine step (Runs.add A rfl rfl (by omega)) A rfl ?_; clear A a; intro a A
      refine step (Runs.assign A rfl) A rfl ?_; clear A a; intro a A
      refine wpList_nil ?_
      have hxy : x.id < y.id := by have := g2; rw [UInt64.lt_iff_toNat_lt]; omega
      exact ⟨_, by omega, i + 1, m, rfl, ⟨by omega, by omega, fun k p q hk hp hq => (by
        rcases Nat.lt_or_ge (k + 1) i with h | h
        · exact hall k p q h hp hq
        · obtain rfl : k + 1 = i := by omega
          rw [show k = k + 1 - 1 by omega, hx] at hp; rw [hy] at hq; cases hp; cases hq; exact hxy)⟩, hl1, (Fr.cons A rfl (Fr.cons A rfl (Fr.nil A))), H⟩
  · have g1 := h1
    try simp only [decide_eq_true_eq, decide_eq_false_iff_not, Bool.not_eq_true', Bool.not_eq_false', ne_eq, Decidable.not_not, Int.not_lt, Int.not_le] at g1
    refine wp_exit ?_
    refine wp_seq ?_
    refine wp_region_lit ?_
    refine step (Runs.assign A rfl) A rfl ?_; clear A a; intro a A
    refine wpList_nil ?_
    refine wp_ret ?_
    refine retF A rfl rfl hM H (congrArg Value.bool (decide_eq_true (srt_of_adj fun k x y hx hy => hall k x y ?_ hx hy))).symm
    have := (List.getElem?_eq_some_iff.1 hy).1
    omega

theorem c_wireloomref18_Find {ad : Option Addr} {n c : Nat} {l : List Obj} {id : UInt64} {m : Mem} (hl : Objs m ad n c l) : Spec Tryz.prog 37 #[.slice ad n c, u64 id] m [] (RetE (.int .i64 (findP l id))) := by
  refine Spec.enter0 Tryz.func37 rfl 20 Tryz.ntmps37 rfl fun a w0 Lf A H => ?_
  have hM := Le.refl m
  have hn := hl.1
  have hcap := hl.cap
  have hmx : maxLen = 9223372036854775807 := rfl
  refine wp_seq ?_
  refine wp_region_lit ?_
  refine step (Runs.assign A rfl) A rfl ?_; clear A a; intro a A
  refine wpList_nil ?_
  refine wp_seq ?_
  refine wp_seq ?_
  refine wp_region_lit ?_
  refine step (Runs.assign A rfl) A rfl ?_; clear A a; intro a A
  refine wpList_nil ?_
  refine wp_block ?_
  refine wp_loop_ghost (fun q a w => ∃ (i : Nat) (m' : Mem), q = n + 1 - i ∧ (i ≤ n ∧ ∀ (k : Nat) (x : Obj), k < i → l[k]? = some x → x.id ≠ id) ∧ Le m m' ∧ Fr 20 a [(0, .slice ad n c), (1, u64 id), (5, .int .i64 i)] [] ∧ St w0 w m' (Lf)) _ ⟨0, m, rfl, ⟨by omega, fun k _ h => absurd h (by omega)⟩, Le.refl m, (Fr.cons A rfl (Fr.cons A rfl (Fr.cons A rfl (Fr.nil A)))), H⟩ ?_
  clear A H; rintro q a w ⟨i, m, rfl, hinv, hm, A, H⟩
  have hM := hM.trans hm
  have hl := hl.mono hm
  have hl1 := hm
  obtain ⟨hin, hall⟩ := hinv
  refine wp_seq ?_
  refine wp_seq ?_
  refine wp_region_lit ?_
  refine step (Runs.move A rfl) A rfl ?_; clear A a; intro a A
  refine step (Runs.move A rfl) A rfl ?_; clear A a; intro a A
  refine step (Runs.lenL A rfl SlC.h) A rfl ?_; clear A a; intro a A
  refine step (Runs.lss A rfl rfl) A rfl ?_; clear A a; intro a A
  refine wpList_nil ?_
  refine cond_split A rfl (fun h1 => ?_) (fun h1 => ?_)
  · have g1 := h1
    try simp only [decide_eq_true_eq, decide_eq_false_iff_not, Bool.not_eq_true', Bool.not_eq_false', ne_eq, Decidable.not_not, Int.not_lt, Int.not_le] at g1
    refine wp_skip ?_
    refine wp_seq ?_
    refine wp_block ?_
    refine wp_seq ?_
    refine wp_region_lit ?_
    refine step (Runs.move A rfl) A rfl ?_; clear A a; intro a A
    refine step (Runs.move A rfl) A rfl ?_; clear A a; intro a A
    obtain ⟨x, hx⟩ := ex_at (l := l) (i := i) (by omega)
    obtain ⟨bb, off, cs, rfl, hfz, hcs⟩ := hl.all_ (by omega)
    obtain ⟨vx, hx1, hx2, hx3, hxd⟩ := hcs _ _ hx
    refine step (Runs.indexAddr A rfl rfl SlC.h (by omega) (by omega)) A rfl ?_; clear A a; intro a A
    refine step (Runs.fa A rfl) A rfl ?_; clear A a; intro a A
    refine step (Runs.ld1 A H rfl (v := u64 x.id) (by simpa using hx1)) A rfl ?_; clear A a; intro a A
    refine step (Runs.move A rfl) A rfl ?_; clear A a; intro a A
    refine step (Runs.eql A rfl rfl) A rfl ?_; clear A a; intro a A
    refine wpList_nil ?_
    refine cond_split A rfl (fun h2 => ?_) (fun h2 => ?_)
    · have g2 := h2
      try simp only [decide_eq_true_eq, decide_eq_false_iff_not, Bool.not_eq_true', Bool.not_eq_false', ne_eq, Decidable.not_not, Int.not_lt, Int.not_le] at g2
      refine wp_seq ?_
      refine wp_region_lit ?_
      refine step (Runs.move A rfl) A rfl ?_; clear A a; intro a A
      refine step (Runs.assign A rfl) A rfl ?_; clear A a; intro a A
      refine wpList_nil ?_
      refine wp_ret ?_
      refine retF A rfl rfl hM H (congrArg (Value.int .i64) (findP_some hx (by rw [← UInt64.toNat_inj]; omega) hall).symm)
    · have g2 := h2
      try simp only [decide_eq_true_eq, decide_eq_false_iff_not, Bool.not_eq_true', Bool.not_eq_false', ne_eq, Decidable.not_not, Int.not_lt, Int.not_le] at g2
      refine wp_skip ?_
      refine wp_region_lit ?_
      refine step (Runs.move A rfl) A rfl ?_; clear A a; intro a A
      refine step (Runs.add A rfl rfl (by omega)) A rfl ?_; clear A a; intro a A
      refine step (Runs.assign A rfl) A rfl ?_; clear A a; intro a A
      refine wpList_nil ?_
      have hne : x.id ≠ id := fun e => by rw [e] at g2; exact g2 rfl
      exact ⟨_, by omega, i + 1, m, rfl, ⟨by omega, lt_ext hall hx hne⟩, hl1, (Fr.cons A rfl (Fr.cons A rfl (Fr.cons A rfl (Fr.nil A)))), H⟩
  · have g1 := h1
    try simp only [decide_eq_true_eq, decide_eq_false_iff_not, Bool.not_eq_true', Bool.not_eq_false', ne_eq, Decidable.not_not, Int.not_lt, Int.not_le] at g1
    refine wp_exit ?_
    refine wp_seq ?_
    refine wp_region_lit ?_
    refine step (Runs.assign A rfl) A rfl ?_; clear A a; intro a A
    refine wpList_nil ?_
    refine wp_ret ?_
    refine retF A rfl rfl hM H (congrArg (Value.int .i64) (findP_none (lt_all hall (by omega))).symm)

theorem c_wireloomref18_In {ad : Option Addr} {n c : Nat} {l : List UInt64} {id : UInt64} {m : Mem} (hl : Ws m ad n c l) : Spec Tryz.prog 39 #[.slice ad n c, u64 id] m [] (RetE (.bool (decide (id ∈ l)))) := by
  refine Spec.enter0 Tryz.func39 rfl 18 Tryz.ntmps39 rfl fun a w0 Lf A H => ?_
  have hM := Le.refl m
  have hn := hl.len
  have hcap := hl.2.1
  have hcap2 := hl.2.2.1
  have hmx : maxLen = 9223372036854775807 := rfl
  refine wp_seq ?_
  refine wp_region_lit ?_
  refine step (Runs.assign A rfl) A rfl ?_; clear A a; intro a A
  refine wpList_nil ?_
  refine wp_seq ?_
  refine wp_seq ?_
  refine wp_region_lit ?_
  refine step (Runs.assign A rfl) A rfl ?_; clear A a; intro a A
  refine wpList_nil ?_
  refine wp_block ?_
  refine wp_loop_ghost (fun q a w => ∃ (i : Nat) (m' : Mem), q = n + 1 - i ∧ (i ≤ n ∧ ∀ (k : Nat) (x : UInt64), k < i → l[k]? = some x → x ≠ id) ∧ Le m m' ∧ Fr 18 a [(0, .slice ad n c), (1, u64 id), (5, .int .i64 i)] [] ∧ St w0 w m' (Lf)) _ ⟨0, m, rfl, ⟨by omega, fun k _ h => absurd h (by omega)⟩, Le.refl m, (Fr.cons A rfl (Fr.cons A rfl (Fr.cons A rfl (Fr.nil A)))), H⟩ ?_
  clear A H; rintro q a w ⟨i, m, rfl, hinv, hm, A, H⟩
  have hM := hM.trans hm
  have hl := hl.mono hm
  have hl1 := hm
  obtain ⟨hin, hall⟩ := hinv
  refine wp_seq ?_
  refine wp_seq ?_
  refine wp_region_lit ?_
  refine step (Runs.move A rfl) A rfl ?_; clear A a; intro a A
  refine step (Runs.move A rfl) A rfl ?_; clear A a; intro a A
  refine step (Runs.lenL A rfl SlC.h) A rfl ?_; clear A a; intro a A
  refine step (Runs.lss A rfl rfl) A rfl ?_; clear A a; intro a A
  refine wpList_nil ?_
  refine cond_split A rfl (fun h1 => ?_) (fun h1 => ?_)
  · have g1 := h1
    try simp only [decide_eq_true_eq, decide_eq_false_iff_not, Bool.not_eq_true', Bool.not_eq_false', ne_eq, Decidable.not_not, Int.not_lt, Int.not_le] at g1
    refine wp_skip ?_
    refine wp_seq ?_
    refine wp_block ?_
    refine wp_seq ?_
    refine wp_region_lit ?_
    refine step (Runs.move A rfl) A rfl ?_; clear A a; intro a A
    refine step (Runs.move A rfl) A rfl ?_; clear A a; intro a A
    obtain ⟨x, hx⟩ := ex_at (l := l) (i := i) (by omega)
    obtain ⟨bb, off, cs, rfl, hfz, hcs⟩ := hl.all_ (by omega)
    have hx1 := hcs _ _ hx
    refine step (Runs.indexAddr A rfl rfl SlC.h (by omega) (by omega)) A rfl ?_; clear A a; intro a A
    refine step (Runs.ld1 A H rfl (v := u64 x) (by simpa using hx1)) A rfl ?_; clear A a; intro a A
    refine step (Runs.move A rfl) A rfl ?_; clear A a; intro a A
    refine step (Runs.eql A rfl rfl) A rfl ?_; clear A a; intro a A
    refine wpList_nil ?_
    refine cond_split A rfl (fun h2 => ?_) (fun h2 => ?_)
    · have g2 := h2
      try simp only [decide_eq_true_eq, decide_eq_false_iff_not, Bool.not_eq_true', Bool.not_eq_false', ne_eq, Decidable.not_not, Int.not_lt, Int.not_le] at g2
      refine wp_seq ?_
      refine wp_region_lit ?_
      refine step (Runs.assign A rfl) A rfl ?_; clear A a; intro a A
      refine wpList_nil ?_
      refine wp_ret ?_
      have e : x = id := by rw [← UInt64.toNat_inj]; omega
      subst e
      exact retF A rfl rfl hM H (congrArg Value.bool (decide_eq_true (List.mem_of_getElem? hx))).symm
    · have g2 := h2
      try simp only [decide_eq_true_eq, decide_eq_false_iff_not, Bool.not_eq_true', Bool.not_eq_false', ne_eq, Decidable.not_not, Int.not_lt, Int.not_le] at g2
      refine wp_skip ?_
      refine wp_region_lit ?_
      refine step (Runs.move A rfl) A rfl ?_; clear A a; intro a A
      refine step (Runs.add A rfl rfl (by omega)) A rfl ?_; clear A a; intro a A
      refine step (Runs.assign A rfl) A rfl ?_; clear A a; intro a A
      refine wpList_nil ?_
      have hne : x ≠ id := fun e => by rw [e] at g2; exact g2 rfl
      exact ⟨_, by omega, i + 1, m, rfl, ⟨by omega, lt_ext hall hx hne⟩, hl1, (Fr.cons A rfl (Fr.cons A rfl (Fr.cons A rfl (Fr.nil A)))), H⟩
  · have g1 := h1
    try simp only [decide_eq_true_eq, decide_eq_false_iff_not, Bool.not_eq_true', Bool.not_eq_false', ne_eq, Decidable.not_not, Int.not_lt, Int.not_le] at g1
    refine wp_exit ?_
    refine wp_seq ?_
    refine wp_region_lit ?_
    refine step (Runs.assign A rfl) A rfl ?_; clear A a; intro a A
    refine wpList_nil ?_
    refine wp_ret ?_
    exact retF A rfl rfl hM H (congrArg Value.bool (decide_eq_false (not_mem_of (lt_all hall (by omega))))).symm

theorem c_slices_Index_uint64_uint64 {ad : Option Addr} {n c : Nat} {l : List UInt64} {id : UInt64} {m : Mem} (hl : Ws m ad n c l) : Spec Tryz.prog 80 #[.slice ad n c, u64 id] m [] (RetF fun _ v => ∃ r : Int, v = .int .i64 r ∧ (0 ≤ r ↔ id ∈ l)) := by
  refine Spec.enter0 Tryz.func80 rfl 19 Tryz.ntmps80 rfl fun a w0 Lf A H => ?_
  have hM := Le.refl m
  have hn := hl.len
  have hcap := hl.2.1
  have hcap2 := hl.2.2.1
  have hmx : maxLen = 9223372036854775807 := rfl
  refine wp_seq ?_
  refine wp_region_lit ?_
  refine step (Runs.assign A rfl) A rfl ?_; clear A a; intro a A
  refine wpList_nil ?_
  refine wp_seq ?_
  refine wp_seq ?_
  refine wp_region_lit ?_
  refine step (Runs.move A rfl) A rfl ?_; clear A a; intro a A
  refine step (Runs.lenL A rfl SlC.h) A rfl ?_; clear A a; intro a A
  refine step (Runs.move A rfl) A rfl ?_; clear A a; intro a A
  refine wpList_nil ?_
  refine wp_block ?_
  refine wp_loop_ghost (fun q a w => ∃ (i : Nat) (m' : Mem), q = n + 1 - i ∧ (i ≤ n ∧ ∀ (k : Nat) (x : UInt64), k < i → l[k]? = some x → x ≠ id) ∧ Le m m' ∧ Fr 19 a [(0, .slice ad n c), (1, u64 id), (7, .int .i64 n), (8, .int .i64 i)] [] ∧ St w0 w m' (Lf)) _ ⟨0, m, rfl, ⟨by omega, fun k _ h => absurd h (by omega)⟩, Le.refl m, (Fr.cons A rfl (Fr.cons A rfl (Fr.cons A rfl (Fr.cons A rfl (Fr.nil A))))), H⟩ ?_
  clear A H; rintro q a w ⟨i, m, rfl, hinv, hm, A, H⟩
  have hM := hM.trans hm
  have hl := hl.mono hm
  have hl1 := hm
  obtain ⟨hin, hall⟩ := hinv
  refine wp_seq ?_
  refine wp_region_lit ?_
  refine step (Runs.lss A rfl rfl) A rfl ?_; clear A a; intro a A
  refine wpList_nil ?_
  refine wp_seq ?_
  refine cond_split A rfl (fun h1 => ?_) (fun h1 => ?_)
  · have g1 := h1
    try simp only [decide_eq_true_eq, decide_eq_false_iff_not, Bool.not_eq_true', Bool.not_eq_false', ne_eq, Decidable.not_not, Int.not_lt, Int.not_le] at g1
    refine wp_skip ?_
    refine wp_seq ?_
    refine wp_block ?_
    refine wp_seq ?_
    refine wp_region_lit ?_
    refine step (Runs.move A rfl) A rfl ?_; clear A a; intro a A
    refine step (Runs.assign A rfl) A rfl ?_; clear A a; intro a A
    refine wpList_nil ?_
    refine wp_seq ?_
    refine wp_region_lit ?_
    refine step (Runs.move A rfl) A rfl ?_; clear A a; intro a A
    refine step (Runs.move A rfl) A rfl ?_; clear A a; intro a A
    refine step (Runs.move A rfl) A rfl ?_; clear A a; intro a A
    obtain ⟨x, hx⟩ := ex_at (l := l) (i := i) (by omega)
    obtain ⟨bb, off, cs, rfl, hfz, hcs⟩ := hl.all_ (by omega)
    have hx1 := hcs _ _ hx
    refine step (Runs.indexAddr A rfl rfl SlC.h (by omega) (by omega)) A rfl ?_; clear A a; intro a A
    refine step (Runs.ld1 A H rfl (v := u64 x) (by simpa using hx1)) A rfl ?_; clear A a; intro a A
    refine step (Runs.eql A rfl rfl) A rfl ?_; clear A a; intro a A
    refine wpList_nil ?_
    refine cond_split A rfl (fun h2 => ?_) (fun h2 => ?_)
    · have g2 := h2
      try simp only [decide_eq_true_eq, decide_eq_false_iff_not, Bool.not_eq_true', Bool.not_eq_false', ne_eq, Decidable.not_not, Int.not_lt, Int.not_le] at g2
      refine wp_seq ?_
      refine wp_region_lit ?_
      refine step (Runs.move A rfl) A rfl ?_; clear A a; intro a A
      refine step (Runs.assign A rfl) A rfl ?_; clear A a; intro a A
      refine wpList_nil ?_
      refine wp_ret ?_
      have e : id = x := by rw [← UInt64.toNat_inj]; omega
      subst e
      exact retF A rfl rfl hM H ⟨_, rfl, fun _ => List.mem_of_getElem? hx, fun _ => by omega⟩
    · have g2 := h2
      try simp only [decide_eq_true_eq, decide_eq_false_iff_not, Bool.not_eq_true', Bool.not_eq_false', ne_eq, Decidable.not_not, Int.not_lt, Int.not_le] at g2
      refine wp_skip ?_
      refine wp_region_lit ?_
      refine step (Runs.add A rfl rfl (by omega)) A rfl ?_; clear A a; intro a A
      refine step (Runs.move A rfl) A rfl ?_; clear A a; intro a A
      refine wpList_nil ?_
      have hne : x ≠ id := fun e => by rw [e] at g2; exact g2 rfl
      exact ⟨_, by omega, i + 1, m, rfl, ⟨by omega, lt_ext hall hx hne⟩, hl1, (Fr.cons A rfl (Fr.cons A rfl (Fr.cons A rfl (Fr.cons A rfl (Fr.nil A))))), H⟩
  · have g1 := h1
    try simp only [decide_eq_true_eq, decide_eq_false_iff_not, Bool.not_eq_true', Bool.not_eq_false', ne_eq, Decidable.not_not, Int.not_lt, Int.not_le] at g1
    refine wp_exit ?_
    refine wp_seq ?_
    refine wp_region_lit ?_
    refine step (Runs.assign A rfl) A rfl ?_; clear A a; intro a A
    refine wpList_nil ?_
    refine wp_ret ?_
    exact retF A rfl rfl hM H ⟨_, rfl, fun h => absurd h (by omega), fun h => absurd h (not_mem_of (lt_all hall (by omega)))⟩

theorem c_slices_Contains_uint64_uint64 {ad : Option Addr} {n c : Nat} {l : List UInt64} {id : UInt64} {m : Mem} (hl : Ws m ad n c l) : Spec Tryz.prog 53 #[.slice ad n c, u64 id] m [] (RetE (.bool (decide (id ∈ l)))) := by
  refine Spec.enter0 Tryz.func53 rfl 9 Tryz.ntmps53 rfl fun a w0 Lf A H => ?_
  have hM := Le.refl m
  refine wp_seq ?_
  refine wp_region_lit ?_
  refine step (Runs.assign A rfl) A rfl ?_; clear A a; intro a A
  refine wpList_nil ?_
  refine wp_seq ?_
  refine wp_region_lit ?_
  refine step (Runs.move A rfl) A rfl ?_; clear A a; intro a A
  refine step (Runs.move A rfl) A rfl ?_; clear A a; intro a A
  refine step_callF A rfl rfl (c_slices_Index_uint64_uint64 hl) H ?_
  rintro v1_2 a w m hm ⟨r, rfl, hr⟩ A H
  have hM := hM.trans hm
  have hl := hl.mono hm
  refine step (Runs.geq A rfl rfl) A rfl ?_; clear A a; intro a A
  refine step (Runs.assign A rfl) A rfl ?_; clear A a; intro a A
  refine wpList_nil ?_
  refine wp_ret ?_
  exact retF A rfl rfl hM H (congrArg Value.bool (decide_eq_decide.2 hr))
end Sl
end Go.Proofs.YtanhehbfbakdcaaGreatDoor
