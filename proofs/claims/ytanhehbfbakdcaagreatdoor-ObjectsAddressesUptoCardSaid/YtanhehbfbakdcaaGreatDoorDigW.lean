/- Digests: walks, printed by my gen.py out of annotations. -/
import Derived.Test.YtanhehbfbakdcaaGreatDoorDig
import Derived.Test.YtanhehbfbakdcaaGreatDoorTypes
import Derived.Deep.LoopGhost
set_option linter.unusedSimpArgs false
set_option linter.unusedVariables false
namespace Go.Proofs.YtanhehbfbakdcaaGreatDoor
namespace Sl
open Go

theorem c_wireloomref01_Step {h w : UInt64} {m : Mem} : Spec Tryz.prog 72 #[u64 h, u64 w] m [] (RetE (u64 (stp h w))) := by
  refine Spec.enter0 Tryz.func72 rfl 17 Tryz.ntmps72 rfl fun a w0 Lf A H => ?_
  have hM := Le.refl m
  refine wp_seq ?_
  refine wp_region_lit ?_
  refine step (Runs.assign A rfl) A rfl ?_; clear A a; intro a A
  refine wpList_nil ?_
  refine wp_seq ?_
  refine wp_region_lit ?_
  refine step (Runs.move A rfl) A rfl ?_; clear A a; intro a A
  refine step (Runs.move A rfl) A rfl ?_; clear A a; intro a A
  refine step (Runs.xor64 A rfl rfl) A rfl ?_; clear A a; intro a A
  refine step (Runs.mul64 (q := 15485907386658061715) A rfl rfl) A rfl ?_; clear A a; intro a A
  refine step (Runs.assign A rfl) A rfl ?_; clear A a; intro a A
  refine wpList_nil ?_
  refine wp_seq ?_
  refine wp_region_lit ?_
  refine step (Runs.move A rfl) A rfl ?_; clear A a; intro a A
  refine step (Runs.move A rfl) A rfl ?_; clear A a; intro a A
  refine step (Runs.shr64 (k := 32) A rfl rfl rfl (by omega)) A rfl ?_; clear A a; intro a A
  refine step (Runs.xor64 A rfl rfl) A rfl ?_; clear A a; intro a A
  refine step (Runs.assign A rfl) A rfl ?_; clear A a; intro a A
  refine wpList_nil ?_
  refine wp_seq ?_
  refine wp_region_lit ?_
  refine step (Runs.move A rfl) A rfl ?_; clear A a; intro a A
  refine step (Runs.mul64 (q := 11562461410679940143) A rfl rfl) A rfl ?_; clear A a; intro a A
  refine step (Runs.assign A rfl) A rfl ?_; clear A a; intro a A
  refine wpList_nil ?_
  refine wp_ret ?_
  exact retF A rfl rfl hM H rfl

theorem c_wireloomref01_Bytes {ad : Option Addr} {n c : Nat} {l : List UInt8} {m : Mem} (hb : Slc m 1 ad n c (l.map u8)) (hn : n ≤ 1000000000) : Spec Tryz.prog 43 #[.slice ad n c] m [] (RetE (u64 (dig l))) := by
  refine Spec.enter0 Tryz.func43 rfl 46 Tryz.ntmps43 rfl fun a w0 Lf A H => ?_
  have hM := Le.refl m
  have hl := hb.len8
  refine wp_seq ?_
  refine wp_region_lit ?_
  refine step (Runs.assign A rfl) A rfl ?_; clear A a; intro a A
  refine wpList_nil ?_
  refine wp_seq ?_
  refine wp_region_lit ?_
  refine step (Runs.assign A rfl) A rfl ?_; clear A a; intro a A
  refine wpList_nil ?_
  refine wp_seq ?_
  refine wp_seq ?_
  refine wp_region_lit ?_
  refine step (Runs.assign A rfl) A rfl ?_; clear A a; intro a A
  refine wpList_nil ?_
  refine wp_block ?_
  refine wp_loop_ghost (fun q a w => ∃ (i : Nat) (h : UInt64) (m' : Mem), q = n + 8 - i ∧ (i ≤ n + 8 ∧ (grp (l.drop i)).foldl stp h = (grp l).foldl stp dig0) ∧ Le m m' ∧ Fr 46 a [(0, .slice ad n c), (3, u64 h), (4, .int .i64 i)] [] ∧ St w0 w m' (Lf)) _ ⟨0, dig0, m, rfl, ⟨by omega, rfl⟩, Le.refl m, (Fr.cons A rfl (Fr.cons A rfl (Fr.cons A rfl (Fr.nil A)))), H⟩ ?_
  clear A H; rintro q a w ⟨i, h, m, rfl, hinv, hm, A, H⟩
  have hM := hM.trans hm
  have hb := hb.mono hm
  have hl1 := hm
  obtain ⟨hi, hgo⟩ := hinv
  refine wp_seq ?_
  refine wp_seq ?_
  refine wp_region_lit ?_
  refine step (Runs.move A rfl) A rfl ?_; clear A a; intro a A
  refine step (Runs.move A rfl) A rfl ?_; clear A a; intro a A
  refine step (Runs.lenL A rfl SlC.h) A rfl ?_; clear A a; intro a A
  refine step (Runs.lss A rfl rfl) A rfl ?_; clear A a; intro a A
  refine wpList_nil ?_
  refine cond_split A rfl (fun h1 => ?_) (fun h1 => ?_)
  · have g1 := h1
    try simp only [decide_eq_true_eq, decide_eq_false_iff_not, Bool.not_eq_true', Bool.not_eq_false', ne_eq, Decidable.not_not, Int.not_lt, Int.not_le] at g1
    refine wp_skip ?_
    refine wp_seq ?_
    refine wp_block ?_
    refine wp_seq ?_
    refine wp_region_lit ?_
    refine step (Runs.assign A rfl) A rfl ?_; clear A a; intro a A
    refine wpList_nil ?_
    refine wp_seq ?_
    refine wp_seq ?_
    refine wp_region_lit ?_
    refine step (Runs.assign A rfl) A rfl ?_; clear A a; intro a A
    refine wpList_nil ?_
    refine wp_block ?_
    refine wp_loop_ghost (fun q a w => ∃ (k : Nat) (m' : Mem), q = 9 - k ∧ (k ≤ 8 ∧ k ≤ n - i) ∧ Le m m' ∧ Fr 46 a [(0, .slice ad n c), (3, u64 h), (4, .int .i64 i), (5, u64 (wrdN (l.drop i) k)), (6, .int .i64 k)] [] ∧ St w0 w m' (Lf)) _ ⟨0, m, rfl, ⟨by omega, by omega⟩, Le.refl m, (Fr.cons A rfl (Fr.cons A rfl (Fr.cons A rfl (Fr.cons A rfl (Fr.cons A rfl (Fr.nil A)))))), H⟩ ?_
    clear A H; rintro q a w ⟨k, m, rfl, hinv, hm, A, H⟩
    have hM := hM.trans hm
    have hl1 := hl1.trans hm
    have hb := hb.mono hm
    have hl2 := hm
    obtain ⟨hk8, hkn⟩ := hinv
    refine wp_seq ?_
    refine wp_seq ?_
    refine wp_region_lit ?_
    refine step (Runs.move A rfl) A rfl ?_; clear A a; intro a A
    refine step (Runs.lss A rfl rfl) A rfl ?_; clear A a; intro a A
    refine step (Runs.move A rfl) A rfl ?_; clear A a; intro a A
    refine onBool A (dj := 15) rfl (fun h2 => ?_) (fun h2 => ?_)
    · have g2 := h2
      try simp only [decide_eq_true_eq, decide_eq_false_iff_not, Bool.not_eq_true', Bool.not_eq_false', ne_eq, Decidable.not_not, Int.not_lt, Int.not_le] at g2
      refine stepG (dj := 15) rfl rfl h2 (Runs.move A rfl) A rfl ?_; clear A a; intro a A
      refine stepG (dj := 15) rfl rfl h2 (Runs.move A rfl) A rfl ?_; clear A a; intro a A
      refine stepG (dj := 15) rfl rfl h2 (Runs.add A rfl rfl (by omega)) A rfl ?_; clear A a; intro a A
      refine stepG (dj := 15) rfl rfl h2 (Runs.move A rfl) A rfl ?_; clear A a; intro a A
      refine stepG (dj := 15) rfl rfl h2 (Runs.lenL A rfl SlC.h) A rfl ?_; clear A a; intro a A
      refine stepG (dj := 15) rfl rfl h2 (Runs.lss A rfl rfl) A rfl ?_; clear A a; intro a A
      refine step (Runs.pickT A rfl h2 rfl) A rfl ?_; clear A a; intro a A
      refine wpList_nil ?_
      refine cond_split A rfl (fun h3 => ?_) (fun h3 => ?_)
      · have g3 := h3
        try simp only [decide_eq_true_eq, decide_eq_false_iff_not, Bool.not_eq_true', Bool.not_eq_false', ne_eq, Decidable.not_not, Int.not_lt, Int.not_le] at g3
        refine wp_skip ?_
        refine wp_seq ?_
        refine wp_block ?_
        refine wp_region_lit ?_
        refine step (Runs.move A rfl) A rfl ?_; clear A a; intro a A
        refine step (Runs.move A rfl) A rfl ?_; clear A a; intro a A
        refine step (Runs.move A rfl) A rfl ?_; clear A a; intro a A
        refine step (Runs.move A rfl) A rfl ?_; clear A a; intro a A
        refine step (Runs.add A rfl rfl (by omega)) A rfl ?_; clear A a; intro a A
        obtain ⟨bb, off, cs, rfl, hfz, hcs⟩ := hb.at_ (by omega)
        refine step (Runs.indexAddr A rfl rfl SlC.h (by omega) (by omega)) A rfl ?_; clear A a; intro a A
        refine step (Runs.ld1 A H rfl (v := u8 (l.getD (i + k) 0)) (by rw [show off + ((i : Int) + (k : Int)).toNat * 1 = off + (i + k) by omega, hcs _ (by omega)]; exact u8_at (by omega))) A rfl ?_; clear A a; intro a A
        refine step (Runs.convTo64 A rfl rfl) A rfl ?_; clear A a; intro a A
        refine step (Runs.move A rfl) A rfl ?_; clear A a; intro a A
        refine step (Runs.mul A rfl rfl (by omega)) A rfl ?_; clear A a; intro a A
        refine step (Runs.convTo64 (p := 8 * k) A rfl (by omega)) A rfl ?_; clear A a; intro a A
        refine step (Runs.shl64 (k := 8 * k) A rfl rfl (by rw [UInt64.toNat_ofNat']; omega) (by omega)) A rfl ?_; clear A a; intro a A
        refine step (Runs.or64 A rfl rfl) A rfl ?_; clear A a; intro a A
        refine step (Runs.assign A rfl) A rfl ?_; clear A a; intro a A
        refine wpList_nil ?_
        refine wp_region_lit ?_
        refine step (Runs.move A rfl) A rfl ?_; clear A a; intro a A
        refine step (Runs.add A rfl rfl (by omega)) A rfl ?_; clear A a; intro a A
        refine step (Runs.assign A rfl) A rfl ?_; clear A a; intro a A
        refine wpList_nil ?_
        rw [← wrdN_succ] at A
        exact ⟨_, by omega, k + 1, m, rfl, ⟨by omega, by omega⟩, hl2, (Fr.cons A rfl (Fr.cons A rfl (Fr.cons A rfl (Fr.cons A rfl (Fr.cons A rfl (Fr.nil A)))))), H⟩
      · have g3 := h3
        try simp only [decide_eq_true_eq, decide_eq_false_iff_not, Bool.not_eq_true', Bool.not_eq_false', ne_eq, Decidable.not_not, Int.not_lt, Int.not_le] at g3
        refine wp_exit ?_
        refine wp_region_lit ?_
        refine step (Runs.move A rfl) A rfl ?_; clear A a; intro a A
        refine step (Runs.move A rfl) A rfl ?_; clear A a; intro a A
        refine step_callF A rfl rfl (c_wireloomref01_Step) H ?_
        rintro v10_2 a w m hm rfl A H
        have hM := hM.trans hm
        have hl1 := hl1.trans hm
        have hb := hb.mono hm
        refine step (Runs.assign A rfl) A rfl ?_; clear A a; intro a A
        refine wpList_nil ?_
        refine wp_region_lit ?_
        refine step (Runs.move A rfl) A rfl ?_; clear A a; intro a A
        refine step (Runs.add A rfl rfl (by omega)) A rfl ?_; clear A a; intro a A
        refine step (Runs.assign A rfl) A rfl ?_; clear A a; intro a A
        refine wpList_nil ?_
        have hk : k = min 8 (l.length - i) := by omega
        exact ⟨_, by omega, i + 8, stp h (wrdN (l.drop i) k), m, rfl, ⟨by omega, by rw [← hgo, grp_step (l := l) (i := i) (by omega), ← hk]⟩, hl1, (Fr.cons A rfl (Fr.cons A rfl (Fr.cons A rfl (Fr.nil A)))), H⟩
    · have g2 := h2
      try simp only [decide_eq_true_eq, decide_eq_false_iff_not, Bool.not_eq_true', Bool.not_eq_false', ne_eq, Decidable.not_not, Int.not_lt, Int.not_le] at g2
      refine stepSkip (dj := 15) rfl rfl h2 A rfl ?_; clear A a; intro a A
      refine stepSkip (dj := 15) rfl rfl h2 A rfl ?_; clear A a; intro a A
      refine stepSkip (dj := 15) rfl rfl h2 A rfl ?_; clear A a; intro a A
      refine stepSkip (dj := 15) rfl rfl h2 A rfl ?_; clear A a; intro a A
      refine stepSkip (dj := 15) rfl rfl h2 A rfl ?_; clear A a; intro a A
      refine stepSkip (dj := 15) rfl rfl h2 A rfl ?_; clear A a; intro a A
      refine step (Runs.pickF A rfl h2 rfl) A rfl ?_; clear A a; intro a A
      refine wpList_nil ?_
      refine cond_false A rfl rfl ?_
      refine wp_exit ?_
      refine wp_region_lit ?_
      refine step (Runs.move A rfl) A rfl ?_; clear A a; intro a A
      refine step (Runs.move A rfl) A rfl ?_; clear A a; intro a A
      refine step_callF A rfl rfl (c_wireloomref01_Step) H ?_
      rintro v10_2 a w m hm rfl A H
      have hM := hM.trans hm
      have hl1 := hl1.trans hm
      have hb := hb.mono hm
      refine step (Runs.assign A rfl) A rfl ?_; clear A a; intro a A
      refine wpList_nil ?_
      refine wp_region_lit ?_
      refine step (Runs.move A rfl) A rfl ?_; clear A a; intro a A
      refine step (Runs.add A rfl rfl (by omega)) A rfl ?_; clear A a; intro a A
      refine step (Runs.assign A rfl) A rfl ?_; clear A a; intro a A
      refine wpList_nil ?_
      have hk : k = min 8 (l.length - i) := by omega
      exact ⟨_, by omega, i + 8, stp h (wrdN (l.drop i) k), m, rfl, ⟨by omega, by rw [← hgo, grp_step (l := l) (i := i) (by omega), ← hk]⟩, hl1, (Fr.cons A rfl (Fr.cons A rfl (Fr.cons A rfl (Fr.nil A)))), H⟩
  · have g1 := h1
    try simp only [decide_eq_true_eq, decide_eq_false_iff_not, Bool.not_eq_true', Bool.not_eq_false', ne_eq, Decidable.not_not, Int.not_lt, Int.not_le] at g1
    refine wp_exit ?_
    refine wp_seq ?_
    refine wp_region_lit ?_
    refine step (Runs.move A rfl) A rfl ?_; clear A a; intro a A
    refine step (Runs.move A rfl) A rfl ?_; clear A a; intro a A
    refine step (Runs.lenL A rfl SlC.h) A rfl ?_; clear A a; intro a A
    refine step (Runs.convTo64 A rfl rfl) A rfl ?_; clear A a; intro a A
    refine step_callF A rfl rfl (c_wireloomref01_Step) H ?_
    rintro v11_4 a w m hm rfl A H
    have hM := hM.trans hm
    have hb := hb.mono hm
    refine step (Runs.assign A rfl) A rfl ?_; clear A a; intro a A
    refine wpList_nil ?_
    refine wp_ret ?_
    have e : h = (grp l).foldl stp dig0 := by rw [← hgo, grp_nil (by rw [List.length_drop]; omega)]; rfl
    exact retF A rfl rfl hM H (by rw [dig, ← e, hl])

theorem c_digest_sum_add {b b2 : Nat} {h z : UInt64} {m : Mem} : Spec Tryz.prog 59 #[.pointer (some ⟨b, 0, none⟩), .slice (some ⟨b2, 0, none⟩) 1 1] m [pt b [u64 h] 107, pt b2 [u64 z] 29] (RetV fun _ v L => v = .tuple #[] ∧ L = [pt b [u64 (stp h z)] 107, pt b2 [u64 z] 29]) := by
  refine Spec.enter Tryz.func59 rfl 27 Tryz.ntmps59 rfl fun a w0 Lf A H => ?_
  simp only [List.cons_append, List.nil_append] at H
  have hM := Le.refl m
  refine wp_seq ?_
  refine wp_region_lit ?_
  refine step (Runs.move A rfl) A rfl ?_; clear A a; intro a A
  refine step (Runs.lenL A rfl SlC.h) A rfl ?_; clear A a; intro a A
  refine step (Runs.move A rfl) A rfl ?_; clear A a; intro a A
  refine wpList_nil ?_
  refine wp_block ?_
  refine wp_loop_ghost (fun q a w => ∃ (j : Nat) (hh : UInt64) (m' : Mem), q = 2 - j ∧ (j = 0 ∧ hh = h ∨ j = 1 ∧ hh = stp h z) ∧ Le m m' ∧ Fr 27 a [(0, .pointer (some ⟨b, 0, none⟩)), (7, .slice (some ⟨b2, 0, none⟩) 1 1), (8, .int .i64 1), (9, .int .i64 j)] [] ∧ St w0 w m' (pt b [u64 hh] 107 :: pt b2 [u64 z] 29 :: Lf)) _ ⟨0, h, m, rfl, .inl ⟨rfl, rfl⟩, Le.refl m, (Fr.cons A rfl (Fr.cons A rfl (Fr.cons A rfl (Fr.cons A rfl (Fr.nil A))))), H⟩ ?_
  clear A H; rintro q a w ⟨j, hh, m, rfl, hinv, hm, A, H⟩
  have hM := hM.trans hm
  have hl1 := hm
  have hj : j ≤ 1 := by omega
  refine wp_seq ?_
  refine wp_region_lit ?_
  refine step (Runs.lss A rfl rfl) A rfl ?_; clear A a; intro a A
  refine wpList_nil ?_
  refine wp_seq ?_
  refine cond_split A rfl (fun h1 => ?_) (fun h1 => ?_)
  · have g1 := h1
    try simp only [decide_eq_true_eq, decide_eq_false_iff_not, Bool.not_eq_true', Bool.not_eq_false', ne_eq, Decidable.not_not, Int.not_lt, Int.not_le] at g1
    refine wp_skip ?_
    refine wp_seq ?_
    refine wp_block ?_
    refine wp_seq ?_
    refine wp_region_lit ?_
    have hj0 : j = 0 := by omega
    refine step (Runs.indexAddr A rfl rfl SlC.h (by omega) (by omega)) A rfl ?_; clear A a; intro a A
    refine step (Runs.ld1 A H rfl (v := u64 z) (by rw [hj0]; rfl)) A rfl ?_; clear A a; intro a A
    refine step (Runs.assign A rfl) A rfl ?_; clear A a; intro a A
    refine wpList_nil ?_
    refine wp_seq ?_
    refine wp_region_lit ?_
    refine step (Runs.move A rfl) A rfl ?_; clear A a; intro a A
    refine step (Runs.nilCheck A rfl) A rfl ?_; clear A a; intro a A
    refine step (Runs.ld1 A H rfl rfl) A rfl ?_; clear A a; intro a A
    refine step (Runs.move A rfl) A rfl ?_; clear A a; intro a A
    refine step (Runs.xor64 A rfl rfl) A rfl ?_; clear A a; intro a A
    refine step (Runs.mul64 (q := 15485907386658061715) A rfl rfl) A rfl ?_; clear A a; intro a A
    refine step (Runs.assign A rfl) A rfl ?_; clear A a; intro a A
    refine wpList_nil ?_
    refine wp_region_lit ?_
    refine step (Runs.move A rfl) A rfl ?_; clear A a; intro a A
    refine step (Runs.move A rfl) A rfl ?_; clear A a; intro a A
    refine step (Runs.move A rfl) A rfl ?_; clear A a; intro a A
    refine step (Runs.shr64 (k := 32) A rfl rfl rfl (by omega)) A rfl ?_; clear A a; intro a A
    refine step (Runs.xor64 A rfl rfl) A rfl ?_; clear A a; intro a A
    refine step (Runs.mul64 (q := 11562461410679940143) A rfl rfl) A rfl ?_; clear A a; intro a A
    refine step (Runs.nilCheck A rfl) A rfl ?_; clear A a; intro a A
    refine step_store A H rfl rfl rfl rfl rfl rfl ?_; intro w H
    refine wpList_nil ?_
    refine wp_region_lit ?_
    refine step (Runs.add A rfl rfl (by omega)) A rfl ?_; clear A a; intro a A
    refine step (Runs.move A rfl) A rfl ?_; clear A a; intro a A
    refine wpList_nil ?_
    exact ⟨_, by omega, j + 1, stp hh z, m, rfl, .inr ⟨by omega, by rw [show hh = h by rcases hinv with ⟨_, h⟩ | ⟨h, _⟩; exact h; omega]⟩, hl1, (Fr.cons A rfl (Fr.cons A rfl (Fr.cons A rfl (Fr.cons A rfl (Fr.nil A))))), H⟩
  · have g1 := h1
    try simp only [decide_eq_true_eq, decide_eq_false_iff_not, Bool.not_eq_true', Bool.not_eq_false', ne_eq, Decidable.not_not, Int.not_lt, Int.not_le] at g1
    refine wp_exit ?_
    have e : hh = stp h z := by rcases hinv with ⟨h, _⟩ | ⟨_, h⟩; omega; exact h
    subst e
    exact endV0 A rfl hM H ⟨rfl, rfl⟩

theorem c_digest_groups {ad : Option Addr} {n c : Nat} {m : Mem} : Spec Tryz.prog 58 #[.slice ad n c] m [] (RetV fun _ v L => ∃ b, v = .func (.func 87) #[] #[.pointer (some ⟨b, 0, none⟩)] ∧ L = [pt b [.slice ad n c] 28]) := by
  refine Spec.enter Tryz.func58 rfl 4 Tryz.ntmps58 rfl fun a w0 Lf A H => ?_
  simp only [List.cons_append, List.nil_append] at H
  have hM := Le.refl m
  refine wp_seq ?_
  refine wp_region_lit ?_
  refine step_box A H rfl (by simp only [Value.cells, List.toList_toArray]; rfl) rfl ?_; intro b1 a w A H
  refine step (Runs.assign A rfl) A rfl ?_; clear A a; intro a A
  refine wpList_nil ?_
  refine wp_seq ?_
  refine wp_region_lit ?_
  refine step (Runs.makeFunc A rfl) A rfl ?_; clear A a; intro a A
  refine step (Runs.assign A rfl) A rfl ?_; clear A a; intro a A
  refine wpList_nil ?_
  refine wp_ret ?_
  exact retV A rfl rfl hM H ⟨_, rfl, rfl⟩

theorem c_digest_groups_1 {tb : Nat} {ad : Option Addr} {n c : Nat} {l : List UInt8} {m : Mem} (hb : Slc m 1 ad n c (l.map u8)) (hn : n ≤ 1000000000) : Iter Tryz.prog 87 [.pointer (some ⟨tb, 0, none⟩)] m [pt tb [.slice ad n c] 28] u64 (grp l) := by
  intro lp J hY
  refine Spec.enter Tryz.func87 rfl 37 Tryz.ntmps87 rfl fun a w0 Lf A H => ?_
  simp only [List.cons_append, List.nil_append] at H
  have hM := Le.refl m
  refine wp_block ?_
  refine wp_loop_ghost (fun q a w => ∃ (pre : List UInt64) (ad' : Option Addr) (n' c' : Nat) (l' : List UInt8) (m' : Mem), q = n' + 1 ∧ (grp l = pre ++ grp l' ∧ Slc m' 1 ad' n' c' (l'.map u8) ∧ n' ≤ 1000000000) ∧ Le m m' ∧ Fr 37 a [(0, .func (.yield lp) #[] #[]), (1, .pointer (some ⟨tb, 0, none⟩))] [] ∧ St w0 w m' (pt tb [.slice ad' n' c'] 28 :: (J pre ++ Lf))) _ ⟨[], ad, n, c, l, m, rfl, ⟨rfl, hb, hn⟩, Le.refl m, (Fr.cons A rfl (Fr.cons A rfl (Fr.nil A))), H⟩ ?_
  clear A H; rintro q a w ⟨pre, ad', n', c', l', m, rfl, hinv, hm, A, H⟩
  have hM := hM.trans hm
  have hl1 := hm
  obtain ⟨hg, hs, hn'⟩ := hinv
  have hl' := hs.len8
  have hcap := hs.2.1
  refine wp_seq ?_
  refine wp_seq ?_
  refine wp_region_lit ?_
  refine step (Runs.ld1 A H rfl rfl) A rfl ?_; clear A a; intro a A
  refine step (Runs.lenL A rfl SlC.h) A rfl ?_; clear A a; intro a A
  refine step (Runs.gtr A rfl rfl) A rfl ?_; clear A a; intro a A
  refine wpList_nil ?_
  refine cond_split A rfl (fun h1 => ?_) (fun h1 => ?_)
  · have g1 := h1
    try simp only [decide_eq_true_eq, decide_eq_false_iff_not, Bool.not_eq_true', Bool.not_eq_false', ne_eq, Decidable.not_not, Int.not_lt, Int.not_le] at g1
    refine wp_skip ?_
    refine wp_block ?_
    refine wp_seq ?_
    refine wp_region_lit ?_
    refine step (Runs.ld1 A H rfl rfl) A rfl ?_; clear A a; intro a A
    refine step (Runs.lenL A rfl SlC.h) A rfl ?_; clear A a; intro a A
    refine step (Runs.min2 A rfl rfl) A rfl ?_; clear A a; intro a A
    have hmn : (if (n' : Int) < 8 then (n' : Int) else 8) = ((min 8 n' : Nat) : Int) := by split <;> omega
    rw [hmn] at A
    refine step (Runs.assign A rfl) A rfl ?_; clear A a; intro a A
    refine wpList_nil ?_
    refine wp_seq ?_
    refine wp_region_lit ?_
    refine step (Runs.assign A rfl) A rfl ?_; clear A a; intro a A
    refine wpList_nil ?_
    refine wp_seq ?_
    refine wp_seq ?_
    refine wp_region_lit ?_
    refine step (Runs.ld1 A H rfl rfl) A rfl ?_; clear A a; intro a A
    refine step (Runs.move A rfl) A rfl ?_; clear A a; intro a A
    refine step (Runs.sliceLhi A rfl rfl SlC.h (by omega) (by omega)) A rfl ?_; clear A a; intro a A
    simp only [Int.toNat_natCast] at A
    refine step (Runs.lenL A rfl SlC.h) A rfl ?_; clear A a; intro a A
    refine step (Runs.move A rfl) A rfl ?_; clear A a; intro a A
    refine wpList_nil ?_
    refine wp_block ?_
    refine wp_loop_ghost (fun q a w => ∃ (k : Nat) (m' : Mem), q = 9 - k ∧ (k ≤ min 8 n') ∧ Le m m' ∧ Fr 37 a [(0, .func (.yield lp) #[] #[]), (1, .pointer (some ⟨tb, 0, none⟩)), (3, .int .i64 (min 8 n' : Nat)), (4, u64 (wrdN l' k)), (15, .slice (cutAd ad' c' 0 1) (min 8 n') c'), (16, .int .i64 (min 8 n' : Nat)), (17, .int .i64 k)] [] ∧ St w0 w m' (pt tb [.slice ad' n' c'] 28 :: (J pre ++ Lf))) _ ⟨0, m, rfl, by omega, Le.refl m, (Fr.cons A rfl (Fr.cons A rfl (Fr.cons A rfl (Fr.cons A rfl (Fr.cons A rfl (Fr.cons A rfl (Fr.cons A rfl (Fr.nil A)))))))), H⟩ ?_
    clear A H; rintro q a w ⟨k, m, rfl, hinv, hm, A, H⟩
    have hM := hM.trans hm
    have hl1 := hl1.trans hm
    have hs := hs.mono hm
    have hl2 := hm
    refine wp_seq ?_
    refine wp_region_lit ?_
    refine step (Runs.lss A rfl rfl) A rfl ?_; clear A a; intro a A
    refine wpList_nil ?_
    refine wp_seq ?_
    refine cond_split A rfl (fun h2 => ?_) (fun h2 => ?_)
    · have g2 := h2
      try simp only [decide_eq_true_eq, decide_eq_false_iff_not, Bool.not_eq_true', Bool.not_eq_false', ne_eq, Decidable.not_not, Int.not_lt, Int.not_le] at g2
      refine wp_skip ?_
      refine wp_seq ?_
      refine wp_block ?_
      refine wp_seq ?_
      refine wp_region_lit ?_
      refine step (Runs.move A rfl) A rfl ?_; clear A a; intro a A
      obtain ⟨bb, off, cs, hcut, hfz, hcs⟩ := (hs.hi (hi := min 8 n') (by omega)).at_ (by omega)
      rw [hcut] at A
      refine step (Runs.indexAddr A rfl rfl SlC.h (by omega) (by omega)) A rfl ?_; clear A a; intro a A
      refine step (Runs.ld1 A H rfl (v := u8 (l'.getD k 0)) (by rw [show off + ((k : Int)).toNat * 1 = off + k by omega, hcs _ (by omega), List.getElem?_take_of_lt (by omega)]; exact u8_at (by omega))) A rfl ?_; clear A a; intro a A
      refine step (Runs.assign A rfl) A rfl ?_; clear A a; intro a A
      refine step (Runs.assign A rfl) A rfl ?_; clear A a; intro a A
      refine wpList_nil ?_
      refine wp_region_lit ?_
      refine step (Runs.move A rfl) A rfl ?_; clear A a; intro a A
      refine step (Runs.move A rfl) A rfl ?_; clear A a; intro a A
      refine step (Runs.convTo64 A rfl rfl) A rfl ?_; clear A a; intro a A
      refine step (Runs.move A rfl) A rfl ?_; clear A a; intro a A
      refine step (Runs.mul A rfl rfl (by omega)) A rfl ?_; clear A a; intro a A
      refine step (Runs.shl64 (k := 8 * k) A rfl rfl (by omega) (by omega)) A rfl ?_; clear A a; intro a A
      refine step (Runs.or64 A rfl rfl) A rfl ?_; clear A a; intro a A
      refine step (Runs.assign A rfl) A rfl ?_; clear A a; intro a A
      refine wpList_nil ?_
      refine wp_region_lit ?_
      refine step (Runs.add A rfl rfl (by omega)) A rfl ?_; clear A a; intro a A
      refine step (Runs.move A rfl) A rfl ?_; clear A a; intro a A
      refine wpList_nil ?_
      rw [← hcut] at A
      exact ⟨_, by omega, k + 1, m, rfl, by omega, hl2, (Fr.cons A rfl (Fr.cons A rfl (Fr.cons A rfl (Fr.cons A rfl (Fr.cons A rfl (Fr.cons A rfl (Fr.cons A rfl (Fr.nil A)))))))), H⟩
    · have g2 := h2
      try simp only [decide_eq_true_eq, decide_eq_false_iff_not, Bool.not_eq_true', Bool.not_eq_false', ne_eq, Decidable.not_not, Int.not_lt, Int.not_le] at g2
      refine wp_exit ?_
      refine wp_seq ?_
      refine wp_seq ?_
      have hg2 : grp l' = wrdN l' (min 8 n') :: grp (l'.drop 8) := by rw [grp_cons (by omega), hl']
      have hk2 : k = min 8 n' := by omega
      subst hk2
      have H' : St w0 w m (J pre ++ (pt tb [.slice ad' n' c'] 28 :: Lf)) := H.perm List.perm_middle.symm
      refine (wpIn_wide (n := 0)).1 ?_
      refine wpIn_region_lit ?_
      refine stepI (Runs.move A rfl) A rfl fun a A => ?_
      refine stepI (Runs.move A rfl) A rfl fun a A => ?_
      refine step_yield A rfl rfl rfl (hY pre (wrdN l' (min 8 n')) m w0 w _ hM ⟨grp (l'.drop 8), by rw [hg, hg2, List.append_assoc]; rfl⟩ H') ?_
      rintro e w ⟨rfl, m, hm, H⟩
      refine ⟨_, rfl, fun a A => ?_⟩
      have hM := hM.trans hm
      have hl1 := hl1.trans hm
      have hs := hs.mono hm
      replace H := H.perm List.perm_middle
      refine stepI (Runs.not A rfl) A rfl fun a A => ?_
      refine wpListIn_nil ?_
      refine cond_false A rfl rfl ?_
      refine wp_skip ?_
      refine wp_region_lit ?_
      refine step (Runs.ld1 A H rfl rfl) A rfl ?_; clear A a; intro a A
      refine step (Runs.move A rfl) A rfl ?_; clear A a; intro a A
      refine step (Runs.sliceLlo A rfl rfl SlC.h (by omega) (by omega)) A rfl ?_; clear A a; intro a A
      simp only [Int.toNat_natCast] at A
      refine step_store A H rfl rfl rfl rfl rfl rfl ?_; intro w H
      refine wpList_nil ?_
      have hs3 : Slc m 1 (cutAd ad' c' (min 8 n') 1) (n' - min 8 n') (c' - min 8 n') ((l'.drop 8).map u8) := by
        have := hs.lo (lo := min 8 n') (by omega)
        rw [Nat.mul_one, ← List.map_drop, ← hl', drop_min] at this
        rw [← hl']; exact this
      exact ⟨_, by omega, pre ++ [wrdN l' (min 8 n')], cutAd ad' c' (min 8 n') 1, n' - min 8 n', c' - min 8 n', l'.drop 8, m, rfl, ⟨by rw [hg, hg2, List.append_assoc]; rfl, hs3, by omega⟩, hl1, (Fr.cons A rfl (Fr.cons A rfl (Fr.nil A))), H⟩
  · have g1 := h1
    try simp only [decide_eq_true_eq, decide_eq_false_iff_not, Bool.not_eq_true', Bool.not_eq_false', ne_eq, Decidable.not_not, Int.not_lt, Int.not_le] at g1
    refine wp_exit ?_
    have e : pre = grp l := by rw [hg, grp_nil (l := l') (by omega), List.append_nil]
    subst e
    exact endI A rfl hM H.drop

theorem c_digest_Bytes {ad : Option Addr} {n c : Nat} {l : List UInt8} {m : Mem} (hb : Slc m 1 ad n c (l.map u8)) (hn : n ≤ 1000000000) : Spec Tryz.prog 35 #[.slice ad n c] m [] (RetE (u64 (dig l))) := by
  refine Spec.enterM (L := []) Tryz.func35 rfl 17 Tryz.ntmps35 rfl fun a w0 Lf A H => ?_
  simp only [List.cons_append, List.nil_append] at H
  have hM := Le.refl m
  refine wp_seq ?_
  refine wp_region_lit ?_
  refine step (Runs.assign A rfl) A rfl ?_; clear A a; intro a A
  refine wpList_nil ?_
  refine wp_seq ?_
  refine wp_region_lit ?_
  refine step_alloc A H rfl ?_; clear A a; intro b1 a w A H
  refine step_store A H rfl rfl rfl rfl rfl rfl ?_; intro w H
  refine wpList_nil ?_
  refine wp_seq ?_
  refine wp_seq ?_
  refine wp_region_lit ?_
  refine step (Runs.move A rfl) A rfl ?_; clear A a; intro a A
  refine step_callS A rfl rfl (c_digest_groups) H ?_
  rintro v2_1 a w m L' hm ⟨b9, rfl, rfl⟩ A H
  simp only [List.cons_append, List.nil_append] at H
  have hM := hM.trans hm
  have hb := hb.mono hm
  refine wpList_nil ?_
  refine wp_block ?_
  refine wp_range (xs := grp l) (enc := u64) (Lit := [pt b9 [.slice ad n c] 28]) (J := fun pre => [pt b1 [u64 (pre.foldl stp dig0)] 107]) (B := fun x a2 => Fr 17 a2 [(3, .pointer (some ⟨b1, 0, none⟩)), (4, u64 x)] []) (Lf := Lf) A rfl rfl (c_digest_groups_1 hb hn) H ?assign ?body ?k
  case assign =>
    intro lp x a W K A hK
    refine region_in_round (fun ⟨_, _, h⟩ => h) rfl ?_
    refine step (Runs.assign A rfl) A rfl ?_; clear A a; intro a A
    refine wpList_nil ?_
    exact hK _ (Fr.cons A rfl (Fr.cons A rfl (Fr.nil A)))
  case body =>
    intro lp pre x a m1 w1 w Lx hm1 hpre A H
    refine wpIn_block ?_
    refine region_in_round (fun ⟨_, _, h⟩ => h) rfl ?_
    have hM := Le.refl m1
    simp only [List.cons_append, List.nil_append] at H
    refine step (Runs.move A rfl) A rfl ?_; clear A a; intro a A
    refine step_slice A H rfl rfl rfl rfl rfl rfl ?_; intro b2 a w A H
    refine step_callS A rfl rfl (c_digest_sum_add (b := b1) (b2 := b2) (h := pre.foldl stp dig0) (z := x)) H ?_
    rintro v4_2 a w m L' hm ⟨rfl, rfl⟩ A H
    simp only [List.cons_append, List.nil_append] at H
    have hM := hM.trans hm
    refine wpList_nil ?_
    exact ⟨_, hM, by simp only [List.foldl_append, List.foldl_cons, List.foldl_nil]; exact St.subH (L' := pt b1 [u64 (stp (pre.foldl stp dig0) x)] 107 :: Lx) H⟩
  case k =>
    clear A H
    rintro D a m w hm A H
    have hM := hM.trans hm
    have hb := hb.mono hm
    simp only [List.cons_append, List.nil_append] at H
    refine wp_seq ?_
    refine wp_region_lit ?_
    refine step (Runs.move A rfl) A rfl ?_; clear A a; intro a A
    refine step (Runs.lenL A rfl SlC.h) A rfl ?_; clear A a; intro a A
    refine step (Runs.convTo64 A rfl rfl) A rfl ?_; clear A a; intro a A
    refine step_slice A H rfl rfl rfl rfl rfl rfl ?_; intro b3 a w A H
    refine step_callS A rfl rfl (c_digest_sum_add (b := b1) (b2 := b3) (h := (grp l).foldl stp dig0) (z := UInt64.ofNat n)) H ?_
    rintro v5_4 a w m L' hm ⟨rfl, rfl⟩ A H
    simp only [List.cons_append, List.nil_append] at H
    have hM := hM.trans hm
    have hb := hb.mono hm
    refine wpList_nil ?_
    refine wp_seq ?_
    refine wp_region_lit ?_
    refine step (Runs.ld1 A H rfl rfl) A rfl ?_; clear A a; intro a A
    refine step (Runs.assign A rfl) A rfl ?_; clear A a; intro a A
    refine wpList_nil ?_
    refine wp_ret ?_
    exact retFM A rfl rfl hM H (by rw [dig, hb.len8])
end Sl
end Go.Proofs.YtanhehbfbakdcaaGreatDoor
