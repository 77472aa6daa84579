/- The printer's items: printed by my gen.py out of annotations. -/
import Derived.Test.YtanhehbfbakdcaaGreatDoorPrE
set_option linter.unusedSimpArgs false
set_option linter.unusedVariables false
namespace Go.Proofs.YtanhehbfbakdcaaGreatDoor
namespace Sl
open Go

theorem c_item_1 {b bw ks : Nat} {s : ByteArray} {e : Ex} {ad : Option Addr} {c : Nat} {m : Mem} (G : Glob m) (hA : ExA m ad c e) (hks : s.size ≤ ks) : PrSpec Tryz.prog 94 [.string s, .agg (exC e ad c).toArray, .pointer (some ⟨bw, 0, none⟩)] m b [pt bw [.pointer (some ⟨b, 0, none⟩)] 112] (partP (bl s) e) (szEx e + ks) (fun _ v => v = .tuple #[]) := by
  intro x B hB
  refine Spec.enter Tryz.func94 rfl 13 Tryz.ntmps94 rfl fun a w0 Lf A H => ?_
  simp only [List.cons_append, List.nil_append] at H
  have hM := Le.refl m
  refine wp_seq ?_
  refine wp_region_lit ?_
  refine step_box A H rfl (by simp only [Value.cells, List.toList_toArray]; rfl) rfl ?_; intro b1 a w A H
  refine wpList_nil ?_
  refine wp_seq ?_
  refine wp_region_lit ?_
  refine step (Runs.ld1 A H rfl rfl) A rfl ?_; clear A a; intro a A
  refine step (Runs.nilCheck A rfl) A rfl ?_; clear A a; intro a A
  refine step (Runs.fa A rfl) A rfl ?_; clear A a; intro a A
  refine step (Runs.move A rfl) A rfl ?_; clear A a; intro a A
  refine step_callPr A rfl rfl (c_WriteString _ (Nat.le_refl _)) H (by omega) ?_
  clear A a; rintro v1_4 a w m hm rfl A H
  simp only [List.cons_append, List.nil_append] at H
  have hM := hM.trans hm
  have G := G.mono hm
  have hA := hA.mono hm
  refine wpList_nil ?_
  refine wp_region_lit ?_
  refine step (Runs.ld1 A H rfl rfl) A rfl ?_; clear A a; intro a A
  refine step (Runs.ldN A H rfl rfl) A rfl ?_; clear A a; intro a A
  refine step_callPr A rfl rfl (exSpec 8 (by decide) G hA) H (by omega) ?_
  clear A a; rintro v2_2 a w m hm rfl A H
  simp only [List.cons_append, List.nil_append] at H
  have hM := hM.trans hm
  have G := G.mono hm
  have hA := hA.mono hm
  refine wpList_nil ?_
  exact endPr A rfl hM H rfl rfl (by omega)

theorem kw_at {k : Int} (h1 : 1 ≤ k) (h2 : k ≤ 9) : ([.string ⟨#[105, 110]⟩, .string ⟨#[111, 117, 116]⟩, .string ⟨#[99, 104, 97, 110]⟩, .string ⟨#[114, 101, 103]⟩, .string ⟨#[119, 105, 114, 101]⟩, .string ⟨#[109, 101, 109]⟩, .string ⟨#[116, 97, 107, 101]⟩, .string ⟨#[112, 117, 116]⟩, .string ⟨#[105, 110, 115, 116]⟩] : List Value)[0 + (k - 1).toNat * 1]? = some (.string ⟨(kwP k).toArray⟩) := by
  have : k = 1 ∨ k = 2 ∨ k = 3 ∨ k = 4 ∨ k = 5 ∨ k = 6 ∨ k = 7 ∨ k = 8 ∨ k = 9 := by omega
  rcases this with rfl | rfl | rfl | rfl | rfl | rfl | rfl | rfl | rfl <;> rfl
theorem kw_size (k : Int) : (kwP k).length ≤ 4 := by unfold kwP; split <;> decide

set_option maxHeartbeats 2000000 in
theorem c_printer_item {b : Nat} {i : PItem} {p : IP} {m : Mem} (G : Glob m) (hI : ItA m i p) : PrSpec Tryz.prog 63 [.pointer (some ⟨b, 0, none⟩), .agg (itC i p).toArray] m b [] (itemP i) (szItem i) (fun _ v => v = .tuple #[]) := by
  intro x B hB
  refine Spec.enter Tryz.func63 rfl 239 Tryz.ntmps63 rfl fun a w0 Lf A H => ?_
  simp only [List.cons_append, List.nil_append] at H
  have hM := Le.refl m
  have hB' := hB
  unfold szItem at hB'
  refine wp_seq ?_
  refine wp_region_lit ?_
  refine step_box A H rfl (by simp only [Value.cells, List.toList_toArray]; rfl) rfl ?_; intro b2 a w A H
  refine step_box A H rfl (by simp only [Value.cells, List.toList_toArray]; rfl) rfl ?_; intro b3 a w A H
  refine wpList_nil ?_
  refine wp_seq ?_
  refine wp_region_lit ?_
  refine step (Runs.fa A rfl) A rfl ?_; clear A a; intro a A
  refine step (Runs.ld1 A H rfl rfl) A rfl ?_; clear A a; intro a A
  refine step (Runs.assign A rfl) A rfl ?_; clear A a; intro a A
  refine wpList_nil ?_
  refine wp_seq ?_
  refine wp_seq ?_
  refine wp_region_lit ?_
  refine step (Runs.move A rfl) A rfl ?_; clear A a; intro a A
  refine step (Runs.lss A rfl rfl) A rfl ?_; clear A a; intro a A
  refine step (Runs.move A rfl) A rfl ?_; clear A a; intro a A
  refine onBool A (dj := 14) rfl (fun h1 => ?_) (fun h1 => ?_)
  · have g1 := h1
    try simp only [decide_eq_true_eq, decide_eq_false_iff_not, Bool.not_eq_true', Bool.not_eq_false', ne_eq, Decidable.not_not, Int.not_lt, Int.not_le] at g1
    refine stepSkip (dj := 14) rfl rfl h1 A rfl ?_; clear A a; intro a A
    refine stepSkip (dj := 14) rfl rfl h1 A rfl ?_; clear A a; intro a A
    refine step (Runs.pickT A rfl h1 rfl) A rfl ?_; clear A a; intro a A
    refine wpList_nil ?_
    refine cond_true A rfl rfl ?_
    refine wp_seq ?_
    obtain ⟨pa, ad0, c0, hpa, had, hlen, H⟩ := H.pr_open (b := b)
    refine wp_region_lit ?_
    refine step (Runs.ld1 A H rfl rfl) A rfl ?_; clear A a; intro a A
    refine step (Runs.nilCheck A rfl) A rfl ?_; clear A a; intro a A
    refine step (Runs.fa A rfl) A rfl ?_; clear A a; intro a A
    refine step_store A H rfl rfl rfl rfl rfl rfl ?_; intro w H
    refine wpList_nil ?_
    refine wp_ret ?_
    have H := H.pr_close hpa had hlen
    exact retPr A rfl hM H rfl (by rw [itemP]; simp only []; rw [if_pos (by omega)]) (by omega)
  · have g1 := h1
    try simp only [decide_eq_true_eq, decide_eq_false_iff_not, Bool.not_eq_true', Bool.not_eq_false', ne_eq, Decidable.not_not, Int.not_lt, Int.not_le] at g1
    refine stepG (dj := 14) rfl rfl h1 (Runs.move A rfl) A rfl ?_; clear A a; intro a A
    refine stepG (dj := 14) rfl rfl h1 (Runs.gtr A rfl rfl) A rfl ?_; clear A a; intro a A
    refine step (Runs.pickF A rfl h1 rfl) A rfl ?_; clear A a; intro a A
    refine wpList_nil ?_
    refine cond_split A rfl (fun h2 => ?_) (fun h2 => ?_)
    · have g2 := h2
      try simp only [decide_eq_true_eq, decide_eq_false_iff_not, Bool.not_eq_true', Bool.not_eq_false', ne_eq, Decidable.not_not, Int.not_lt, Int.not_le] at g2
      refine wp_seq ?_
      obtain ⟨pa, ad0, c0, hpa, had, hlen, H⟩ := H.pr_open (b := b)
      refine wp_region_lit ?_
      refine step (Runs.ld1 A H rfl rfl) A rfl ?_; clear A a; intro a A
      refine step (Runs.nilCheck A rfl) A rfl ?_; clear A a; intro a A
      refine step (Runs.fa A rfl) A rfl ?_; clear A a; intro a A
      refine step_store A H rfl rfl rfl rfl rfl rfl ?_; intro w H
      refine wpList_nil ?_
      refine wp_ret ?_
      have H := H.pr_close hpa had hlen
      exact retPr A rfl hM H rfl (by rw [itemP]; simp only []; rw [if_pos (by omega)]) (by omega)
    · have g2 := h2
      try simp only [decide_eq_true_eq, decide_eq_false_iff_not, Bool.not_eq_true', Bool.not_eq_false', ne_eq, Decidable.not_not, Int.not_lt, Int.not_le] at g2
      refine wp_skip ?_
      refine wp_seq ?_
      refine wp_region_lit ?_
      refine step (Runs.move A rfl) A rfl ?_; clear A a; intro a A
      refine step (Runs.eql A rfl rfl) A rfl ?_; clear A a; intro a A
      refine step (Runs.move A rfl) A rfl ?_; clear A a; intro a A
      refine step (Runs.eql A rfl rfl) A rfl ?_; clear A a; intro a A
      refine step (Runs.move A rfl) A rfl ?_; clear A a; intro a A
      refine step (Runs.eql A rfl rfl) A rfl ?_; clear A a; intro a A
      refine step (Runs.move A rfl) A rfl ?_; clear A a; intro a A
      refine step (Runs.eql A rfl rfl) A rfl ?_; clear A a; intro a A
      refine step (Runs.assign A rfl) A rfl ?_; clear A a; intro a A
      refine step (Runs.assign A rfl) A rfl ?_; clear A a; intro a A
      refine step (Runs.assign A rfl) A rfl ?_; clear A a; intro a A
      refine step (Runs.assign A rfl) A rfl ?_; clear A a; intro a A
      refine wpList_nil ?_
      refine wp_seq ?_
      refine draw_begin (ms := m) (Ls := [pt b3 (itC i p) 134, pt b2 [.pointer (some ⟨b, 0, none⟩)] 112]) (by kernel_rfl) (N := 80) rfl (by kernel_rfl) H ?_; clear H; intro w H hR
      have hS : SW m [pt b3 (itC i p) 134, pt b2 [.pointer (some ⟨b, 0, none⟩)] 112] w := H.sw (Le.refl m)
      have hL := Le.refl m
      refine dstep hR (i := 0) rfl (by kernel_rfl) (fun _ _ _ h => h) (fun _ _ H' => (Runs.ld1 A H' rfl rfl)) A rfl hS ?_; clear A a hR; intro a A hR
      refine dstep hR (i := 1) rfl (by kernel_rfl) (fun _ _ _ h => h) (fun _ _ H' => (Runs.fa A rfl)) A rfl hS ?_; clear A a hR; intro a A hR
      refine dstep hR (i := 2) rfl (by kernel_rfl) (fun _ _ _ h => h) (fun _ _ H' => (Runs.ldN A H' rfl rfl)) A rfl hS ?_; clear A a hR; intro a A hR
      refine dstep hR (i := 8) rfl (by kernel_rfl) (fun _ _ _ h => h) (fun _ _ H' => (Runs.fa A rfl)) A rfl hS ?_; clear A a hR; intro a A hR
      refine dstep hR (i := 9) rfl (by kernel_rfl) (fun _ _ _ h => h) (fun _ _ H' => (Runs.ldN A H' rfl rfl)) A rfl hS ?_; clear A a hR; intro a A hR
      refine dstep hR (i := 18) rfl (by kernel_rfl) (fun _ _ _ h => h) (fun _ _ H' => (Runs.fa A rfl)) A rfl hS ?_; clear A a hR; intro a A hR
      refine dstep hR (i := 19) rfl (by kernel_rfl) (fun _ _ _ h => h) (fun _ _ H' => (Runs.ldN A H' rfl rfl)) A rfl hS ?_; clear A a hR; intro a A hR
      refine dstep hR (i := 24) rfl (by kernel_rfl) (fun _ _ _ h => h) (fun _ _ H' => (Runs.fa A rfl)) A rfl hS ?_; clear A a hR; intro a A hR
      refine dstep hR (i := 25) rfl (by kernel_rfl) (fun _ _ _ h => h) (fun _ _ H' => (Runs.ldN A H' rfl rfl)) A rfl hS ?_; clear A a hR; intro a A hR
      refine dstep hR (i := 35) rfl (by kernel_rfl) (fun _ _ _ h => h) (fun _ _ H' => (Runs.fa A rfl)) A rfl hS ?_; clear A a hR; intro a A hR
      refine dstep hR (i := 36) rfl (by kernel_rfl) (fun _ _ _ h => h) (fun _ _ H' => (Runs.ldN A H' rfl rfl)) A rfl hS ?_; clear A a hR; intro a A hR
      refine dstep hR (i := 44) rfl (by kernel_rfl) (fun _ _ _ h => h) (fun _ _ H' => (Runs.fa A rfl)) A rfl hS ?_; clear A a hR; intro a A hR
      refine dstep hR (i := 45) rfl (by kernel_rfl) (fun _ _ _ h => h) (fun _ _ H' => (Runs.ldN A H' rfl rfl)) A rfl hS ?_; clear A a hR; intro a A hR
      refine dstep hR (i := 50) rfl (by kernel_rfl) (fun _ _ _ h => h) (fun _ _ H' => (Runs.fa A rfl)) A rfl hS ?_; clear A a hR; intro a A hR
      refine dstep hR (i := 51) rfl (by kernel_rfl) (fun _ _ _ h => h) (fun _ _ H' => (Runs.ldN A H' rfl rfl)) A rfl hS ?_; clear A a hR; intro a A hR
      refine dstep hR (i := 52) rfl (by kernel_rfl) (fun _ _ _ h => h) (fun _ _ H' => (Runs.build A rfl rfl rfl)) A rfl hS ?_; clear A a hR; intro a A hR
      refine dstep hR (i := 53) rfl (by kernel_rfl) (fun _ _ _ h => h) (fun _ _ H' => (Runs.aeql A rfl rfl rfl rfl)) A rfl hS ?_; clear A a hR; intro a A hR
      refine dstep hR (i := 60) rfl (by kernel_rfl) (fun _ _ _ h => h) (fun _ _ H' => (Runs.fa A rfl)) A rfl hS ?_; clear A a hR; intro a A hR
      refine dstep hR (i := 61) rfl (by kernel_rfl) (fun _ _ _ h => h) (fun _ _ H' => (Runs.ld1 A H' rfl rfl)) A rfl hS ?_; clear A a hR; intro a A hR
      refine dstep hR (i := 62) rfl (by kernel_rfl) (fun _ _ _ h => h) (fun _ _ H' => (Runs.seql A rfl rfl)) A rfl hS ?_; clear A a hR; intro a A hR
      refine dlist hR (i := 3) rfl (by kernel_rfl) ?_
      have hR := hR.next (i := 3) (by kernel_rfl)
      refine step_callF A rfl rfl (c_syntax_none (z := i.width)) H ?_
      rintro v5_3 a w m hm rfl A H
      have hM := hM.trans hm
      have G := G.mono hm
      have hI := hI.mono hm
      have hL := hL.trans hm
      refine wpList_nil ?_
      clear hS; refine and_keep (H.sw hL) fun hS => ?_
      refine dstep hR (i := 4) rfl (by kernel_rfl) (fun _ _ _ h => h) (fun _ _ H' => (Runs.move A rfl)) A rfl hS ?_; clear A a hR; intro a A hR
      refine joinD 55 [7, 6, 5, 4, 3, 62, 61, 60, 53, 52, 51, 50, 45, 44, 36, 35, 25, 24, 19, 18, 9, 8, 2, 1, 0] (fun F => (36, .bool (noneB i.width || decide (i.kind ≤ 6))) :: F) A (fun key1 => ?_) ?_
      · refine onBool A (dj := 33) rfl (fun h3 => ?_) (fun h3 => ?_)
        · have g3 := h3
          try simp only [decide_eq_true_eq, decide_eq_false_iff_not, Bool.not_eq_true', Bool.not_eq_false', ne_eq, Decidable.not_not, Int.not_lt, Int.not_le] at g3
          refine dskip hR (i := 5) (dj := 33) rfl (by kernel_rfl) (fun _ _ _ h => h) rfl rfl h3 A rfl hS ?_; clear A a hR; intro a A hR
          refine dskip hR (i := 6) (dj := 33) rfl (by kernel_rfl) (fun _ _ _ h => h) rfl rfl h3 A rfl hS ?_; clear A a hR; intro a A hR
          refine dstep hR (i := 7) rfl (by kernel_rfl) (fun _ _ _ h => h) (fun _ _ H' => (Runs.pickT A rfl h3 rfl)) A rfl hS ?_; clear A a hR; intro a A hR
          exact key1 _ (Fr.with1 (Fr.suf A rfl) A rfl (by first | rfl | (simp [*]; done))) hR
        · have g3 := h3
          try simp only [decide_eq_true_eq, decide_eq_false_iff_not, Bool.not_eq_true', Bool.not_eq_false', ne_eq, Decidable.not_not, Int.not_lt, Int.not_le] at g3
          refine dstepG hR (i := 5) (dj := 33) rfl (by kernel_rfl) (fun _ _ _ h => h) rfl rfl h3 (fun _ _ H' => (Runs.move A rfl)) A rfl hS ?_; clear A a hR; intro a A hR
          refine dstepG hR (i := 6) (dj := 33) rfl (by kernel_rfl) (fun _ _ _ h => h) rfl rfl h3 (fun _ _ H' => (Runs.leq A rfl rfl)) A rfl hS ?_; clear A a hR; intro a A hR
          refine dstep hR (i := 7) rfl (by kernel_rfl) (fun _ _ _ h => h) (fun _ _ H' => (Runs.pickF A rfl h3 rfl)) A rfl hS ?_; clear A a hR; intro a A hR
          exact key1 _ (Fr.with1 (Fr.suf A rfl) A rfl (by first | rfl | (simp [*]; done))) hR
      clear A hR; intro a A hR
      refine dlist hR (i := 10) rfl (by kernel_rfl) ?_
      have hR := hR.next (i := 10) (by kernel_rfl)
      refine step_callF A rfl rfl (c_syntax_none (z := i.depth)) H ?_
      rintro v5_10 a w m hm rfl A H
      have hM := hM.trans hm
      have G := G.mono hm
      have hI := hI.mono hm
      have hL := hL.trans hm
      refine wpList_nil ?_
      clear hS; refine and_keep (H.sw hL) fun hS => ?_
      refine dstep hR (i := 11) rfl (by kernel_rfl) (fun _ _ _ h => h) (fun _ _ H' => (Runs.move A rfl)) A rfl hS ?_; clear A a hR; intro a A hR
      refine joinD 50 [14, 13, 12, 11, 10, 7, 6, 5, 4, 3, 62, 61, 60, 53, 52, 51, 50, 45, 44, 36, 35, 25, 24, 19, 18, 9, 8, 2, 1, 0] (fun F => (43, .bool (noneB i.depth || decide (i.kind = 3))) :: F) A (fun key2 => ?_) ?_
      · refine onBool A (dj := 40) rfl (fun h4 => ?_) (fun h4 => ?_)
        · have g4 := h4
          try simp only [decide_eq_true_eq, decide_eq_false_iff_not, Bool.not_eq_true', Bool.not_eq_false', ne_eq, Decidable.not_not, Int.not_lt, Int.not_le] at g4
          refine dskip hR (i := 12) (dj := 40) rfl (by kernel_rfl) (fun _ _ _ h => h) rfl rfl h4 A rfl hS ?_; clear A a hR; intro a A hR
          refine dskip hR (i := 13) (dj := 40) rfl (by kernel_rfl) (fun _ _ _ h => h) rfl rfl h4 A rfl hS ?_; clear A a hR; intro a A hR
          refine dstep hR (i := 14) rfl (by kernel_rfl) (fun _ _ _ h => h) (fun _ _ H' => (Runs.pickT A rfl h4 rfl)) A rfl hS ?_; clear A a hR; intro a A hR
          exact key2 _ (Fr.with1 (Fr.suf A rfl) A rfl (by first | rfl | (simp [*]; done))) hR
        · have g4 := h4
          try simp only [decide_eq_true_eq, decide_eq_false_iff_not, Bool.not_eq_true', Bool.not_eq_false', ne_eq, Decidable.not_not, Int.not_lt, Int.not_le] at g4
          refine dstepG hR (i := 12) (dj := 40) rfl (by kernel_rfl) (fun _ _ _ h => h) rfl rfl h4 (fun _ _ H' => (Runs.move A rfl)) A rfl hS ?_; clear A a hR; intro a A hR
          refine dstepG hR (i := 13) (dj := 40) rfl (by kernel_rfl) (fun _ _ _ h => h) rfl rfl h4 (fun _ _ H' => (Runs.eql A rfl rfl)) A rfl hS ?_; clear A a hR; intro a A hR
          refine dstep hR (i := 14) rfl (by kernel_rfl) (fun _ _ _ h => h) (fun _ _ H' => (Runs.pickF A rfl h4 rfl)) A rfl hS ?_; clear A a hR; intro a A hR
          exact key2 _ (Fr.with1 (Fr.suf A rfl) A rfl (by first | rfl | (simp [*]; done))) hR
      clear A hR; intro a A hR
      refine dstep hR (i := 15) rfl (by kernel_rfl) (fun _ _ _ h => h) (fun _ _ H' => (Runs.move A rfl)) A rfl hS ?_; clear A a hR; intro a A hR
      refine joinD 47 [17, 16, 15, 14, 13, 12, 11, 10, 7, 6, 5, 4, 3, 62, 61, 60, 53, 52, 51, 50, 45, 44, 36, 35, 25, 24, 19, 18, 9, 8, 2, 1, 0] (fun F => (46, .bool ((noneB i.depth || decide (i.kind = 3)) || decide (i.kind = 6))) :: F) A (fun key3 => ?_) ?_
      · refine onBool A (dj := 44) rfl (fun h5 => ?_) (fun h5 => ?_)
        · have g5 := h5
          try simp only [decide_eq_true_eq, decide_eq_false_iff_not, Bool.not_eq_true', Bool.not_eq_false', ne_eq, Decidable.not_not, Int.not_lt, Int.not_le] at g5
          refine dskip hR (i := 16) (dj := 44) rfl (by kernel_rfl) (fun _ _ _ h => h) rfl rfl h5 A rfl hS ?_; clear A a hR; intro a A hR
          refine dstep hR (i := 17) rfl (by kernel_rfl) (fun _ _ _ h => h) (fun _ _ H' => (Runs.pickT A rfl h5 rfl)) A rfl hS ?_; clear A a hR; intro a A hR
          exact key3 _ (Fr.with1 (Fr.suf A rfl) A rfl (by first | rfl | (simp [*]; done))) hR
        · have g5 := h5
          try simp only [decide_eq_true_eq, decide_eq_false_iff_not, Bool.not_eq_true', Bool.not_eq_false', ne_eq, Decidable.not_not, Int.not_lt, Int.not_le] at g5
          refine dstepG hR (i := 16) (dj := 44) rfl (by kernel_rfl) (fun _ _ _ h => h) rfl rfl h5 (fun _ _ H' => (Runs.move A rfl)) A rfl hS ?_; clear A a hR; intro a A hR
          refine dstep hR (i := 17) rfl (by kernel_rfl) (fun _ _ _ h => h) (fun _ _ H' => (Runs.pickF A rfl h5 rfl)) A rfl hS ?_; clear A a hR; intro a A hR
          exact key3 _ (Fr.with1 (Fr.suf A rfl) A rfl (by first | rfl | (simp [*]; done))) hR
      clear A hR; intro a A hR
      refine dlist hR (i := 20) rfl (by kernel_rfl) ?_
      have hR := hR.next (i := 20) (by kernel_rfl)
      refine step_callF A rfl rfl (c_syntax_none (z := i.init)) H ?_
      rintro v5_20 a w m hm rfl A H
      have hM := hM.trans hm
      have G := G.mono hm
      have hI := hI.mono hm
      have hL := hL.trans hm
      refine wpList_nil ?_
      clear hS; refine and_keep (H.sw hL) fun hS => ?_
      refine dstep hR (i := 21) rfl (by kernel_rfl) (fun _ _ _ h => h) (fun _ _ H' => (Runs.move A rfl)) A rfl hS ?_; clear A a hR; intro a A hR
      refine joinD 43 [23, 22, 21, 20, 17, 16, 15, 14, 13, 12, 11, 10, 7, 6, 5, 4, 3, 62, 61, 60, 53, 52, 51, 50, 45, 44, 36, 35, 25, 24, 19, 18, 9, 8, 2, 1, 0] (fun F => (52, .bool (noneB i.init || decide (i.kind = 4))) :: F) A (fun key4 => ?_) ?_
      · refine onBool A (dj := 50) rfl (fun h6 => ?_) (fun h6 => ?_)
        · have g6 := h6
          try simp only [decide_eq_true_eq, decide_eq_false_iff_not, Bool.not_eq_true', Bool.not_eq_false', ne_eq, Decidable.not_not, Int.not_lt, Int.not_le] at g6
          refine dskip hR (i := 22) (dj := 50) rfl (by kernel_rfl) (fun _ _ _ h => h) rfl rfl h6 A rfl hS ?_; clear A a hR; intro a A hR
          refine dstep hR (i := 23) rfl (by kernel_rfl) (fun _ _ _ h => h) (fun _ _ H' => (Runs.pickT A rfl h6 rfl)) A rfl hS ?_; clear A a hR; intro a A hR
          exact key4 _ (Fr.with1 (Fr.suf A rfl) A rfl (by first | rfl | (simp [*]; done))) hR
        · have g6 := h6
          try simp only [decide_eq_true_eq, decide_eq_false_iff_not, Bool.not_eq_true', Bool.not_eq_false', ne_eq, Decidable.not_not, Int.not_lt, Int.not_le] at g6
          refine dstepG hR (i := 22) (dj := 50) rfl (by kernel_rfl) (fun _ _ _ h => h) rfl rfl h6 (fun _ _ H' => (Runs.move A rfl)) A rfl hS ?_; clear A a hR; intro a A hR
          refine dstep hR (i := 23) rfl (by kernel_rfl) (fun _ _ _ h => h) (fun _ _ H' => (Runs.pickF A rfl h6 rfl)) A rfl hS ?_; clear A a hR; intro a A hR
          exact key4 _ (Fr.with1 (Fr.suf A rfl) A rfl (by first | rfl | (simp [*]; done))) hR
      clear A hR; intro a A hR
      refine dlist hR (i := 26) rfl (by kernel_rfl) ?_
      have hR := hR.next (i := 26) (by kernel_rfl)
      refine step_callF A rfl rfl (c_syntax_absent (e := i.a) (ad := p.aa) (c := p.ca)) H ?_
      rintro v5_26 a w m hm rfl A H
      have hM := hM.trans hm
      have G := G.mono hm
      have hI := hI.mono hm
      have hL := hL.trans hm
      refine wpList_nil ?_
      clear hS; refine and_keep (H.sw hL) fun hS => ?_
      refine dstep hR (i := 27) rfl (by kernel_rfl) (fun _ _ _ h => h) (fun _ _ H' => (Runs.move A rfl)) A rfl hS ?_; clear A a hR; intro a A hR
      refine joinD 34 [34, 33, 32, 31, 30, 29, 28, 27, 26, 23, 22, 21, 20, 17, 16, 15, 14, 13, 12, 11, 10, 7, 6, 5, 4, 3, 62, 61, 60, 53, 52, 51, 50, 45, 44, 36, 35, 25, 24, 19, 18, 9, 8, 2, 1, 0] (fun F => (63, .bool (absentB i.a || (decide (4 ≤ i.kind) && !decide (i.kind = 9)))) :: F) A (fun key5 => ?_) ?_
      · refine onBool A (dj := 56) rfl (fun h7 => ?_) (fun h7 => ?_)
        · have g7 := h7
          try simp only [decide_eq_true_eq, decide_eq_false_iff_not, Bool.not_eq_true', Bool.not_eq_false', ne_eq, Decidable.not_not, Int.not_lt, Int.not_le] at g7
          refine dskip hR (i := 28) (dj := 56) rfl (by kernel_rfl) (fun _ _ _ h => h) rfl rfl h7 A rfl hS ?_; clear A a hR; intro a A hR
          refine dskip hR (i := 29) (dj := 56) rfl (by kernel_rfl) (fun _ _ _ h => h) rfl rfl h7 A rfl hS ?_; clear A a hR; intro a A hR
          refine dskip hR (i := 30) (dj := 56) rfl (by kernel_rfl) (fun _ _ _ h => h) rfl rfl h7 A rfl hS ?_; clear A a hR; intro a A hR
          refine dskipU hR (i := 31) (dj := 59) rfl (by kernel_rfl) (fun _ _ _ h => h) rfl rfl A rfl hS ?_; clear A a hR; intro a A hR
          refine dskipU hR (i := 32) (dj := 59) rfl (by kernel_rfl) (fun _ _ _ h => h) rfl rfl A rfl hS ?_; clear A a hR; intro a A hR
          refine dskip hR (i := 33) (dj := 56) rfl (by kernel_rfl) (fun _ _ _ h => h) rfl rfl h7 A rfl hS ?_; clear A a hR; intro a A hR
          refine dstep hR (i := 34) rfl (by kernel_rfl) (fun _ _ _ h => h) (fun _ _ H' => (Runs.pickT A rfl h7 rfl)) A rfl hS ?_; clear A a hR; intro a A hR
          exact key5 _ (Fr.with1 (Fr.suf A rfl) A rfl (by first | rfl | (simp [*]; done))) hR
        · have g7 := h7
          try simp only [decide_eq_true_eq, decide_eq_false_iff_not, Bool.not_eq_true', Bool.not_eq_false', ne_eq, Decidable.not_not, Int.not_lt, Int.not_le] at g7
          refine dstepG hR (i := 28) (dj := 56) rfl (by kernel_rfl) (fun _ _ _ h => h) rfl rfl h7 (fun _ _ H' => (Runs.move A rfl)) A rfl hS ?_; clear A a hR; intro a A hR
          refine dstepG hR (i := 29) (dj := 56) rfl (by kernel_rfl) (fun _ _ _ h => h) rfl rfl h7 (fun _ _ H' => (Runs.geq A rfl rfl)) A rfl hS ?_; clear A a hR; intro a A hR
          refine dstepG hR (i := 30) (dj := 56) rfl (by kernel_rfl) (fun _ _ _ h => h) rfl rfl h7 (fun _ _ H' => (Runs.move A rfl)) A rfl hS ?_; clear A a hR; intro a A hR
          refine onBool A (dj := 59) rfl (fun h8 => ?_) (fun h8 => ?_)
          · have g8 := h8
            try simp only [decide_eq_true_eq, decide_eq_false_iff_not, Bool.not_eq_true', Bool.not_eq_false', ne_eq, Decidable.not_not, Int.not_lt, Int.not_le] at g8
            refine dstepG hR (i := 31) (dj := 59) rfl (by kernel_rfl) (fun _ _ _ h => h) rfl rfl h8 (fun _ _ H' => (Runs.move A rfl)) A rfl hS ?_; clear A a hR; intro a A hR
            refine dstepG hR (i := 32) (dj := 59) rfl (by kernel_rfl) (fun _ _ _ h => h) rfl rfl h8 (fun _ _ H' => (Runs.not A rfl)) A rfl hS ?_; clear A a hR; intro a A hR
            refine dstepG hR (i := 33) (dj := 56) rfl (by kernel_rfl) (fun _ _ _ h => h) rfl rfl h7 (fun _ _ H' => (Runs.pickT A rfl h8 rfl)) A rfl hS ?_; clear A a hR; intro a A hR
            refine dstep hR (i := 34) rfl (by kernel_rfl) (fun _ _ _ h => h) (fun _ _ H' => (Runs.pickF A rfl h7 rfl)) A rfl hS ?_; clear A a hR; intro a A hR
            exact key5 _ (Fr.with1 (Fr.suf A rfl) A rfl (by first | rfl | (simp [*]; done))) hR
          · have g8 := h8
            try simp only [decide_eq_true_eq, decide_eq_false_iff_not, Bool.not_eq_true', Bool.not_eq_false', ne_eq, Decidable.not_not, Int.not_lt, Int.not_le] at g8
            refine dskip hR (i := 31) (dj := 59) rfl (by kernel_rfl) (fun _ _ _ h => h) rfl rfl h8 A rfl hS ?_; clear A a hR; intro a A hR
            refine dskip hR (i := 32) (dj := 59) rfl (by kernel_rfl) (fun _ _ _ h => h) rfl rfl h8 A rfl hS ?_; clear A a hR; intro a A hR
            refine dstepG hR (i := 33) (dj := 56) rfl (by kernel_rfl) (fun _ _ _ h => h) rfl rfl h7 (fun _ _ H' => (Runs.pickF A rfl h8 rfl)) A rfl hS ?_; clear A a hR; intro a A hR
            refine dstep hR (i := 34) rfl (by kernel_rfl) (fun _ _ _ h => h) (fun _ _ H' => (Runs.pickF A rfl h7 rfl)) A rfl hS ?_; clear A a hR; intro a A hR
            exact key5 _ (Fr.with1 (Fr.suf A rfl) A rfl (by first | rfl | (simp [*]; done))) hR
      clear A hR; intro a A hR
      refine dlist hR (i := 37) rfl (by kernel_rfl) ?_
      have hR := hR.next (i := 37) (by kernel_rfl)
      refine step_callF A rfl rfl (c_syntax_absent (e := i.b) (ad := p.ab) (c := p.cb)) H ?_
      rintro v5_37 a w m hm rfl A H
      have hM := hM.trans hm
      have G := G.mono hm
      have hI := hI.mono hm
      have hL := hL.trans hm
      refine wpList_nil ?_
      clear hS; refine and_keep (H.sw hL) fun hS => ?_
      refine dstep hR (i := 38) rfl (by kernel_rfl) (fun _ _ _ h => h) (fun _ _ H' => (Runs.move A rfl)) A rfl hS ?_; clear A a hR; intro a A hR
      refine joinD 30 [40, 39, 38, 37, 34, 33, 32, 31, 30, 29, 28, 27, 26, 23, 22, 21, 20, 17, 16, 15, 14, 13, 12, 11, 10, 7, 6, 5, 4, 3, 62, 61, 60, 53, 52, 51, 50, 45, 44, 36, 35, 25, 24, 19, 18, 9, 8, 2, 1, 0] (fun F => (69, .bool (absentB i.b || decide (i.kind = 6))) :: F) A (fun key6 => ?_) ?_
      · refine onBool A (dj := 67) rfl (fun h9 => ?_) (fun h9 => ?_)
        · have g9 := h9
          try simp only [decide_eq_true_eq, decide_eq_false_iff_not, Bool.not_eq_true', Bool.not_eq_false', ne_eq, Decidable.not_not, Int.not_lt, Int.not_le] at g9
          refine dskip hR (i := 39) (dj := 67) rfl (by kernel_rfl) (fun _ _ _ h => h) rfl rfl h9 A rfl hS ?_; clear A a hR; intro a A hR
          refine dstep hR (i := 40) rfl (by kernel_rfl) (fun _ _ _ h => h) (fun _ _ H' => (Runs.pickT A rfl h9 rfl)) A rfl hS ?_; clear A a hR; intro a A hR
          exact key6 _ (Fr.with1 (Fr.suf A rfl) A rfl (by first | rfl | (simp [*]; done))) hR
        · have g9 := h9
          try simp only [decide_eq_true_eq, decide_eq_false_iff_not, Bool.not_eq_true', Bool.not_eq_false', ne_eq, Decidable.not_not, Int.not_lt, Int.not_le] at g9
          refine dstepG hR (i := 39) (dj := 67) rfl (by kernel_rfl) (fun _ _ _ h => h) rfl rfl h9 (fun _ _ H' => (Runs.move A rfl)) A rfl hS ?_; clear A a hR; intro a A hR
          refine dstep hR (i := 40) rfl (by kernel_rfl) (fun _ _ _ h => h) (fun _ _ H' => (Runs.pickF A rfl h9 rfl)) A rfl hS ?_; clear A a hR; intro a A hR
          exact key6 _ (Fr.with1 (Fr.suf A rfl) A rfl (by first | rfl | (simp [*]; done))) hR
      clear A hR; intro a A hR
      refine dstep hR (i := 41) rfl (by kernel_rfl) (fun _ _ _ h => h) (fun _ _ H' => (Runs.move A rfl)) A rfl hS ?_; clear A a hR; intro a A hR
      refine joinD 27 [43, 42, 41, 40, 39, 38, 37, 34, 33, 32, 31, 30, 29, 28, 27, 26, 23, 22, 21, 20, 17, 16, 15, 14, 13, 12, 11, 10, 7, 6, 5, 4, 3, 62, 61, 60, 53, 52, 51, 50, 45, 44, 36, 35, 25, 24, 19, 18, 9, 8, 2, 1, 0] (fun F => (72, .bool ((absentB i.b || decide (i.kind = 6)) || decide (i.kind = 8))) :: F) A (fun key7 => ?_) ?_
      · refine onBool A (dj := 70) rfl (fun h10 => ?_) (fun h10 => ?_)
        · have g10 := h10
          try simp only [decide_eq_true_eq, decide_eq_false_iff_not, Bool.not_eq_true', Bool.not_eq_false', ne_eq, Decidable.not_not, Int.not_lt, Int.not_le] at g10
          refine dskip hR (i := 42) (dj := 70) rfl (by kernel_rfl) (fun _ _ _ h => h) rfl rfl h10 A rfl hS ?_; clear A a hR; intro a A hR
          refine dstep hR (i := 43) rfl (by kernel_rfl) (fun _ _ _ h => h) (fun _ _ H' => (Runs.pickT A rfl h10 rfl)) A rfl hS ?_; clear A a hR; intro a A hR
          exact key7 _ (Fr.with1 (Fr.suf A rfl) A rfl (by first | rfl | (simp [*]; done))) hR
        · have g10 := h10
          try simp only [decide_eq_true_eq, decide_eq_false_iff_not, Bool.not_eq_true', Bool.not_eq_false', ne_eq, Decidable.not_not, Int.not_lt, Int.not_le] at g10
          refine dstepG hR (i := 42) (dj := 70) rfl (by kernel_rfl) (fun _ _ _ h => h) rfl rfl h10 (fun _ _ H' => (Runs.move A rfl)) A rfl hS ?_; clear A a hR; intro a A hR
          refine dstep hR (i := 43) rfl (by kernel_rfl) (fun _ _ _ h => h) (fun _ _ H' => (Runs.pickF A rfl h10 rfl)) A rfl hS ?_; clear A a hR; intro a A hR
          exact key7 _ (Fr.with1 (Fr.suf A rfl) A rfl (by first | rfl | (simp [*]; done))) hR
      clear A hR; intro a A hR
      refine dlist hR (i := 46) rfl (by kernel_rfl) ?_
      have hR := hR.next (i := 46) (by kernel_rfl)
      refine step_callF A rfl rfl (c_syntax_absent (e := i.c) (ad := p.ac) (c := p.cc)) H ?_
      rintro v5_46 a w m hm rfl A H
      have hM := hM.trans hm
      have G := G.mono hm
      have hI := hI.mono hm
      have hL := hL.trans hm
      refine wpList_nil ?_
      clear hS; refine and_keep (H.sw hL) fun hS => ?_
      refine dstep hR (i := 47) rfl (by kernel_rfl) (fun _ _ _ h => h) (fun _ _ H' => (Runs.move A rfl)) A rfl hS ?_; clear A a hR; intro a A hR
      have er : eqL [.int .i64 i.rule.kind, .string i.rule.src, .int .i64 i.rule.n] [.int .i64 0, .string ⟨#[]⟩, .int .i64 0] = ruleB i.rule := by simp [ruleB, eqL, eqV]
      rw [er] at A
      refine dstep hR (i := 54) rfl (by kernel_rfl) (fun _ _ _ h => h) (fun _ _ H' => (Runs.move A rfl)) A rfl hS ?_; clear A a hR; intro a A hR
      refine joinD 22 [49, 48, 54, 47, 46, 43, 42, 41, 40, 39, 38, 37, 34, 33, 32, 31, 30, 29, 28, 27, 26, 23, 22, 21, 20, 17, 16, 15, 14, 13, 12, 11, 10, 7, 6, 5, 4, 3, 62, 61, 60, 53, 52, 51, 50, 45, 44, 36, 35, 25, 24, 19, 18, 9, 8, 2, 1, 0] (fun F => (78, .bool (absentB i.c || decide (i.kind = 6))) :: F) A (fun key8 => ?_) ?_
      · refine onBool A (dj := 76) rfl (fun h11 => ?_) (fun h11 => ?_)
        · have g11 := h11
          try simp only [decide_eq_true_eq, decide_eq_false_iff_not, Bool.not_eq_true', Bool.not_eq_false', ne_eq, Decidable.not_not, Int.not_lt, Int.not_le] at g11
          refine dskip hR (i := 48) (dj := 76) rfl (by kernel_rfl) (fun _ _ _ h => h) rfl rfl h11 A rfl hS ?_; clear A a hR; intro a A hR
          refine dstep hR (i := 49) rfl (by kernel_rfl) (fun _ _ _ h => h) (fun _ _ H' => (Runs.pickT A rfl h11 rfl)) A rfl hS ?_; clear A a hR; intro a A hR
          exact key8 _ (Fr.with1 (Fr.suf A rfl) A rfl (by first | rfl | (simp [*]; done))) hR
        · have g11 := h11
          try simp only [decide_eq_true_eq, decide_eq_false_iff_not, Bool.not_eq_true', Bool.not_eq_false', ne_eq, Decidable.not_not, Int.not_lt, Int.not_le] at g11
          refine dstepG hR (i := 48) (dj := 76) rfl (by kernel_rfl) (fun _ _ _ h => h) rfl rfl h11 (fun _ _ H' => (Runs.move A rfl)) A rfl hS ?_; clear A a hR; intro a A hR
          refine dstep hR (i := 49) rfl (by kernel_rfl) (fun _ _ _ h => h) (fun _ _ H' => (Runs.pickF A rfl h11 rfl)) A rfl hS ?_; clear A a hR; intro a A hR
          exact key8 _ (Fr.with1 (Fr.suf A rfl) A rfl (by first | rfl | (simp [*]; done))) hR
      clear A hR; intro a A hR
      refine joinD 20 [56, 55, 49, 48, 54, 47, 46, 43, 42, 41, 40, 39, 38, 37, 34, 33, 32, 31, 30, 29, 28, 27, 26, 23, 22, 21, 20, 17, 16, 15, 14, 13, 12, 11, 10, 7, 6, 5, 4, 3, 62, 61, 60, 53, 52, 51, 50, 45, 44, 36, 35, 25, 24, 19, 18, 9, 8, 2, 1, 0] (fun F => (85, .bool (ruleB i.rule || decide (i.kind = 4))) :: F) A (fun key9 => ?_) ?_
      · refine onBool A (dj := 83) rfl (fun h12 => ?_) (fun h12 => ?_)
        · have g12 := h12
          try simp only [decide_eq_true_eq, decide_eq_false_iff_not, Bool.not_eq_true', Bool.not_eq_false', ne_eq, Decidable.not_not, Int.not_lt, Int.not_le] at g12
          refine dskip hR (i := 55) (dj := 83) rfl (by kernel_rfl) (fun _ _ _ h => h) rfl rfl h12 A rfl hS ?_; clear A a hR; intro a A hR
          refine dstep hR (i := 56) rfl (by kernel_rfl) (fun _ _ _ h => h) (fun _ _ H' => (Runs.pickT A rfl h12 rfl)) A rfl hS ?_; clear A a hR; intro a A hR
          exact key9 _ (Fr.with1 (Fr.suf A rfl) A rfl (by first | rfl | (simp [*]; done))) hR
        · have g12 := h12
          try simp only [decide_eq_true_eq, decide_eq_false_iff_not, Bool.not_eq_true', Bool.not_eq_false', ne_eq, Decidable.not_not, Int.not_lt, Int.not_le] at g12
          refine dstepG hR (i := 55) (dj := 83) rfl (by kernel_rfl) (fun _ _ _ h => h) rfl rfl h12 (fun _ _ H' => (Runs.move A rfl)) A rfl hS ?_; clear A a hR; intro a A hR
          refine dstep hR (i := 56) rfl (by kernel_rfl) (fun _ _ _ h => h) (fun _ _ H' => (Runs.pickF A rfl h12 rfl)) A rfl hS ?_; clear A a hR; intro a A hR
          exact key9 _ (Fr.with1 (Fr.suf A rfl) A rfl (by first | rfl | (simp [*]; done))) hR
      clear A hR; intro a A hR
      refine dstep hR (i := 57) rfl (by kernel_rfl) (fun _ _ _ h => h) (fun _ _ H' => (Runs.move A rfl)) A rfl hS ?_; clear A a hR; intro a A hR
      refine dstep hR (i := 63) rfl (by kernel_rfl) (fun _ _ _ h => h) (fun _ _ H' => (Runs.move A rfl)) A rfl hS ?_; clear A a hR; intro a A hR
      refine joinD 16 [59, 58, 63, 57, 56, 55, 49, 48, 54, 47, 46, 43, 42, 41, 40, 39, 38, 37, 34, 33, 32, 31, 30, 29, 28, 27, 26, 23, 22, 21, 20, 17, 16, 15, 14, 13, 12, 11, 10, 7, 6, 5, 4, 3, 62, 61, 60, 53, 52, 51, 50, 45, 44, 36, 35, 25, 24, 19, 18, 9, 8, 2, 1, 0] (fun F => (88, .bool ((ruleB i.rule || decide (i.kind = 4)) || decide (i.kind = 6))) :: F) A (fun key10 => ?_) ?_
      · refine onBool A (dj := 86) rfl (fun h13 => ?_) (fun h13 => ?_)
        · have g13 := h13
          try simp only [decide_eq_true_eq, decide_eq_false_iff_not, Bool.not_eq_true', Bool.not_eq_false', ne_eq, Decidable.not_not, Int.not_lt, Int.not_le] at g13
          refine dskip hR (i := 58) (dj := 86) rfl (by kernel_rfl) (fun _ _ _ h => h) rfl rfl h13 A rfl hS ?_; clear A a hR; intro a A hR
          refine dstep hR (i := 59) rfl (by kernel_rfl) (fun _ _ _ h => h) (fun _ _ H' => (Runs.pickT A rfl h13 rfl)) A rfl hS ?_; clear A a hR; intro a A hR
          exact key10 _ (Fr.with1 (Fr.suf A rfl) A rfl (by first | rfl | (simp [*]; done))) hR
        · have g13 := h13
          try simp only [decide_eq_true_eq, decide_eq_false_iff_not, Bool.not_eq_true', Bool.not_eq_false', ne_eq, Decidable.not_not, Int.not_lt, Int.not_le] at g13
          refine dstepG hR (i := 58) (dj := 86) rfl (by kernel_rfl) (fun _ _ _ h => h) rfl rfl h13 (fun _ _ H' => (Runs.move A rfl)) A rfl hS ?_; clear A a hR; intro a A hR
          refine dstep hR (i := 59) rfl (by kernel_rfl) (fun _ _ _ h => h) (fun _ _ H' => (Runs.pickF A rfl h13 rfl)) A rfl hS ?_; clear A a hR; intro a A hR
          exact key10 _ (Fr.with1 (Fr.suf A rfl) A rfl (by first | rfl | (simp [*]; done))) hR
      clear A hR; intro a A hR
      refine joinD 11 [68, 67, 66, 65, 64, 59, 58, 63, 57, 56, 55, 49, 48, 54, 47, 46, 43, 42, 41, 40, 39, 38, 37, 34, 33, 32, 31, 30, 29, 28, 27, 26, 23, 22, 21, 20, 17, 16, 15, 14, 13, 12, 11, 10, 7, 6, 5, 4, 3, 62, 61, 60, 53, 52, 51, 50, 45, 44, 36, 35, 25, 24, 19, 18, 9, 8, 2, 1, 0] (fun F => (97, .bool (decide (i.of_ = ⟨#[]⟩) && decide (i.args.length = 0))) :: F) A (fun key11 => ?_) ?_
      · refine onBool A (dj := 92) rfl (fun h14 => ?_) (fun h14 => ?_)
        · have g14 := h14
          try simp only [decide_eq_true_eq, decide_eq_false_iff_not, Bool.not_eq_true', Bool.not_eq_false', ne_eq, Decidable.not_not, Int.not_lt, Int.not_le] at g14
          refine dstepG hR (i := 64) (dj := 92) rfl (by kernel_rfl) (fun _ _ _ h => h) rfl rfl h14 (fun _ _ H' => (Runs.fa A rfl)) A rfl hS ?_; clear A a hR; intro a A hR
          refine dstepG hR (i := 65) (dj := 92) rfl (by kernel_rfl) (fun _ _ _ h => h) rfl rfl h14 (fun _ _ H' => (Runs.ld1 A H' rfl rfl)) A rfl hS ?_; clear A a hR; intro a A hR
          refine dstepG hR (i := 66) (dj := 92) rfl (by kernel_rfl) (fun _ _ _ h => h) rfl rfl h14 (fun _ _ H' => (Runs.lenL A rfl SlC.h)) A rfl hS ?_; clear A a hR; intro a A hR
          refine dstepG hR (i := 67) (dj := 92) rfl (by kernel_rfl) (fun _ _ _ h => h) rfl rfl h14 (fun _ _ H' => (Runs.eql A rfl rfl)) A rfl hS ?_; clear A a hR; intro a A hR
          refine dstep hR (i := 68) rfl (by kernel_rfl) (fun _ _ _ h => h) (fun _ _ H' => (Runs.pickT A rfl h14 rfl)) A rfl hS ?_; clear A a hR; intro a A hR
          exact key11 _ (Fr.with1 (Fr.suf A rfl) A rfl (by first | rfl | (simp [*]; done))) hR
        · have g14 := h14
          try simp only [decide_eq_true_eq, decide_eq_false_iff_not, Bool.not_eq_true', Bool.not_eq_false', ne_eq, Decidable.not_not, Int.not_lt, Int.not_le] at g14
          refine dskip hR (i := 64) (dj := 92) rfl (by kernel_rfl) (fun _ _ _ h => h) rfl rfl h14 A rfl hS ?_; clear A a hR; intro a A hR
          refine dskip hR (i := 65) (dj := 92) rfl (by kernel_rfl) (fun _ _ _ h => h) rfl rfl h14 A rfl hS ?_; clear A a hR; intro a A hR
          refine dskip hR (i := 66) (dj := 92) rfl (by kernel_rfl) (fun _ _ _ h => h) rfl rfl h14 A rfl hS ?_; clear A a hR; intro a A hR
          refine dskip hR (i := 67) (dj := 92) rfl (by kernel_rfl) (fun _ _ _ h => h) rfl rfl h14 A rfl hS ?_; clear A a hR; intro a A hR
          refine dstep hR (i := 68) rfl (by kernel_rfl) (fun _ _ _ h => h) (fun _ _ H' => (Runs.pickF A rfl h14 rfl)) A rfl hS ?_; clear A a hR; intro a A hR
          exact key11 _ (Fr.with1 (Fr.suf A rfl) A rfl (by first | rfl | (simp [*]; done))) hR
      clear A hR; intro a A hR
      refine dstep hR (i := 69) rfl (by kernel_rfl) (fun _ _ _ h => h) (fun _ _ H' => (Runs.move A rfl)) A rfl hS ?_; clear A a hR; intro a A hR
      refine joinD 5 [74, 73, 72, 71, 70, 69, 68, 67, 66, 65, 64, 59, 58, 63, 57, 56, 55, 49, 48, 54, 47, 46, 43, 42, 41, 40, 39, 38, 37, 34, 33, 32, 31, 30, 29, 28, 27, 26, 23, 22, 21, 20, 17, 16, 15, 14, 13, 12, 11, 10, 7, 6, 5, 4, 3, 62, 61, 60, 53, 52, 51, 50, 45, 44, 36, 35, 25, 24, 19, 18, 9, 8, 2, 1, 0] (fun F => (103, .bool ((decide (i.of_ = ⟨#[]⟩) && decide (i.args.length = 0)) && decide (i.ports.length = 0))) :: F) A (fun key12 => ?_) ?_
      · refine onBool A (dj := 98) rfl (fun h15 => ?_) (fun h15 => ?_)
        · have g15 := h15
          try simp only [decide_eq_true_eq, decide_eq_false_iff_not, Bool.not_eq_true', Bool.not_eq_false', ne_eq, Decidable.not_not, Int.not_lt, Int.not_le] at g15
          refine dstepG hR (i := 70) (dj := 98) rfl (by kernel_rfl) (fun _ _ _ h => h) rfl rfl h15 (fun _ _ H' => (Runs.fa A rfl)) A rfl hS ?_; clear A a hR; intro a A hR
          refine dstepG hR (i := 71) (dj := 98) rfl (by kernel_rfl) (fun _ _ _ h => h) rfl rfl h15 (fun _ _ H' => (Runs.ld1 A H' rfl rfl)) A rfl hS ?_; clear A a hR; intro a A hR
          refine dstepG hR (i := 72) (dj := 98) rfl (by kernel_rfl) (fun _ _ _ h => h) rfl rfl h15 (fun _ _ H' => (Runs.lenL A rfl SlC.h)) A rfl hS ?_; clear A a hR; intro a A hR
          refine dstepG hR (i := 73) (dj := 98) rfl (by kernel_rfl) (fun _ _ _ h => h) rfl rfl h15 (fun _ _ H' => (Runs.eql A rfl rfl)) A rfl hS ?_; clear A a hR; intro a A hR
          refine dstep hR (i := 74) rfl (by kernel_rfl) (fun _ _ _ h => h) (fun _ _ H' => (Runs.pickT A rfl h15 rfl)) A rfl hS ?_; clear A a hR; intro a A hR
          exact key12 _ (Fr.with1 (Fr.suf A rfl) A rfl (by rw [(by assumption : (decide (i.of_ = ⟨#[]⟩) && decide (i.args.length = 0)) = true)]; simp)) hR
        · have g15 := h15
          try simp only [decide_eq_true_eq, decide_eq_false_iff_not, Bool.not_eq_true', Bool.not_eq_false', ne_eq, Decidable.not_not, Int.not_lt, Int.not_le] at g15
          refine dskip hR (i := 70) (dj := 98) rfl (by kernel_rfl) (fun _ _ _ h => h) rfl rfl h15 A rfl hS ?_; clear A a hR; intro a A hR
          refine dskip hR (i := 71) (dj := 98) rfl (by kernel_rfl) (fun _ _ _ h => h) rfl rfl h15 A rfl hS ?_; clear A a hR; intro a A hR
          refine dskip hR (i := 72) (dj := 98) rfl (by kernel_rfl) (fun _ _ _ h => h) rfl rfl h15 A rfl hS ?_; clear A a hR; intro a A hR
          refine dskip hR (i := 73) (dj := 98) rfl (by kernel_rfl) (fun _ _ _ h => h) rfl rfl h15 A rfl hS ?_; clear A a hR; intro a A hR
          refine dstep hR (i := 74) rfl (by kernel_rfl) (fun _ _ _ h => h) (fun _ _ H' => (Runs.pickF A rfl h15 rfl)) A rfl hS ?_; clear A a hR; intro a A hR
          exact key12 _ (Fr.with1 (Fr.suf A rfl) A rfl (by rw [(by assumption : (decide (i.of_ = ⟨#[]⟩) && decide (i.args.length = 0)) = false)]; simp)) hR
      clear A hR; intro a A hR
      refine dstep hR (i := 75) rfl (by kernel_rfl) (fun _ _ _ h => h) (fun _ _ H' => (Runs.move A rfl)) A rfl hS ?_; clear A a hR; intro a A hR
      refine joinD 2 [77, 76, 75, 74, 73, 72, 71, 70, 69, 68, 67, 66, 65, 64, 59, 58, 63, 57, 56, 55, 49, 48, 54, 47, 46, 43, 42, 41, 40, 39, 38, 37, 34, 33, 32, 31, 30, 29, 28, 27, 26, 23, 22, 21, 20, 17, 16, 15, 14, 13, 12, 11, 10, 7, 6, 5, 4, 3, 62, 61, 60, 53, 52, 51, 50, 45, 44, 36, 35, 25, 24, 19, 18, 9, 8, 2, 1, 0] (fun F => (106, .bool (((decide (i.of_ = ⟨#[]⟩) && decide (i.args.length = 0)) && decide (i.ports.length = 0)) || decide (i.kind = 9))) :: F) A (fun key13 => ?_) ?_
      · refine onBool A (dj := 104) rfl (fun h16 => ?_) (fun h16 => ?_)
        · have g16 := h16
          try simp only [decide_eq_true_eq, decide_eq_false_iff_not, Bool.not_eq_true', Bool.not_eq_false', ne_eq, Decidable.not_not, Int.not_lt, Int.not_le] at g16
          refine dskip hR (i := 76) (dj := 104) rfl (by kernel_rfl) (fun _ _ _ h => h) rfl rfl h16 A rfl hS ?_; clear A a hR; intro a A hR
          refine dstep hR (i := 77) rfl (by kernel_rfl) (fun _ _ _ h => h) (fun _ _ H' => (Runs.pickT A rfl h16 rfl)) A rfl hS ?_; clear A a hR; intro a A hR
          exact key13 _ (Fr.with1 (Fr.suf A rfl) A rfl (by rw [(by assumption : ((decide (i.of_ = ⟨#[]⟩) && decide (i.args.length = 0)) && decide (i.ports.length = 0)) = true)]; rfl)) hR
        · have g16 := h16
          try simp only [decide_eq_true_eq, decide_eq_false_iff_not, Bool.not_eq_true', Bool.not_eq_false', ne_eq, Decidable.not_not, Int.not_lt, Int.not_le] at g16
          refine dstepG hR (i := 76) (dj := 104) rfl (by kernel_rfl) (fun _ _ _ h => h) rfl rfl h16 (fun _ _ H' => (Runs.move A rfl)) A rfl hS ?_; clear A a hR; intro a A hR
          refine dstep hR (i := 77) rfl (by kernel_rfl) (fun _ _ _ h => h) (fun _ _ H' => (Runs.pickF A rfl h16 rfl)) A rfl hS ?_; clear A a hR; intro a A hR
          exact key13 _ (Fr.with1 (Fr.suf A rfl) A rfl (by rw [(by assumption : ((decide (i.of_ = ⟨#[]⟩) && decide (i.args.length = 0)) && decide (i.ports.length = 0)) = false)]; rfl)) hR
      clear A hR; intro a A hR
      refine dlist hR (i := 78) rfl (by kernel_rfl) ?_
      have hR := hR.next (i := 78) (by kernel_rfl)
      refine step_slice A H rfl rfl rfl rfl rfl rfl ?_; intro bz a w A H
      refine wpList_nil ?_
      clear hS; refine and_keep (H.sw hL) fun hS => ?_
      refine dlist hR (i := 79) rfl (by kernel_rfl) ?_
      have hR := hR.next (i := 79) (by kernel_rfl)
      refine step_callPr A rfl rfl (c_syntax_printer_zero (bz := bz) (l := [(noneB i.width || decide (i.kind ≤ 6)), ((noneB i.depth || decide (i.kind = 3)) || decide (i.kind = 6)), (noneB i.init || decide (i.kind = 4)), (absentB i.a || (decide (4 ≤ i.kind) && !decide (i.kind = 9))), ((absentB i.b || decide (i.kind = 6)) || decide (i.kind = 8)), (absentB i.c || decide (i.kind = 6)), ((ruleB i.rule || decide (i.kind = 4)) || decide (i.kind = 6)), (((decide (i.of_ = ⟨#[]⟩) && decide (i.args.length = 0)) && decide (i.ports.length = 0)) || decide (i.kind = 9))]) (bcs := [.bool (noneB i.width || decide (i.kind ≤ 6)), .bool ((noneB i.depth || decide (i.kind = 3)) || decide (i.kind = 6)), .bool (noneB i.init || decide (i.kind = 4)), .bool (absentB i.a || (decide (4 ≤ i.kind) && !decide (i.kind = 9))), .bool ((absentB i.b || decide (i.kind = 6)) || decide (i.kind = 8)), .bool (absentB i.c || decide (i.kind = 6)), .bool ((ruleB i.rule || decide (i.kind = 4)) || decide (i.kind = 6)), .bool (((decide (i.of_ = ⟨#[]⟩) && decide (i.args.length = 0)) && decide (i.ports.length = 0)) || decide (i.kind = 9))]) rfl rfl (by simp)) H (by omega) ?_
      clear A a; rintro v5_79 a w m hm rfl A H
      simp only [List.cons_append, List.nil_append] at H
      have hM := hM.trans hm
      have G := G.mono hm
      have hI := hI.mono hm
      have H := H.pr_at (b := b) (y := andOk (itemOk i) x) (by simp [andOk, itemOk, Bool.or_assoc, Bool.and_assoc])
      have hL := hL.trans hm
      refine wpList_nil ?_
      clear hS; refine and_keep (H.sw hL) fun hS => ?_
      refine draw_done hR (by kernel_rfl) ?_
      clear hS hL hR
      refine wp_seq ?_
      refine draw_begin (ms := m) (Ls := [pt b3 (itC i p) 134, pt b2 [.pointer (some ⟨b, 0, none⟩)] 112]) (by kernel_rfl) (N := 10) rfl (by kernel_rfl) H ?_; clear H; intro w H hR
      have hS : SW m [pt b3 (itC i p) 134, pt b2 [.pointer (some ⟨b, 0, none⟩)] 112] w := H.sw (Le.refl m)
      have hL := Le.refl m
      refine dstep hR (i := 0) rfl (by kernel_rfl) (fun _ _ _ h => h) (fun _ _ H' => (Runs.ld1 A H' rfl rfl)) A rfl hS ?_; clear A a hR; intro a A hR
      refine dstep hR (i := 1) rfl (by kernel_rfl) (fun _ _ _ h => h) (fun _ _ H' => (Runs.nilCheck A rfl)) A rfl hS ?_; clear A a hR; intro a A hR
      refine dstep hR (i := 2) rfl (by kernel_rfl) (fun _ _ _ h => h) (fun _ _ H' => (Runs.fa A rfl)) A rfl hS ?_; clear A a hR; intro a A hR
      refine dstep hR (i := 4) rfl (by kernel_rfl) (fun _ _ _ h => h) (fun _ _ H' => (Runs.move A rfl)) A rfl hS ?_; clear A a hR; intro a A hR
      refine dstep hR (i := 5) rfl (by kernel_rfl) (fun _ _ _ h => h) (fun _ _ H' => (Runs.sub A rfl rfl (by omega))) A rfl hS ?_; clear A a hR; intro a A hR
      refine dlist hR (i := 3) rfl (by kernel_rfl) ?_
      have hR := hR.next (i := 3) (by kernel_rfl)
      refine step_slice A H rfl rfl rfl rfl rfl rfl ?_; intro bk a w A H
      refine wpList_nil ?_
      clear hS; refine and_keep (H.sw hL) fun hS => ?_
      refine dstep hR (i := 6) rfl (by kernel_rfl) (fun _ _ _ h => h) (fun _ _ H' => (Runs.indexAddr A rfl rfl SlC.h (by omega) (by omega))) A rfl hS ?_; clear A a hR; intro a A hR
      refine dlist hR (i := 7) rfl (by kernel_rfl) ?_
      have hR := hR.next (i := 7) (by kernel_rfl)
      refine step (Runs.ld1 A H rfl (kw_at (by omega) (by omega))) A rfl ?_; clear A a; intro a A
      refine wpList_nil ?_
      clear hS; refine and_keep (H.sw hL) fun hS => ?_
      refine dstep hR (i := 8) rfl (by kernel_rfl) (fun _ _ _ h => h) (fun _ _ H' => (Runs.sadd A rfl rfl (by have := kw_size i.kind; change (kwP i.kind).toArray.size + 1 ≤ _; rw [List.size_toArray]; omega))) A rfl hS ?_; clear A a hR; intro a A hR
      refine dlist hR (i := 9) rfl (by kernel_rfl) ?_
      have hR := hR.next (i := 9) (by kernel_rfl)
      refine step_callPr A rfl rfl (c_WriteString 6 (by have := kw_size i.kind; rw [ByteArray.size_append]; change (kwP i.kind).toArray.size + 1 ≤ 6; rw [List.size_toArray]; omega)) H (by omega) ?_
      clear A a; rintro v6_9 a w m hm rfl A H
      simp only [List.cons_append, List.nil_append] at H
      have hM := hM.trans hm
      have G := G.mono hm
      have hI := hI.mono hm
      have H := H.pr_at (b := b) (y := wr (kwP i.kind ++ [32]) (andOk (itemOk i) x)) (by simp [bl])
      have hL := hL.trans hm
      refine wpList_nil ?_
      clear hS; refine and_keep (H.sw hL) fun hS => ?_
      refine draw_done hR (by kernel_rfl) ?_
      clear hS hL hR
      refine wp_seq ?_
      refine wp_region_lit ?_
      refine step (Runs.ld1 A H rfl rfl) A rfl ?_; clear A a; intro a A
      refine step (Runs.fa A rfl) A rfl ?_; clear A a; intro a A
      refine step (Runs.ld1 A H rfl rfl) A rfl ?_; clear A a; intro a A
      refine step_callPr A rfl rfl (c_syntax_printer_name G (by omega)) H (by omega) ?_
      clear A a; rintro v7_3 a w m hm rfl A H
      simp only [List.cons_append, List.nil_append] at H
      have hM := hM.trans hm
      have G := G.mono hm
      have hI := hI.mono hm
      refine wpList_nil ?_
      refine wp_seq ?_
      refine wp_seq ?_
      obtain ⟨y1, hy1⟩ : ∃ y, y = nameP i.name (wr (kwP i.kind ++ [32]) (andOk (itemOk i) x)) := ⟨_, rfl⟩
      rw [← hy1] at H
      refine wp_region_lit ?_
      refine step (Runs.move A rfl) A rfl ?_; clear A a; intro a A
      refine step (Runs.leq A rfl rfl) A rfl ?_; clear A a; intro a A
      refine wpList_nil ?_
      refine joinC (fun F => F) (prR b (if i.kind ≤ 6 then numP i.width (wr [58, 32] y1) else y1) (B + 100 + i.name.size + i.width.p.size) :: pt b3 (itC i p) 134 :: pt b2 [.pointer (some ⟨b, 0, none⟩)] 112 :: Lf) A H (fun key14 => ?_) ?_
      · have hJ14 := Le.refl m
        refine cond_split A rfl (fun h17 => ?_) (fun h17 => ?_)
        · have g17 := h17
          try simp only [decide_eq_true_eq, decide_eq_false_iff_not, Bool.not_eq_true', Bool.not_eq_false', ne_eq, Decidable.not_not, Int.not_lt, Int.not_le] at g17
          refine wp_seq ?_
          refine wp_region_lit ?_
          refine step (Runs.ld1 A H rfl rfl) A rfl ?_; clear A a; intro a A
          refine step (Runs.nilCheck A rfl) A rfl ?_; clear A a; intro a A
          refine step (Runs.fa A rfl) A rfl ?_; clear A a; intro a A
          refine step_callPr A rfl rfl (c_WriteString 2 (by decide)) H (by omega) ?_
          clear A a; rintro v9_3 a w m hm rfl A H
          simp only [List.cons_append, List.nil_append] at H
          have hM := hM.trans hm
          have hJ14 := hJ14.trans hm
          have G := G.mono hm
          have hI := hI.mono hm
          refine wpList_nil ?_
          refine wp_region_lit ?_
          refine step (Runs.ld1 A H rfl rfl) A rfl ?_; clear A a; intro a A
          refine step (Runs.fa A rfl) A rfl ?_; clear A a; intro a A
          refine step (Runs.ldN A H rfl rfl) A rfl ?_; clear A a; intro a A
          refine step_callPr A rfl rfl (c_syntax_printer_num (z := i.width) G hI.width) H (by omega) ?_
          clear A a; rintro v10_3 a w m hm rfl A H
          simp only [List.cons_append, List.nil_append] at H
          have hM := hM.trans hm
          have hJ14 := hJ14.trans hm
          have G := G.mono hm
          have hI := hI.mono hm
          refine wpList_nil ?_
          have H := (H.pr_le (b := b) (B' := (B + 100 + i.name.size + i.width.p.size)) (by omega)).pr_at (b := b) (y := (if i.kind ≤ 6 then numP i.width (wr [58, 32] y1) else y1)) (by rw [if_pos (by omega)])
          exact key14 _ _ _ hJ14 (Fr.suf A rfl) H.subH
        · have g17 := h17
          try simp only [decide_eq_true_eq, decide_eq_false_iff_not, Bool.not_eq_true', Bool.not_eq_false', ne_eq, Decidable.not_not, Int.not_lt, Int.not_le] at g17
          refine wp_skip ?_
          have H := (H.pr_le (b := b) (B' := (B + 100 + i.name.size + i.width.p.size)) (by omega)).pr_at (b := b) (y := (if i.kind ≤ 6 then numP i.width (wr [58, 32] y1) else y1)) (by rw [if_neg (by omega)])
          exact key14 _ _ _ hJ14 (Fr.suf A rfl) H.subH
      clear A H; intro a w m hm A H
      have hM := hM.trans hm
      have G := G.mono hm
      have hI := hI.mono hm
      refine wp_seq ?_
      refine wp_seq ?_
      obtain ⟨y2, hy2⟩ : ∃ y, y = (if i.kind ≤ 6 then numP i.width (wr [58, 32] y1) else y1) := ⟨_, rfl⟩
      rw [← hy2] at H
      refine wp_region_lit ?_
      refine step (Runs.move A rfl) A rfl ?_; clear A a; intro a A
      refine step (Runs.eql A rfl rfl) A rfl ?_; clear A a; intro a A
      refine step (Runs.move A rfl) A rfl ?_; clear A a; intro a A
      refine joinSame 2 (fun F => (137, .bool (decide (i.kind = 3) || decide (i.kind = 6))) :: F) A H (fun key15 => ?_) ?_
      · have hJ15 := Le.refl m
        refine onBool A (dj := 135) rfl (fun h18 => ?_) (fun h18 => ?_)
        · have g18 := h18
          try simp only [decide_eq_true_eq, decide_eq_false_iff_not, Bool.not_eq_true', Bool.not_eq_false', ne_eq, Decidable.not_not, Int.not_lt, Int.not_le] at g18
          refine stepSkip (dj := 135) rfl rfl h18 A rfl ?_; clear A a; intro a A
          refine step (Runs.pickT A rfl h18 rfl) A rfl ?_; clear A a; intro a A
          exact key15 _ _ _ hJ15 (Fr.with1 (Fr.suf A rfl) A rfl (by first | rfl | (simp [*]; done))) H.subH
        · have g18 := h18
          try simp only [decide_eq_true_eq, decide_eq_false_iff_not, Bool.not_eq_true', Bool.not_eq_false', ne_eq, Decidable.not_not, Int.not_lt, Int.not_le] at g18
          refine stepG (dj := 135) rfl rfl h18 (Runs.move A rfl) A rfl ?_; clear A a; intro a A
          refine step (Runs.pickF A rfl h18 rfl) A rfl ?_; clear A a; intro a A
          exact key15 _ _ _ hJ15 (Fr.with1 (Fr.suf A rfl) A rfl (by first | rfl | (simp [*]; done))) H.subH
      clear A H; intro a w m hm A H
      have hM := hM.trans hm
      have G := G.mono hm
      have hI := hI.mono hm
      refine wpList_nil ?_
      refine joinC (fun F => F) (prR b (if i.kind = 3 ∨ i.kind = 6 then wr [93] (numP i.depth (wr [32, 91] y2)) else y2) (B + 200 + i.name.size + i.width.p.size + i.depth.p.size) :: pt b3 (itC i p) 134 :: pt b2 [.pointer (some ⟨b, 0, none⟩)] 112 :: Lf) A H (fun key16 => ?_) ?_
      · have hJ16 := Le.refl m
        refine cond_split A rfl (fun h19 => ?_) (fun h19 => ?_)
        · have g19 := h19
          try simp only [decide_eq_true_eq, decide_eq_false_iff_not, Bool.not_eq_true', Bool.not_eq_false', ne_eq, Decidable.not_not, Int.not_lt, Int.not_le] at g19
          refine wp_seq ?_
          refine wp_region_lit ?_
          refine step (Runs.ld1 A H rfl rfl) A rfl ?_; clear A a; intro a A
          refine step (Runs.nilCheck A rfl) A rfl ?_; clear A a; intro a A
          refine step (Runs.fa A rfl) A rfl ?_; clear A a; intro a A
          refine step_callPr A rfl rfl (c_WriteString 2 (by decide)) H (by omega) ?_
          clear A a; rintro v12_3 a w m hm rfl A H
          simp only [List.cons_append, List.nil_append] at H
          have hM := hM.trans hm
          have hJ16 := hJ16.trans hm
          have G := G.mono hm
          have hI := hI.mono hm
          refine wpList_nil ?_
          refine wp_seq ?_
          refine wp_region_lit ?_
          refine step (Runs.ld1 A H rfl rfl) A rfl ?_; clear A a; intro a A
          refine step (Runs.fa A rfl) A rfl ?_; clear A a; intro a A
          refine step (Runs.ldN A H rfl rfl) A rfl ?_; clear A a; intro a A
          refine step_callPr A rfl rfl (c_syntax_printer_num (z := i.depth) G hI.depth) H (by omega) ?_
          clear A a; rintro v13_3 a w m hm rfl A H
          simp only [List.cons_append, List.nil_append] at H
          have hM := hM.trans hm
          have hJ16 := hJ16.trans hm
          have G := G.mono hm
          have hI := hI.mono hm
          refine wpList_nil ?_
          refine wp_region_lit ?_
          refine step (Runs.ld1 A H rfl rfl) A rfl ?_; clear A a; intro a A
          refine step (Runs.nilCheck A rfl) A rfl ?_; clear A a; intro a A
          refine step (Runs.fa A rfl) A rfl ?_; clear A a; intro a A
          refine step_callPr A rfl rfl (c_WriteString 1 (by decide)) H (by omega) ?_
          clear A a; rintro v14_3 a w m hm rfl A H
          simp only [List.cons_append, List.nil_append] at H
          have hM := hM.trans hm
          have hJ16 := hJ16.trans hm
          have G := G.mono hm
          have hI := hI.mono hm
          refine wpList_nil ?_
          have H := (H.pr_le (b := b) (B' := (B + 200 + i.name.size + i.width.p.size + i.depth.p.size)) (by omega)).pr_at (b := b) (y := (if i.kind = 3 ∨ i.kind = 6 then wr [93] (numP i.depth (wr [32, 91] y2)) else y2)) (by rw [if_pos (by simpa using (by assumption : (decide (i.kind = 3) || decide (i.kind = 6)) = true))])
          exact key16 _ _ _ hJ16 (Fr.suf A rfl) H.subH
        · have g19 := h19
          try simp only [decide_eq_true_eq, decide_eq_false_iff_not, Bool.not_eq_true', Bool.not_eq_false', ne_eq, Decidable.not_not, Int.not_lt, Int.not_le] at g19
          refine wp_skip ?_
          have H := (H.pr_le (b := b) (B' := (B + 200 + i.name.size + i.width.p.size + i.depth.p.size)) (by omega)).pr_at (b := b) (y := (if i.kind = 3 ∨ i.kind = 6 then wr [93] (numP i.depth (wr [32, 91] y2)) else y2)) (by rw [if_neg (by simpa using (by assumption : (decide (i.kind = 3) || decide (i.kind = 6)) = false))])
          exact key16 _ _ _ hJ16 (Fr.suf A rfl) H.subH
      clear A H; intro a w m hm A H
      have hM := hM.trans hm
      have G := G.mono hm
      have hI := hI.mono hm
      refine wp_seq ?_
      obtain ⟨y3, hy3⟩ : ∃ y, y = (if i.kind = 3 ∨ i.kind = 6 then wr [93] (numP i.depth (wr [32, 91] y2)) else y2) := ⟨_, rfl⟩
      rw [← hy3] at H
      refine wp_region_lit ?_
      refine step (Runs.makeFunc A rfl) A rfl ?_; clear A a; intro a A
      refine step (Runs.assign A rfl) A rfl ?_; clear A a; intro a A
      refine wpList_nil ?_
      refine wp_seq ?_
      refine wp_seq ?_
      refine wp_region_lit ?_
      refine step (Runs.move A rfl) A rfl ?_; clear A a; intro a A
      refine wpList_nil ?_
      refine joinC (fun F => F) (prR b (if i.kind = 4 then partP [32, 45, 62, 32] i.a (numP i.init (wr [32, 61, 32] y3))
          else if i.kind = 5 then partP [32, 61, 32] i.a y3
          else if i.kind = 6 then partP [32, 61, 32] i.c (partP [32, 97, 116, 32] i.b (partP [32, 105, 102, 32] i.a y3))
          else if i.kind = 7 then partP [32, 105, 102, 32] i.a y3
          else if i.kind = 8 then partP [32, 61, 32] i.b (partP [32, 105, 102, 32] i.a y3)
          else if i.kind = 9 then listP bindP i.ports (wr [32] (listP numP i.args (nameP i.of_ (wr [58, 32] y3))))
          else y3) (B + 400 + i.name.size + i.width.p.size + i.depth.p.size + i.init.p.size + szEx i.a + szEx i.b + szEx i.c + i.of_.size + szNums i.args + szBinds i.ports) :: pt b3 (itC i p) 134 :: pt b2 [.pointer (some ⟨b, 0, none⟩)] 112 :: Lf) A H (fun key17 => ?_) ?_
      · have hJ17 := Le.refl m
        refine wp_block ?_
        refine wp_seq ?_
        refine wp_region_lit ?_
        refine step (Runs.eql A rfl rfl) A rfl ?_; clear A a; intro a A
        refine step (Runs.assign A rfl) A rfl ?_; clear A a; intro a A
        refine wpList_nil ?_
        refine cond_split A rfl (fun h20 => ?_) (fun h20 => ?_)
        · have g20 := h20
          try simp only [decide_eq_true_eq, decide_eq_false_iff_not, Bool.not_eq_true', Bool.not_eq_false', ne_eq, Decidable.not_not, Int.not_lt, Int.not_le] at g20
          refine wp_seq ?_
          refine wp_region_lit ?_
          refine step (Runs.ld1 A H rfl rfl) A rfl ?_; clear A a; intro a A
          refine step (Runs.nilCheck A rfl) A rfl ?_; clear A a; intro a A
          refine step (Runs.fa A rfl) A rfl ?_; clear A a; intro a A
          refine step_callPr A rfl rfl (c_WriteString 3 (by decide)) H (by omega) ?_
          clear A a; rintro v18_3 a w m hm rfl A H
          simp only [List.cons_append, List.nil_append] at H
          have hM := hM.trans hm
          have hJ17 := hJ17.trans hm
          have G := G.mono hm
          have hI := hI.mono hm
          refine wpList_nil ?_
          refine wp_seq ?_
          refine wp_region_lit ?_
          refine step (Runs.ld1 A H rfl rfl) A rfl ?_; clear A a; intro a A
          refine step (Runs.fa A rfl) A rfl ?_; clear A a; intro a A
          refine step (Runs.ldN A H rfl rfl) A rfl ?_; clear A a; intro a A
          refine step_callPr A rfl rfl (c_syntax_printer_num (z := i.init) G hI.init) H (by omega) ?_
          clear A a; rintro v19_3 a w m hm rfl A H
          simp only [List.cons_append, List.nil_append] at H
          have hM := hM.trans hm
          have hJ17 := hJ17.trans hm
          have G := G.mono hm
          have hI := hI.mono hm
          refine wpList_nil ?_
          refine wp_region_lit ?_
          refine step (Runs.move A rfl) A rfl ?_; clear A a; intro a A
          refine step (Runs.fa A rfl) A rfl ?_; clear A a; intro a A
          refine step (Runs.ldN A H rfl rfl) A rfl ?_; clear A a; intro a A
          refine step_cloPr (cap := [.pointer (some ⟨b2, 0, none⟩)]) A rfl rfl rfl (c_item_1 (ks := 4) (b := b) (bw := b2) (e := i.a) (ad := p.aa) (c := p.ca) G hI.a (by decide)) H (by omega) ?_
          clear A a; rintro v20_3 a w m hm rfl A H
          simp only [List.cons_append, List.nil_append] at H
          have hM := hM.trans hm
          have hJ17 := hJ17.trans hm
          have G := G.mono hm
          have hI := hI.mono hm
          refine wpList_nil ?_
          have H := H.perm (List.Perm.cons _ (List.Perm.swap _ _ _))
          have H := (H.pr_le (b := b) (B' := (B + 400 + i.name.size + i.width.p.size + i.depth.p.size + i.init.p.size + szEx i.a + szEx i.b + szEx i.c + i.of_.size + szNums i.args + szBinds i.ports)) (by omega)).pr_at (b := b) (y := (if i.kind = 4 then partP [32, 45, 62, 32] i.a (numP i.init (wr [32, 61, 32] y3))
              else if i.kind = 5 then partP [32, 61, 32] i.a y3
              else if i.kind = 6 then partP [32, 61, 32] i.c (partP [32, 97, 116, 32] i.b (partP [32, 105, 102, 32] i.a y3))
              else if i.kind = 7 then partP [32, 105, 102, 32] i.a y3
              else if i.kind = 8 then partP [32, 61, 32] i.b (partP [32, 105, 102, 32] i.a y3)
              else if i.kind = 9 then listP bindP i.ports (wr [32] (listP numP i.args (nameP i.of_ (wr [58, 32] y3))))
              else y3)) (by simp [*])
          exact key17 _ _ _ hJ17 (Fr.suf A rfl) H.subH
        · have g20 := h20
          try simp only [decide_eq_true_eq, decide_eq_false_iff_not, Bool.not_eq_true', Bool.not_eq_false', ne_eq, Decidable.not_not, Int.not_lt, Int.not_le] at g20
          refine wp_seq ?_
          refine wp_region_lit ?_
          refine step (Runs.eql A rfl rfl) A rfl ?_; clear A a; intro a A
          refine step (Runs.assign A rfl) A rfl ?_; clear A a; intro a A
          refine wpList_nil ?_
          refine cond_split A rfl (fun h21 => ?_) (fun h21 => ?_)
          · have g21 := h21
            try simp only [decide_eq_true_eq, decide_eq_false_iff_not, Bool.not_eq_true', Bool.not_eq_false', ne_eq, Decidable.not_not, Int.not_lt, Int.not_le] at g21
            refine wp_region_lit ?_
            refine step (Runs.move A rfl) A rfl ?_; clear A a; intro a A
            refine step (Runs.fa A rfl) A rfl ?_; clear A a; intro a A
            refine step (Runs.ldN A H rfl rfl) A rfl ?_; clear A a; intro a A
            refine step_cloPr (cap := [.pointer (some ⟨b2, 0, none⟩)]) A rfl rfl rfl (c_item_1 (ks := 4) (b := b) (bw := b2) (e := i.a) (ad := p.aa) (c := p.ca) G hI.a (by decide)) H (by omega) ?_
            clear A a; rintro v22_3 a w m hm rfl A H
            simp only [List.cons_append, List.nil_append] at H
            have hM := hM.trans hm
            have hJ17 := hJ17.trans hm
            have G := G.mono hm
            have hI := hI.mono hm
            refine wpList_nil ?_
            have H := H.perm (List.Perm.cons _ (List.Perm.swap _ _ _))
            have H := (H.pr_le (b := b) (B' := (B + 400 + i.name.size + i.width.p.size + i.depth.p.size + i.init.p.size + szEx i.a + szEx i.b + szEx i.c + i.of_.size + szNums i.args + szBinds i.ports)) (by omega)).pr_at (b := b) (y := (if i.kind = 4 then partP [32, 45, 62, 32] i.a (numP i.init (wr [32, 61, 32] y3))
                else if i.kind = 5 then partP [32, 61, 32] i.a y3
                else if i.kind = 6 then partP [32, 61, 32] i.c (partP [32, 97, 116, 32] i.b (partP [32, 105, 102, 32] i.a y3))
                else if i.kind = 7 then partP [32, 105, 102, 32] i.a y3
                else if i.kind = 8 then partP [32, 61, 32] i.b (partP [32, 105, 102, 32] i.a y3)
                else if i.kind = 9 then listP bindP i.ports (wr [32] (listP numP i.args (nameP i.of_ (wr [58, 32] y3))))
                else y3)) (by simp [*])
            exact key17 _ _ _ hJ17 (Fr.suf A rfl) H.subH
          · have g21 := h21
            try simp only [decide_eq_true_eq, decide_eq_false_iff_not, Bool.not_eq_true', Bool.not_eq_false', ne_eq, Decidable.not_not, Int.not_lt, Int.not_le] at g21
            refine wp_seq ?_
            refine wp_region_lit ?_
            refine step (Runs.eql A rfl rfl) A rfl ?_; clear A a; intro a A
            refine step (Runs.assign A rfl) A rfl ?_; clear A a; intro a A
            refine wpList_nil ?_
            refine cond_split A rfl (fun h22 => ?_) (fun h22 => ?_)
            · have g22 := h22
              try simp only [decide_eq_true_eq, decide_eq_false_iff_not, Bool.not_eq_true', Bool.not_eq_false', ne_eq, Decidable.not_not, Int.not_lt, Int.not_le] at g22
              refine wp_seq ?_
              refine wp_region_lit ?_
              refine step (Runs.move A rfl) A rfl ?_; clear A a; intro a A
              refine step (Runs.fa A rfl) A rfl ?_; clear A a; intro a A
              refine step (Runs.ldN A H rfl rfl) A rfl ?_; clear A a; intro a A
              refine step_cloPr (cap := [.pointer (some ⟨b2, 0, none⟩)]) A rfl rfl rfl (c_item_1 (ks := 4) (b := b) (bw := b2) (e := i.a) (ad := p.aa) (c := p.ca) G hI.a (by decide)) H (by omega) ?_
              clear A a; rintro v24_3 a w m hm rfl A H
              simp only [List.cons_append, List.nil_append] at H
              have hM := hM.trans hm
              have hJ17 := hJ17.trans hm
              have G := G.mono hm
              have hI := hI.mono hm
              refine wpList_nil ?_
              refine wp_seq ?_
              refine wp_region_lit ?_
              refine step (Runs.move A rfl) A rfl ?_; clear A a; intro a A
              refine step (Runs.fa A rfl) A rfl ?_; clear A a; intro a A
              refine step (Runs.ldN A H rfl rfl) A rfl ?_; clear A a; intro a A
              refine step_cloPr (cap := [.pointer (some ⟨b2, 0, none⟩)]) A rfl rfl rfl (c_item_1 (ks := 4) (b := b) (bw := b2) (e := i.b) (ad := p.ab) (c := p.cb) G hI.b (by decide)) H (by omega) ?_
              clear A a; rintro v25_3 a w m hm rfl A H
              simp only [List.cons_append, List.nil_append] at H
              have hM := hM.trans hm
              have hJ17 := hJ17.trans hm
              have G := G.mono hm
              have hI := hI.mono hm
              refine wpList_nil ?_
              refine wp_region_lit ?_
              refine step (Runs.move A rfl) A rfl ?_; clear A a; intro a A
              refine step (Runs.fa A rfl) A rfl ?_; clear A a; intro a A
              refine step (Runs.ldN A H rfl rfl) A rfl ?_; clear A a; intro a A
              refine step_cloPr (cap := [.pointer (some ⟨b2, 0, none⟩)]) A rfl rfl rfl (c_item_1 (ks := 4) (b := b) (bw := b2) (e := i.c) (ad := p.ac) (c := p.cc) G hI.c (by decide)) H (by omega) ?_
              clear A a; rintro v26_3 a w m hm rfl A H
              simp only [List.cons_append, List.nil_append] at H
              have hM := hM.trans hm
              have hJ17 := hJ17.trans hm
              have G := G.mono hm
              have hI := hI.mono hm
              refine wpList_nil ?_
              have H := H.perm (List.Perm.cons _ (List.Perm.swap _ _ _))
              have H := (H.pr_le (b := b) (B' := (B + 400 + i.name.size + i.width.p.size + i.depth.p.size + i.init.p.size + szEx i.a + szEx i.b + szEx i.c + i.of_.size + szNums i.args + szBinds i.ports)) (by omega)).pr_at (b := b) (y := (if i.kind = 4 then partP [32, 45, 62, 32] i.a (numP i.init (wr [32, 61, 32] y3))
                  else if i.kind = 5 then partP [32, 61, 32] i.a y3
                  else if i.kind = 6 then partP [32, 61, 32] i.c (partP [32, 97, 116, 32] i.b (partP [32, 105, 102, 32] i.a y3))
                  else if i.kind = 7 then partP [32, 105, 102, 32] i.a y3
                  else if i.kind = 8 then partP [32, 61, 32] i.b (partP [32, 105, 102, 32] i.a y3)
                  else if i.kind = 9 then listP bindP i.ports (wr [32] (listP numP i.args (nameP i.of_ (wr [58, 32] y3))))
                  else y3)) (by simp [*])
              exact key17 _ _ _ hJ17 (Fr.suf A rfl) H.subH
            · have g22 := h22
              try simp only [decide_eq_true_eq, decide_eq_false_iff_not, Bool.not_eq_true', Bool.not_eq_false', ne_eq, Decidable.not_not, Int.not_lt, Int.not_le] at g22
              refine wp_seq ?_
              refine wp_region_lit ?_
              refine step (Runs.eql A rfl rfl) A rfl ?_; clear A a; intro a A
              refine step (Runs.assign A rfl) A rfl ?_; clear A a; intro a A
              refine wpList_nil ?_
              refine cond_split A rfl (fun h23 => ?_) (fun h23 => ?_)
              · have g23 := h23
                try simp only [decide_eq_true_eq, decide_eq_false_iff_not, Bool.not_eq_true', Bool.not_eq_false', ne_eq, Decidable.not_not, Int.not_lt, Int.not_le] at g23
                refine wp_region_lit ?_
                refine step (Runs.move A rfl) A rfl ?_; clear A a; intro a A
                refine step (Runs.fa A rfl) A rfl ?_; clear A a; intro a A
                refine step (Runs.ldN A H rfl rfl) A rfl ?_; clear A a; intro a A
                refine step_cloPr (cap := [.pointer (some ⟨b2, 0, none⟩)]) A rfl rfl rfl (c_item_1 (ks := 4) (b := b) (bw := b2) (e := i.a) (ad := p.aa) (c := p.ca) G hI.a (by decide)) H (by omega) ?_
                clear A a; rintro v28_3 a w m hm rfl A H
                simp only [List.cons_append, List.nil_append] at H
                have hM := hM.trans hm
                have hJ17 := hJ17.trans hm
                have G := G.mono hm
                have hI := hI.mono hm
                refine wpList_nil ?_
                have H := H.perm (List.Perm.cons _ (List.Perm.swap _ _ _))
                have H := (H.pr_le (b := b) (B' := (B + 400 + i.name.size + i.width.p.size + i.depth.p.size + i.init.p.size + szEx i.a + szEx i.b + szEx i.c + i.of_.size + szNums i.args + szBinds i.ports)) (by omega)).pr_at (b := b) (y := (if i.kind = 4 then partP [32, 45, 62, 32] i.a (numP i.init (wr [32, 61, 32] y3))
                    else if i.kind = 5 then partP [32, 61, 32] i.a y3
                    else if i.kind = 6 then partP [32, 61, 32] i.c (partP [32, 97, 116, 32] i.b (partP [32, 105, 102, 32] i.a y3))
                    else if i.kind = 7 then partP [32, 105, 102, 32] i.a y3
                    else if i.kind = 8 then partP [32, 61, 32] i.b (partP [32, 105, 102, 32] i.a y3)
                    else if i.kind = 9 then listP bindP i.ports (wr [32] (listP numP i.args (nameP i.of_ (wr [58, 32] y3))))
                    else y3)) (by simp [*])
                exact key17 _ _ _ hJ17 (Fr.suf A rfl) H.subH
              · have g23 := h23
                try simp only [decide_eq_true_eq, decide_eq_false_iff_not, Bool.not_eq_true', Bool.not_eq_false', ne_eq, Decidable.not_not, Int.not_lt, Int.not_le] at g23
                refine wp_seq ?_
                refine wp_region_lit ?_
                refine step (Runs.eql A rfl rfl) A rfl ?_; clear A a; intro a A
                refine step (Runs.assign A rfl) A rfl ?_; clear A a; intro a A
                refine wpList_nil ?_
                refine cond_split A rfl (fun h24 => ?_) (fun h24 => ?_)
                · have g24 := h24
                  try simp only [decide_eq_true_eq, decide_eq_false_iff_not, Bool.not_eq_true', Bool.not_eq_false', ne_eq, Decidable.not_not, Int.not_lt, Int.not_le] at g24
                  refine wp_seq ?_
                  refine wp_region_lit ?_
                  refine step (Runs.move A rfl) A rfl ?_; clear A a; intro a A
                  refine step (Runs.fa A rfl) A rfl ?_; clear A a; intro a A
                  refine step (Runs.ldN A H rfl rfl) A rfl ?_; clear A a; intro a A
                  refine step_cloPr (cap := [.pointer (some ⟨b2, 0, none⟩)]) A rfl rfl rfl (c_item_1 (ks := 4) (b := b) (bw := b2) (e := i.a) (ad := p.aa) (c := p.ca) G hI.a (by decide)) H (by omega) ?_
                  clear A a; rintro v30_3 a w m hm rfl A H
                  simp only [List.cons_append, List.nil_append] at H
                  have hM := hM.trans hm
                  have hJ17 := hJ17.trans hm
                  have G := G.mono hm
                  have hI := hI.mono hm
                  refine wpList_nil ?_
                  refine wp_region_lit ?_
                  refine step (Runs.move A rfl) A rfl ?_; clear A a; intro a A
                  refine step (Runs.fa A rfl) A rfl ?_; clear A a; intro a A
                  refine step (Runs.ldN A H rfl rfl) A rfl ?_; clear A a; intro a A
                  refine step_cloPr (cap := [.pointer (some ⟨b2, 0, none⟩)]) A rfl rfl rfl (c_item_1 (ks := 4) (b := b) (bw := b2) (e := i.b) (ad := p.ab) (c := p.cb) G hI.b (by decide)) H (by omega) ?_
                  clear A a; rintro v31_3 a w m hm rfl A H
                  simp only [List.cons_append, List.nil_append] at H
                  have hM := hM.trans hm
                  have hJ17 := hJ17.trans hm
                  have G := G.mono hm
                  have hI := hI.mono hm
                  refine wpList_nil ?_
                  have H := H.perm (List.Perm.cons _ (List.Perm.swap _ _ _))
                  have H := (H.pr_le (b := b) (B' := (B + 400 + i.name.size + i.width.p.size + i.depth.p.size + i.init.p.size + szEx i.a + szEx i.b + szEx i.c + i.of_.size + szNums i.args + szBinds i.ports)) (by omega)).pr_at (b := b) (y := (if i.kind = 4 then partP [32, 45, 62, 32] i.a (numP i.init (wr [32, 61, 32] y3))
                      else if i.kind = 5 then partP [32, 61, 32] i.a y3
                      else if i.kind = 6 then partP [32, 61, 32] i.c (partP [32, 97, 116, 32] i.b (partP [32, 105, 102, 32] i.a y3))
                      else if i.kind = 7 then partP [32, 105, 102, 32] i.a y3
                      else if i.kind = 8 then partP [32, 61, 32] i.b (partP [32, 105, 102, 32] i.a y3)
                      else if i.kind = 9 then listP bindP i.ports (wr [32] (listP numP i.args (nameP i.of_ (wr [58, 32] y3))))
                      else y3)) (by simp [*])
                  exact key17 _ _ _ hJ17 (Fr.suf A rfl) H.subH
                · have g24 := h24
                  try simp only [decide_eq_true_eq, decide_eq_false_iff_not, Bool.not_eq_true', Bool.not_eq_false', ne_eq, Decidable.not_not, Int.not_lt, Int.not_le] at g24
                  refine wp_seq ?_
                  refine wp_region_lit ?_
                  refine step (Runs.eql A rfl rfl) A rfl ?_; clear A a; intro a A
                  refine step (Runs.assign A rfl) A rfl ?_; clear A a; intro a A
                  refine wpList_nil ?_
                  refine cond_split A rfl (fun h25 => ?_) (fun h25 => ?_)
                  · have g25 := h25
                    try simp only [decide_eq_true_eq, decide_eq_false_iff_not, Bool.not_eq_true', Bool.not_eq_false', ne_eq, Decidable.not_not, Int.not_lt, Int.not_le] at g25
                    refine wp_seq ?_
                    refine wp_region_lit ?_
                    refine step (Runs.ld1 A H rfl rfl) A rfl ?_; clear A a; intro a A
                    refine step (Runs.nilCheck A rfl) A rfl ?_; clear A a; intro a A
                    refine step (Runs.fa A rfl) A rfl ?_; clear A a; intro a A
                    refine step_callPr A rfl rfl (c_WriteString 2 (by decide)) H (by omega) ?_
                    clear A a; rintro v33_3 a w m hm rfl A H
                    simp only [List.cons_append, List.nil_append] at H
                    have hM := hM.trans hm
                    have hJ17 := hJ17.trans hm
                    have G := G.mono hm
                    have hI := hI.mono hm
                    refine wpList_nil ?_
                    refine wp_seq ?_
                    refine wp_region_lit ?_
                    refine step (Runs.ld1 A H rfl rfl) A rfl ?_; clear A a; intro a A
                    refine step (Runs.fa A rfl) A rfl ?_; clear A a; intro a A
                    refine step (Runs.ld1 A H rfl rfl) A rfl ?_; clear A a; intro a A
                    refine step_callPr A rfl rfl (c_syntax_printer_name G (by omega)) H (by omega) ?_
                    clear A a; rintro v34_3 a w m hm rfl A H
                    simp only [List.cons_append, List.nil_append] at H
                    have hM := hM.trans hm
                    have hJ17 := hJ17.trans hm
                    have G := G.mono hm
                    have hI := hI.mono hm
                    refine wpList_nil ?_
                    refine wp_seq ?_
                    refine wp_region_lit ?_
                    refine step (Runs.ld1 A H rfl rfl) A rfl ?_; clear A a; intro a A
                    refine step (Runs.fa A rfl) A rfl ?_; clear A a; intro a A
                    refine step (Runs.ld1 A H rfl rfl) A rfl ?_; clear A a; intro a A
                    refine step (Runs.ld1 A H rfl rfl) A rfl ?_; clear A a; intro a A
                    refine step (Runs.makeFuncB A rfl rfl) A rfl ?_; clear A a; intro a A
                    refine step_callPr A rfl rfl (c_listN G hI.args) H (by omega) ?_
                    clear A a; rintro v35_5 a w m hm rfl A H
                    simp only [List.cons_append, List.nil_append] at H
                    have hM := hM.trans hm
                    have hJ17 := hJ17.trans hm
                    have G := G.mono hm
                    have hI := hI.mono hm
                    refine wpList_nil ?_
                    refine wp_seq ?_
                    refine wp_region_lit ?_
                    refine step (Runs.ld1 A H rfl rfl) A rfl ?_; clear A a; intro a A
                    refine step (Runs.nilCheck A rfl) A rfl ?_; clear A a; intro a A
                    refine step (Runs.fa A rfl) A rfl ?_; clear A a; intro a A
                    refine step_callPr A rfl rfl (c_WriteString 1 (by decide)) H (by omega) ?_
                    clear A a; rintro v36_3 a w m hm rfl A H
                    simp only [List.cons_append, List.nil_append] at H
                    have hM := hM.trans hm
                    have hJ17 := hJ17.trans hm
                    have G := G.mono hm
                    have hI := hI.mono hm
                    refine wpList_nil ?_
                    refine wp_region_lit ?_
                    refine step (Runs.ld1 A H rfl rfl) A rfl ?_; clear A a; intro a A
                    refine step (Runs.fa A rfl) A rfl ?_; clear A a; intro a A
                    refine step (Runs.ld1 A H rfl rfl) A rfl ?_; clear A a; intro a A
                    refine step (Runs.makeFunc A rfl) A rfl ?_; clear A a; intro a A
                    refine step_callPr A rfl rfl (c_listB (b := b) (bw := b2) (tw := 112) G hI.ports) H (by omega) ?_
                    clear A a; rintro v37_4 a w m hm rfl A H
                    simp only [List.cons_append, List.nil_append] at H
                    have hM := hM.trans hm
                    have hJ17 := hJ17.trans hm
                    have G := G.mono hm
                    have hI := hI.mono hm
                    refine wpList_nil ?_
                    have H := H.perm (List.Perm.cons _ (List.Perm.swap _ _ _))
                    have H := (H.pr_le (b := b) (B' := (B + 400 + i.name.size + i.width.p.size + i.depth.p.size + i.init.p.size + szEx i.a + szEx i.b + szEx i.c + i.of_.size + szNums i.args + szBinds i.ports)) (by omega)).pr_at (b := b) (y := (if i.kind = 4 then partP [32, 45, 62, 32] i.a (numP i.init (wr [32, 61, 32] y3))
                        else if i.kind = 5 then partP [32, 61, 32] i.a y3
                        else if i.kind = 6 then partP [32, 61, 32] i.c (partP [32, 97, 116, 32] i.b (partP [32, 105, 102, 32] i.a y3))
                        else if i.kind = 7 then partP [32, 105, 102, 32] i.a y3
                        else if i.kind = 8 then partP [32, 61, 32] i.b (partP [32, 105, 102, 32] i.a y3)
                        else if i.kind = 9 then listP bindP i.ports (wr [32] (listP numP i.args (nameP i.of_ (wr [58, 32] y3))))
                        else y3)) (by simp [*])
                    exact key17 _ _ _ hJ17 (Fr.suf A rfl) H.subH
                  · have g25 := h25
                    try simp only [decide_eq_true_eq, decide_eq_false_iff_not, Bool.not_eq_true', Bool.not_eq_false', ne_eq, Decidable.not_not, Int.not_lt, Int.not_le] at g25
                    refine wp_skip ?_
                    have H := (H.pr_le (b := b) (B' := (B + 400 + i.name.size + i.width.p.size + i.depth.p.size + i.init.p.size + szEx i.a + szEx i.b + szEx i.c + i.of_.size + szNums i.args + szBinds i.ports)) (by omega)).pr_at (b := b) (y := (if i.kind = 4 then partP [32, 45, 62, 32] i.a (numP i.init (wr [32, 61, 32] y3))
                        else if i.kind = 5 then partP [32, 61, 32] i.a y3
                        else if i.kind = 6 then partP [32, 61, 32] i.c (partP [32, 97, 116, 32] i.b (partP [32, 105, 102, 32] i.a y3))
                        else if i.kind = 7 then partP [32, 105, 102, 32] i.a y3
                        else if i.kind = 8 then partP [32, 61, 32] i.b (partP [32, 105, 102, 32] i.a y3)
                        else if i.kind = 9 then listP bindP i.ports (wr [32] (listP numP i.args (nameP i.of_ (wr [58, 32] y3))))
                        else y3)) (by simp [*])
                    exact key17 _ _ _ hJ17 (Fr.suf A rfl) H.subH
      clear A H; intro a w m hm A H
      have hM := hM.trans hm
      have G := G.mono hm
      have hI := hI.mono hm
      refine wp_seq ?_
      obtain ⟨y4, hy4⟩ : ∃ y, y = (if i.kind = 4 then partP [32, 45, 62, 32] i.a (numP i.init (wr [32, 61, 32] y3))
          else if i.kind = 5 then partP [32, 61, 32] i.a y3
          else if i.kind = 6 then partP [32, 61, 32] i.c (partP [32, 97, 116, 32] i.b (partP [32, 105, 102, 32] i.a y3))
          else if i.kind = 7 then partP [32, 105, 102, 32] i.a y3
          else if i.kind = 8 then partP [32, 61, 32] i.b (partP [32, 105, 102, 32] i.a y3)
          else if i.kind = 9 then listP bindP i.ports (wr [32] (listP numP i.args (nameP i.of_ (wr [58, 32] y3))))
          else y3) := ⟨_, rfl⟩
      rw [← hy4] at H
      refine wp_region_lit ?_
      refine step (Runs.move A rfl) A rfl ?_; clear A a; intro a A
      refine step (Runs.move A rfl) A rfl ?_; clear A a; intro a A
      refine joinSame 2 (fun F => (230, .bool (decide (i.kind = 4) || decide (i.kind = 6))) :: F) A H (fun key18 => ?_) ?_
      · have hJ18 := Le.refl m
        refine onBool A (dj := 228) rfl (fun h26 => ?_) (fun h26 => ?_)
        · have g26 := h26
          try simp only [decide_eq_true_eq, decide_eq_false_iff_not, Bool.not_eq_true', Bool.not_eq_false', ne_eq, Decidable.not_not, Int.not_lt, Int.not_le] at g26
          refine stepSkip (dj := 228) rfl rfl h26 A rfl ?_; clear A a; intro a A
          refine step (Runs.pickT A rfl h26 rfl) A rfl ?_; clear A a; intro a A
          exact key18 _ _ _ hJ18 (Fr.with1 (Fr.suf A rfl) A rfl (by first | rfl | (simp [*]; done))) H.subH
        · have g26 := h26
          try simp only [decide_eq_true_eq, decide_eq_false_iff_not, Bool.not_eq_true', Bool.not_eq_false', ne_eq, Decidable.not_not, Int.not_lt, Int.not_le] at g26
          refine stepG (dj := 228) rfl rfl h26 (Runs.move A rfl) A rfl ?_; clear A a; intro a A
          refine step (Runs.pickF A rfl h26 rfl) A rfl ?_; clear A a; intro a A
          exact key18 _ _ _ hJ18 (Fr.with1 (Fr.suf A rfl) A rfl (by first | rfl | (simp [*]; done))) H.subH
      clear A H; intro a w m hm A H
      have hM := hM.trans hm
      have G := G.mono hm
      have hI := hI.mono hm
      refine wpList_nil ?_
      refine cond_split A rfl (fun h27 => ?_) (fun h27 => ?_)
      · have g27 := h27
        try simp only [decide_eq_true_eq, decide_eq_false_iff_not, Bool.not_eq_true', Bool.not_eq_false', ne_eq, Decidable.not_not, Int.not_lt, Int.not_le] at g27
        refine wp_seq ?_
        refine wp_region_lit ?_
        refine step (Runs.ld1 A H rfl rfl) A rfl ?_; clear A a; intro a A
        refine step (Runs.nilCheck A rfl) A rfl ?_; clear A a; intro a A
        refine step (Runs.fa A rfl) A rfl ?_; clear A a; intro a A
        refine step_callPr A rfl rfl (c_WriteString 1 (by decide)) H (by omega) ?_
        clear A a; rintro v39_3 a w m hm rfl A H
        simp only [List.cons_append, List.nil_append] at H
        have hM := hM.trans hm
        have G := G.mono hm
        have hI := hI.mono hm
        refine wpList_nil ?_
        refine wp_region_lit ?_
        refine step (Runs.ld1 A H rfl rfl) A rfl ?_; clear A a; intro a A
        refine step (Runs.fa A rfl) A rfl ?_; clear A a; intro a A
        refine step (Runs.ldN A H rfl rfl) A rfl ?_; clear A a; intro a A
        refine step_callPr A rfl rfl (c_syntax_printer_rule (r := i.rule) G hI.rn) H (by omega) ?_
        clear A a; rintro v40_3 a w m hm rfl A H
        simp only [List.cons_append, List.nil_append] at H
        have hM := hM.trans hm
        have G := G.mono hm
        have hI := hI.mono hm
        refine wpList_nil ?_
        have h46 : i.kind = 4 ∨ i.kind = 6 := by simpa using (by assumption : (decide (i.kind = 4) || decide (i.kind = 6)) = true)
        exact endPr A rfl hM H rfl (by rw [itemP]; simp only []; rw [if_neg (by omega), if_pos h46, hy4, hy3, hy2, hy1]) (by unfold szItem; omega)
      · have g27 := h27
        try simp only [decide_eq_true_eq, decide_eq_false_iff_not, Bool.not_eq_true', Bool.not_eq_false', ne_eq, Decidable.not_not, Int.not_lt, Int.not_le] at g27
        refine wp_skip ?_
        have h46 : ¬ (i.kind = 4 ∨ i.kind = 6) := by simpa using (by assumption : (decide (i.kind = 4) || decide (i.kind = 6)) = false)
        exact endPr A rfl hM H rfl (by rw [itemP]; simp only []; rw [if_neg (by omega), if_neg h46, hy4, hy3, hy2, hy1]) (by unfold szItem; omega)
end Sl
end Go.Proofs.YtanhehbfbakdcaaGreatDoor
