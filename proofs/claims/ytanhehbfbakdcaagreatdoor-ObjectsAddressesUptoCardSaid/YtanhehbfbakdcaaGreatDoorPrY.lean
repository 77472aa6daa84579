/- The printer's methods num, zero, rule, and what they look up: printed by my gen.py out of annotations. -/
import Derived.Test.YtanhehbfbakdcaaGreatDoorPrX
set_option linter.unusedSimpArgs false
set_option linter.unusedVariables false
namespace Go.Proofs.YtanhehbfbakdcaaGreatDoor
namespace Sl
open Go

theorem c_syntax_printer_num {b : Nat} {z : PNum} {m : Mem} (G : Glob m) (hz : I64 z.n) : PrSpec Tryz.prog 93 [.pointer (some ⟨b, 0, none⟩), .agg #[.int .i64 z.n, .string z.p]] m b [] (numP z) (z.p.size + 60) (fun _ v => v = .tuple #[]) := by
  intro x B hB
  refine Spec.enter Tryz.func93 rfl 53 Tryz.ntmps93 rfl fun a w0 Lf A H => ?_
  simp only [List.cons_append, List.nil_append] at H
  have hM := Le.refl m
  have hz' := hz
  obtain ⟨hz0, hz1⟩ := hz
  refine wp_seq ?_
  refine wp_region_lit ?_
  refine step_box A H rfl (by simp only [Value.cells, List.toList_toArray]; rfl) rfl ?_; intro b1 a w A H
  refine wpList_nil ?_
  refine wp_seq ?_
  refine wp_seq ?_
  refine wp_region_lit ?_
  refine step (Runs.fa A rfl) A rfl ?_; clear A a; intro a A
  refine step (Runs.ld1 A H rfl rfl) A rfl ?_; clear A a; intro a A
  refine step (Runs.seql A rfl rfl) A rfl ?_; clear A a; intro a A
  refine wpList_nil ?_
  refine cond_split A rfl (fun h1 => ?_) (fun h1 => ?_)
  · have g1 := h1
    try simp only [decide_eq_true_eq, decide_eq_false_iff_not, Bool.not_eq_true', Bool.not_eq_false', ne_eq, Decidable.not_not, Int.not_lt, Int.not_le] at g1
    refine wp_seq ?_
    refine wp_region_lit ?_
    refine step (Runs.move A rfl) A rfl ?_; clear A a; intro a A
    refine step (Runs.fa A rfl) A rfl ?_; clear A a; intro a A
    refine step (Runs.ld1 A H rfl rfl) A rfl ?_; clear A a; intro a A
    refine step_callPr A rfl rfl (c_syntax_printer_number G ⟨by omega, by omega⟩) H (by omega) ?_
    clear A a; rintro v2_3 a w m hm rfl A H
    simp only [List.cons_append, List.nil_append] at H
    have hM := hM.trans hm
    have G := G.mono hm
    refine wpList_nil ?_
    refine wp_ret ?_
    exact retPr A rfl hM H rfl (by rw [numP, if_pos g1]) (by omega)
  · have g1 := h1
    try simp only [decide_eq_true_eq, decide_eq_false_iff_not, Bool.not_eq_true', Bool.not_eq_false', ne_eq, Decidable.not_not, Int.not_lt, Int.not_le] at g1
    refine wp_skip ?_
    refine wp_seq ?_
    refine wp_region_lit ?_
    refine step (Runs.move A rfl) A rfl ?_; clear A a; intro a A
    refine step (Runs.fa A rfl) A rfl ?_; clear A a; intro a A
    refine step (Runs.ld1 A H rfl rfl) A rfl ?_; clear A a; intro a A
    refine step_callPr A rfl rfl (c_syntax_printer_name G (by omega)) H (by omega) ?_
    clear A a; rintro v3_3 a w m hm rfl A H
    simp only [List.cons_append, List.nil_append] at H
    have hM := hM.trans hm
    have G := G.mono hm
    refine wpList_nil ?_
    refine wp_block ?_
    refine wp_seq ?_
    refine wp_region_lit ?_
    refine step (Runs.fa A rfl) A rfl ?_; clear A a; intro a A
    refine step (Runs.ld1 A H rfl rfl) A rfl ?_; clear A a; intro a A
    refine step (Runs.gtr A rfl rfl) A rfl ?_; clear A a; intro a A
    refine step (Runs.assign A rfl) A rfl ?_; clear A a; intro a A
    refine wpList_nil ?_
    refine cond_split A rfl (fun h2 => ?_) (fun h2 => ?_)
    · have g2 := h2
      try simp only [decide_eq_true_eq, decide_eq_false_iff_not, Bool.not_eq_true', Bool.not_eq_false', ne_eq, Decidable.not_not, Int.not_lt, Int.not_le] at g2
      refine wp_seq ?_
      refine wp_region_lit ?_
      refine step (Runs.move A rfl) A rfl ?_; clear A a; intro a A
      refine step (Runs.nilCheck A rfl) A rfl ?_; clear A a; intro a A
      refine step (Runs.fa A rfl) A rfl ?_; clear A a; intro a A
      refine step_callPr A rfl rfl (c_WriteString 3 (by decide)) H (by omega) ?_
      clear A a; rintro v5_3 a w m hm rfl A H
      simp only [List.cons_append, List.nil_append] at H
      have hM := hM.trans hm
      have G := G.mono hm
      refine wpList_nil ?_
      refine wp_region_lit ?_
      refine step (Runs.move A rfl) A rfl ?_; clear A a; intro a A
      refine step (Runs.fa A rfl) A rfl ?_; clear A a; intro a A
      refine step (Runs.ld1 A H rfl rfl) A rfl ?_; clear A a; intro a A
      refine step_callPr A rfl rfl (c_syntax_printer_number G ⟨by omega, by omega⟩) H (by omega) ?_
      clear A a; rintro v6_3 a w m hm rfl A H
      simp only [List.cons_append, List.nil_append] at H
      have hM := hM.trans hm
      have G := G.mono hm
      refine wpList_nil ?_
      exact endPr A rfl hM H rfl (by rw [numP, if_neg g1, if_pos (show 0 < z.n by omega)]) (by omega)
    · have g2 := h2
      try simp only [decide_eq_true_eq, decide_eq_false_iff_not, Bool.not_eq_true', Bool.not_eq_false', ne_eq, Decidable.not_not, Int.not_lt, Int.not_le] at g2
      refine wp_seq ?_
      refine wp_region_lit ?_
      refine step (Runs.fa A rfl) A rfl ?_; clear A a; intro a A
      refine step (Runs.ld1 A H rfl rfl) A rfl ?_; clear A a; intro a A
      refine step (Runs.lss A rfl rfl) A rfl ?_; clear A a; intro a A
      refine step (Runs.assign A rfl) A rfl ?_; clear A a; intro a A
      refine wpList_nil ?_
      refine cond_split A rfl (fun h3 => ?_) (fun h3 => ?_)
      · have g3 := h3
        try simp only [decide_eq_true_eq, decide_eq_false_iff_not, Bool.not_eq_true', Bool.not_eq_false', ne_eq, Decidable.not_not, Int.not_lt, Int.not_le] at g3
        refine wp_seq ?_
        obtain ⟨pa, ad, c, hpa, had, hlen, H⟩ := H.pr_open (b := b)
        refine wp_region_lit ?_
        refine step (Runs.move A rfl) A rfl ?_; clear A a; intro a A
        refine step (Runs.move A rfl) A rfl ?_; clear A a; intro a A
        refine step (Runs.nilCheck A rfl) A rfl ?_; clear A a; intro a A
        refine step (Runs.fa A rfl) A rfl ?_; clear A a; intro a A
        refine step (Runs.ld1 A H rfl rfl) A rfl ?_; clear A a; intro a A
        refine step (Runs.move A rfl) A rfl ?_; clear A a; intro a A
        refine joinSame 4 (fun F => (40, .bool ((nameP z.p x).ok && decide (-1000000 ≤ z.n))) :: F) A H (fun key1 => ?_) ?_
        · have hJ1 := Le.refl m
          refine onBool A (dj := 36) rfl (fun h4 => ?_) (fun h4 => ?_)
          · have g4 := h4
            try simp only [decide_eq_true_eq, decide_eq_false_iff_not, Bool.not_eq_true', Bool.not_eq_false', ne_eq, Decidable.not_not, Int.not_lt, Int.not_le] at g4
            refine stepG (dj := 36) rfl rfl h4 (Runs.fa A rfl) A rfl ?_; clear A a; intro a A
            refine stepG (dj := 36) rfl rfl h4 (Runs.ld1 A H rfl rfl) A rfl ?_; clear A a; intro a A
            refine stepG (dj := 36) rfl rfl h4 (Runs.geq A rfl rfl) A rfl ?_; clear A a; intro a A
            refine step (Runs.pickT A rfl h4 rfl) A rfl ?_; clear A a; intro a A
            exact key1 _ _ _ hJ1 (Fr.with1 (Fr.suf A rfl) A rfl (by first | rfl | (simp [*]; done))) H.subH
          · have g4 := h4
            try simp only [decide_eq_true_eq, decide_eq_false_iff_not, Bool.not_eq_true', Bool.not_eq_false', ne_eq, Decidable.not_not, Int.not_lt, Int.not_le] at g4
            refine stepSkip (dj := 36) rfl rfl h4 A rfl ?_; clear A a; intro a A
            refine stepSkip (dj := 36) rfl rfl h4 A rfl ?_; clear A a; intro a A
            refine stepSkip (dj := 36) rfl rfl h4 A rfl ?_; clear A a; intro a A
            refine step (Runs.pickF A rfl h4 rfl) A rfl ?_; clear A a; intro a A
            exact key1 _ _ _ hJ1 (Fr.with1 (Fr.suf A rfl) A rfl (by first | rfl | (simp [*]; done))) H.subH
        clear A H; intro a w m hm A H
        have hM := hM.trans hm
        have G := G.mono hm
        refine step (Runs.nilCheck A rfl) A rfl ?_; clear A a; intro a A
        refine step (Runs.fa A rfl) A rfl ?_; clear A a; intro a A
        refine step_store A H rfl rfl rfl rfl rfl rfl ?_; intro w H
        refine wpList_nil ?_
        refine wp_seq ?_
        have H := H.pr_close hpa had hlen
        refine wp_region_lit ?_
        refine step (Runs.move A rfl) A rfl ?_; clear A a; intro a A
        refine step (Runs.nilCheck A rfl) A rfl ?_; clear A a; intro a A
        refine step (Runs.fa A rfl) A rfl ?_; clear A a; intro a A
        refine step_callPr A rfl rfl (c_WriteString 3 (by decide)) H (by omega) ?_
        clear A a; rintro v9_3 a w m hm rfl A H
        simp only [List.cons_append, List.nil_append] at H
        have hM := hM.trans hm
        have G := G.mono hm
        refine wpList_nil ?_
        refine wp_region_lit ?_
        refine step (Runs.move A rfl) A rfl ?_; clear A a; intro a A
        refine step (Runs.fa A rfl) A rfl ?_; clear A a; intro a A
        refine step (Runs.ld1 A H rfl rfl) A rfl ?_; clear A a; intro a A
        refine step (Runs.negW A rfl) A rfl ?_; clear A a; intro a A
        refine step (Runs.max2 A rfl rfl) A rfl ?_; clear A a; intro a A
        refine step_callPr A rfl rfl (c_syntax_printer_number G (I64_max z.n)) H (by omega) ?_
        clear A a; rintro v10_5 a w m hm rfl A H
        simp only [List.cons_append, List.nil_append] at H
        have hM := hM.trans hm
        have G := G.mono hm
        refine wpList_nil ?_
        exact endPr A rfl hM H rfl (by rw [numP, if_neg g1, if_neg (show ¬ 0 < z.n by omega), if_pos (show z.n < 0 by omega)]; rfl) (by omega)
      · have g3 := h3
        try simp only [decide_eq_true_eq, decide_eq_false_iff_not, Bool.not_eq_true', Bool.not_eq_false', ne_eq, Decidable.not_not, Int.not_lt, Int.not_le] at g3
        refine wp_skip ?_
        exact endPr A rfl hM H rfl (by rw [numP, if_neg g1, if_neg (show ¬ 0 < z.n by omega), if_neg (show ¬ z.n < 0 by omega)]) (by omega)

theorem c_syntax_none {z : PNum} {m : Mem} : Spec Tryz.prog 91 #[.agg #[.int .i64 z.n, .string z.p]] m [] (RetE (.bool (noneB z))) := by
  refine Spec.enter0 Tryz.func91 rfl 6 Tryz.ntmps91 rfl fun a w0 Lf A H => ?_
  have hM := Le.refl m
  refine wp_seq ?_
  refine wp_region_lit ?_
  refine step_box A H rfl (by simp only [Value.cells, List.toList_toArray]; rfl) rfl ?_; intro b1 a w A H
  refine step (Runs.assign A rfl) A rfl ?_; clear A a; intro a A
  refine wpList_nil ?_
  refine wp_seq ?_
  refine wp_region_lit ?_
  refine step (Runs.ldN A H rfl rfl) A rfl ?_; clear A a; intro a A
  refine step (Runs.build A rfl rfl rfl) A rfl ?_; clear A a; intro a A
  refine step (Runs.aeql A rfl rfl rfl rfl) A rfl ?_; clear A a; intro a A
  refine step (Runs.assign A rfl) A rfl ?_; clear A a; intro a A
  refine wpList_nil ?_
  refine wp_ret ?_
  exact retF A rfl rfl hM H (by simp [noneB, eqL, eqV])

theorem c_syntax_absent {e : Ex} {ad : Option Addr} {c : Nat} {m : Mem} : Spec Tryz.prog 92 #[.agg (exC e ad c).toArray] m [] (RetE (.bool (absentB e))) := by
  refine Spec.enter0 Tryz.func92 rfl 27 Tryz.ntmps92 rfl fun a w0 Lf A H => ?_
  have hM := Le.refl m
  refine wp_seq ?_
  refine wp_region_lit ?_
  refine step_box A H rfl (by simp only [Value.cells, List.toList_toArray]; rfl) rfl ?_; intro b1 a w A H
  refine step (Runs.assign A rfl) A rfl ?_; clear A a; intro a A
  refine wpList_nil ?_
  refine wp_seq ?_
  refine wp_region_lit ?_
  refine step (Runs.fa A rfl) A rfl ?_; clear A a; intro a A
  refine step (Runs.ld1 A H rfl rfl) A rfl ?_; clear A a; intro a A
  refine step (Runs.eql A rfl rfl) A rfl ?_; clear A a; intro a A
  refine step (Runs.move A rfl) A rfl ?_; clear A a; intro a A
  refine onBool A (dj := 6) rfl (fun h1 => ?_) (fun h1 => ?_)
  · have g1 := h1
    try simp only [decide_eq_true_eq, decide_eq_false_iff_not, Bool.not_eq_true', Bool.not_eq_false', ne_eq, Decidable.not_not, Int.not_lt, Int.not_le] at g1
    refine stepG (dj := 6) rfl rfl h1 (Runs.fa A rfl) A rfl ?_; clear A a; intro a A
    refine stepG (dj := 6) rfl rfl h1 (Runs.ld1 A H rfl rfl) A rfl ?_; clear A a; intro a A
    refine stepG (dj := 6) rfl rfl h1 (Runs.seql A rfl rfl) A rfl ?_; clear A a; intro a A
    refine step (Runs.pickT A rfl h1 rfl) A rfl ?_; clear A a; intro a A
    refine step (Runs.move A rfl) A rfl ?_; clear A a; intro a A
    refine onBool A (dj := 11) rfl (fun h2 => ?_) (fun h2 => ?_)
    · have g2 := h2
      try simp only [decide_eq_true_eq, decide_eq_false_iff_not, Bool.not_eq_true', Bool.not_eq_false', ne_eq, Decidable.not_not, Int.not_lt, Int.not_le] at g2
      refine stepG (dj := 11) rfl rfl h2 (Runs.fa A rfl) A rfl ?_; clear A a; intro a A
      refine stepG (dj := 11) rfl rfl h2 (Runs.ldN A H rfl rfl) A rfl ?_; clear A a; intro a A
      refine step_callFG (dj := 11) rfl rfl h2 A rfl rfl (c_syntax_none (z := e.k)) H ?_
      rintro v1_11 a w m hm rfl A H
      have hM := hM.trans hm
      refine step (Runs.pickT A rfl h2 rfl) A rfl ?_; clear A a; intro a A
      refine step (Runs.move A rfl) A rfl ?_; clear A a; intro a A
      refine onBool A (dj := 16) rfl (fun h3 => ?_) (fun h3 => ?_)
      · have g3 := h3
        try simp only [decide_eq_true_eq, decide_eq_false_iff_not, Bool.not_eq_true', Bool.not_eq_false', ne_eq, Decidable.not_not, Int.not_lt, Int.not_le] at g3
        refine stepG (dj := 16) rfl rfl h3 (Runs.fa A rfl) A rfl ?_; clear A a; intro a A
        refine stepG (dj := 16) rfl rfl h3 (Runs.ldN A H rfl rfl) A rfl ?_; clear A a; intro a A
        refine step_callFG (dj := 16) rfl rfl h3 A rfl rfl (c_syntax_none (z := e.w)) H ?_
        rintro v1_16 a w m hm rfl A H
        have hM := hM.trans hm
        refine step (Runs.pickT A rfl h3 rfl) A rfl ?_; clear A a; intro a A
        refine step (Runs.move A rfl) A rfl ?_; clear A a; intro a A
        refine onBool A (dj := 21) rfl (fun h4 => ?_) (fun h4 => ?_)
        · have g4 := h4
          try simp only [decide_eq_true_eq, decide_eq_false_iff_not, Bool.not_eq_true', Bool.not_eq_false', ne_eq, Decidable.not_not, Int.not_lt, Int.not_le] at g4
          refine stepG (dj := 21) rfl rfl h4 (Runs.fa A rfl) A rfl ?_; clear A a; intro a A
          refine stepG (dj := 21) rfl rfl h4 (Runs.ld1 A H rfl rfl) A rfl ?_; clear A a; intro a A
          refine stepG (dj := 21) rfl rfl h4 (Runs.lenL A rfl SlC.h) A rfl ?_; clear A a; intro a A
          refine stepG (dj := 21) rfl rfl h4 (Runs.eql A rfl rfl) A rfl ?_; clear A a; intro a A
          refine step (Runs.pickT A rfl h4 rfl) A rfl ?_; clear A a; intro a A
          refine step (Runs.assign A rfl) A rfl ?_; clear A a; intro a A
          refine wpList_nil ?_
          refine wp_ret ?_
          exact retF A rfl rfl hM H (by simp [absentB, *])
        · have g4 := h4
          try simp only [decide_eq_true_eq, decide_eq_false_iff_not, Bool.not_eq_true', Bool.not_eq_false', ne_eq, Decidable.not_not, Int.not_lt, Int.not_le] at g4
          refine stepSkip (dj := 21) rfl rfl h4 A rfl ?_; clear A a; intro a A
          refine stepSkip (dj := 21) rfl rfl h4 A rfl ?_; clear A a; intro a A
          refine stepSkip (dj := 21) rfl rfl h4 A rfl ?_; clear A a; intro a A
          refine stepSkip (dj := 21) rfl rfl h4 A rfl ?_; clear A a; intro a A
          refine step (Runs.pickF A rfl h4 rfl) A rfl ?_; clear A a; intro a A
          refine step (Runs.assign A rfl) A rfl ?_; clear A a; intro a A
          refine wpList_nil ?_
          refine wp_ret ?_
          exact retF A rfl rfl hM H (by simp [absentB, *])
      · have g3 := h3
        try simp only [decide_eq_true_eq, decide_eq_false_iff_not, Bool.not_eq_true', Bool.not_eq_false', ne_eq, Decidable.not_not, Int.not_lt, Int.not_le] at g3
        refine stepSkip (dj := 16) rfl rfl h3 A rfl ?_; clear A a; intro a A
        refine stepSkip (dj := 16) rfl rfl h3 A rfl ?_; clear A a; intro a A
        refine stepSkip (dj := 16) rfl rfl h3 A rfl ?_; clear A a; intro a A
        refine step (Runs.pickF A rfl h3 rfl) A rfl ?_; clear A a; intro a A
        refine step (Runs.move A rfl) A rfl ?_; clear A a; intro a A
        refine stepSkip (dj := 21) rfl rfl rfl A rfl ?_; clear A a; intro a A
        refine stepSkip (dj := 21) rfl rfl rfl A rfl ?_; clear A a; intro a A
        refine stepSkip (dj := 21) rfl rfl rfl A rfl ?_; clear A a; intro a A
        refine stepSkip (dj := 21) rfl rfl rfl A rfl ?_; clear A a; intro a A
        refine step (Runs.pickF A rfl rfl rfl) A rfl ?_; clear A a; intro a A
        refine step (Runs.assign A rfl) A rfl ?_; clear A a; intro a A
        refine wpList_nil ?_
        refine wp_ret ?_
        exact retF A rfl rfl hM H (by simp [absentB, *])
    · have g2 := h2
      try simp only [decide_eq_true_eq, decide_eq_false_iff_not, Bool.not_eq_true', Bool.not_eq_false', ne_eq, Decidable.not_not, Int.not_lt, Int.not_le] at g2
      refine stepSkip (dj := 11) rfl rfl h2 A rfl ?_; clear A a; intro a A
      refine stepSkip (dj := 11) rfl rfl h2 A rfl ?_; clear A a; intro a A
      refine stepSkip (dj := 11) rfl rfl h2 A rfl ?_; clear A a; intro a A
      refine step (Runs.pickF A rfl h2 rfl) A rfl ?_; clear A a; intro a A
      refine step (Runs.move A rfl) A rfl ?_; clear A a; intro a A
      refine stepSkip (dj := 16) rfl rfl rfl A rfl ?_; clear A a; intro a A
      refine stepSkip (dj := 16) rfl rfl rfl A rfl ?_; clear A a; intro a A
      refine stepSkip (dj := 16) rfl rfl rfl A rfl ?_; clear A a; intro a A
      refine step (Runs.pickF A rfl rfl rfl) A rfl ?_; clear A a; intro a A
      refine step (Runs.move A rfl) A rfl ?_; clear A a; intro a A
      refine stepSkip (dj := 21) rfl rfl rfl A rfl ?_; clear A a; intro a A
      refine stepSkip (dj := 21) rfl rfl rfl A rfl ?_; clear A a; intro a A
      refine stepSkip (dj := 21) rfl rfl rfl A rfl ?_; clear A a; intro a A
      refine stepSkip (dj := 21) rfl rfl rfl A rfl ?_; clear A a; intro a A
      refine step (Runs.pickF A rfl rfl rfl) A rfl ?_; clear A a; intro a A
      refine step (Runs.assign A rfl) A rfl ?_; clear A a; intro a A
      refine wpList_nil ?_
      refine wp_ret ?_
      exact retF A rfl rfl hM H (by simp [absentB, *])
  · have g1 := h1
    try simp only [decide_eq_true_eq, decide_eq_false_iff_not, Bool.not_eq_true', Bool.not_eq_false', ne_eq, Decidable.not_not, Int.not_lt, Int.not_le] at g1
    refine stepSkip (dj := 6) rfl rfl h1 A rfl ?_; clear A a; intro a A
    refine stepSkip (dj := 6) rfl rfl h1 A rfl ?_; clear A a; intro a A
    refine stepSkip (dj := 6) rfl rfl h1 A rfl ?_; clear A a; intro a A
    refine step (Runs.pickF A rfl h1 rfl) A rfl ?_; clear A a; intro a A
    refine step (Runs.move A rfl) A rfl ?_; clear A a; intro a A
    refine stepSkip (dj := 11) rfl rfl rfl A rfl ?_; clear A a; intro a A
    refine stepSkip (dj := 11) rfl rfl rfl A rfl ?_; clear A a; intro a A
    refine stepSkip (dj := 11) rfl rfl rfl A rfl ?_; clear A a; intro a A
    refine step (Runs.pickF A rfl rfl rfl) A rfl ?_; clear A a; intro a A
    refine step (Runs.move A rfl) A rfl ?_; clear A a; intro a A
    refine stepSkip (dj := 16) rfl rfl rfl A rfl ?_; clear A a; intro a A
    refine stepSkip (dj := 16) rfl rfl rfl A rfl ?_; clear A a; intro a A
    refine stepSkip (dj := 16) rfl rfl rfl A rfl ?_; clear A a; intro a A
    refine step (Runs.pickF A rfl rfl rfl) A rfl ?_; clear A a; intro a A
    refine step (Runs.move A rfl) A rfl ?_; clear A a; intro a A
    refine stepSkip (dj := 21) rfl rfl rfl A rfl ?_; clear A a; intro a A
    refine stepSkip (dj := 21) rfl rfl rfl A rfl ?_; clear A a; intro a A
    refine stepSkip (dj := 21) rfl rfl rfl A rfl ?_; clear A a; intro a A
    refine stepSkip (dj := 21) rfl rfl rfl A rfl ?_; clear A a; intro a A
    refine step (Runs.pickF A rfl rfl rfl) A rfl ?_; clear A a; intro a A
    refine step (Runs.assign A rfl) A rfl ?_; clear A a; intro a A
    refine wpList_nil ?_
    refine wp_ret ?_
    exact retF A rfl rfl hM H (by simp [absentB, *])

def MapRaw (m : Mem) (r : Nat) (es : Array MapEntry) (c : Nat) : Prop := m r = some (.map es c)
theorem MapRaw.mono {m m' : Mem} {r c : Nat} {es : Array MapEntry} (h : MapRaw m r es c) (k : Le m m') : MapRaw m' r es c := k _ _ h
theorem ops_ent {es : Array MapEntry} {e : MapEntry} (hp : (es.toList.map fun e => (e.key, e.val)).Perm (ment opsV)) (he : e ∈ es.toList) : ∃ s z, e.key = .string s ∧ e.val = .int .i64 z ∧ (s, z) ∈ opsL := by
  have : (e.key, e.val) ∈ ment opsV := hp.mem_iff.1 (List.mem_map.2 ⟨e, he, rfl⟩)
  obtain ⟨s, h1, h2⟩ := mem_ment.1 this
  obtain ⟨p, hp, h3⟩ := List.mem_map.1 h2
  simp only [Prod.mk.injEq] at h3
  exact ⟨s, p.2, h1, h3.2.symm, by rw [← h3.1]; exact hp⟩
theorem sign_of {s : ByteArray} {z : Int} (h : (s, z) ∈ opsL) : signP z = s := by
  have : ∀ p ∈ opsL, signP p.2 = p.1 := by decide
  exact this _ h
theorem sign_none {op : Int} (h : ∀ s, (s, op) ∉ opsL) : signP op = ⟨#[]⟩ := by
  have : (opsL.find? fun p => decide (p.2 = op)) = none := List.find?_eq_none.2 fun p hp h2 => h p.1 (by rw [← of_decide_eq_true h2]; exact hp)
  rw [signP, this]

theorem c_syntax_sign {op : Int} {m : Mem} (G : Glob m) : Spec Tryz.prog 133 #[.int .i64 op] m [] (RetE (.string (signP op))) := by
  refine Spec.enter0 Tryz.func133 rfl 16 Tryz.ntmps133 rfl fun a w0 Lf A H => ?_
  have hM := Le.refl m
  obtain ⟨fe, ff, fr, hg0, es, cc, hmr0, hperm, hnd, hbc⟩ := G.ops
  have hmr : MapRaw m fr es cc := hmr0
  have hfz : Fz m _ _ := ⟨⟨_, _, hg0⟩⟩
  refine wp_seq ?_
  refine wp_region_lit ?_
  refine step (Runs.assign A rfl) A rfl ?_; clear A a; intro a A
  refine wpList_nil ?_
  refine wp_seq ?_
  refine wp_seq ?_
  refine wp_region_lit ?_
  refine step (Runs.ld1 A H rfl rfl) A rfl ?_; clear A a; intro a A
  refine step_rangeM A H rfl hmr0 rfl ?_; clear A a; intro b1 a w A H
  refine wpList_nil ?_
  refine wp_block ?_
  have hmr := hmr
  refine wp_loop_ghost (fun q a w => ∃ (seen : Array Nat) (m' : Mem), q = (leftOf es seen).size ∧ (∀ e ∈ es.toList, seen.contains e.born = true → e.val ≠ .int .i64 op) ∧ Le m m' ∧ Fr 16 a [(0, .int .i64 op), (6, .pointer (some ⟨b1, 0, none⟩))] [] ∧ St w0 w m' (ob b1 (.mapIter (some fr) cc seen cc) :: Lf)) _ ⟨#[], m, rfl, fun e _ h => by simp at h, Le.refl m, (Fr.cons A rfl (Fr.cons A rfl (Fr.nil A))), H⟩ ?_
  clear A H; rintro q a w ⟨seen, m, rfl, hinv, hm, A, H⟩
  have hM := hM.trans hm
  have G := G.mono hm
  have hl1 := hm
  have hmr : MapRaw m fr es cc := by first | exact hmr.mono hm | exact hmr
  refine wp_seq ?_
  refine wp_region_lit ?_
  refine step_nextMap A H rfl hmr hbc rfl (fun e he hns hsh a w A H => ?_) (fun hall a A => ?_)
  skip
  · obtain ⟨s, z, hkey, hval, hin⟩ := ops_ent hperm he
    rw [hkey, hval] at A
    refine step (Runs.extract A rfl rfl) A rfl ?_; clear A a; intro a A
    refine wpList_nil ?_
    refine wp_seq ?_
    refine cond_true A rfl rfl ?_
    refine wp_skip ?_
    refine wp_block ?_
    refine wp_seq ?_
    refine wp_region_lit ?_
    refine step (Runs.entry A H rfl hmr he hnd) A rfl ?_; clear A a; intro a A
    rw [hkey, hval] at A
    refine step (Runs.extract A rfl rfl) A rfl ?_; clear A a; intro a A
    refine step (Runs.extract A rfl rfl) A rfl ?_; clear A a; intro a A
    refine step (Runs.assign A rfl) A rfl ?_; clear A a; intro a A
    refine step (Runs.assign A rfl) A rfl ?_; clear A a; intro a A
    refine wpList_nil ?_
    refine wp_seq ?_
    refine wp_region_lit ?_
    refine step (Runs.move A rfl) A rfl ?_; clear A a; intro a A
    refine step (Runs.move A rfl) A rfl ?_; clear A a; intro a A
    refine step (Runs.eql A rfl rfl) A rfl ?_; clear A a; intro a A
    refine wpList_nil ?_
    refine cond_split A rfl (fun h1 => ?_) (fun h1 => ?_)
    · have g1 := h1
      try simp only [decide_eq_true_eq, decide_eq_false_iff_not, Bool.not_eq_true', Bool.not_eq_false', ne_eq, Decidable.not_not, Int.not_lt, Int.not_le] at g1
      refine wp_seq ?_
      refine wp_region_lit ?_
      refine step (Runs.move A rfl) A rfl ?_; clear A a; intro a A
      refine step (Runs.assign A rfl) A rfl ?_; clear A a; intro a A
      refine wpList_nil ?_
      refine wp_ret ?_
      exact retF A rfl rfl hM H (by rw [← g1, sign_of hin])
    · have g1 := h1
      try simp only [decide_eq_true_eq, decide_eq_false_iff_not, Bool.not_eq_true', Bool.not_eq_false', ne_eq, Decidable.not_not, Int.not_lt, Int.not_le] at g1
      refine wp_skip ?_
      have h2n : ¬ z = op := g1
      exact ⟨_, hsh, seen.push e.born, m, rfl, fun e' he' hs => by
        rw [contains_push, Bool.or_eq_true] at hs
        rcases hs with hs | hs
        · exact hinv e' he' hs
        · have : e' = e := born_inj hnd he' he (by simpa using hs)
          subst this; rw [hval]; intro hh; cases hh; exact h2n rfl, hl1, (Fr.cons A rfl (Fr.cons A rfl (Fr.nil A))), H⟩
  · refine step (Runs.extract A rfl rfl) A rfl ?_; clear A a; intro a A
    refine wpList_nil ?_
    refine wp_seq ?_
    refine cond_false A rfl rfl ?_
    refine wp_exit ?_
    refine wp_seq ?_
    refine wp_region_lit ?_
    refine step (Runs.assign A rfl) A rfl ?_; clear A a; intro a A
    refine wpList_nil ?_
    refine wp_ret ?_
    have hno : ∀ s, (s, op) ∉ opsL := fun s hs => by
      have h9 : ((.string s : Value), (.int .i64 op : Value)) ∈ ment opsV := mem_ment.2 ⟨_, rfl, List.mem_map.2 ⟨_, hs, rfl⟩⟩
      obtain ⟨e, he, hee⟩ := List.mem_map.1 (hperm.mem_iff.2 h9)
      simp only [Prod.mk.injEq] at hee
      exact hinv e he (hall e he) hee.2
    exact retF A rfl rfl hM H (by rw [sign_none hno])

theorem c_syntax_arity {op : Int} {m : Mem} (G : Glob m) : Spec Tryz.prog 131 #[.int .i64 op] m [] (RetE (.int .i64 (arityP op))) := by
  refine Spec.enter0 Tryz.func131 rfl 17 Tryz.ntmps131 rfl fun a w0 Lf A H => ?_
  have hM := Le.refl m
  refine wp_seq ?_
  refine wp_region_lit ?_
  refine step (Runs.assign A rfl) A rfl ?_; clear A a; intro a A
  refine wpList_nil ?_
  refine wp_seq ?_
  refine wp_seq ?_
  refine wp_region_lit ?_
  refine step (Runs.move A rfl) A rfl ?_; clear A a; intro a A
  refine wpList_nil ?_
  refine wp_block ?_
  refine wp_seq ?_
  refine wp_seq ?_
  refine wp_region_lit ?_
  refine step (Runs.eql A rfl rfl) A rfl ?_; clear A a; intro a A
  refine step (Runs.assign A rfl) A rfl ?_; clear A a; intro a A
  refine wpList_nil ?_
  refine cond_split A rfl (fun h1 => ?_) (fun h1 => ?_)
  · have g1 := h1
    try simp only [decide_eq_true_eq, decide_eq_false_iff_not, Bool.not_eq_true', Bool.not_eq_false', ne_eq, Decidable.not_not, Int.not_lt, Int.not_le] at g1
    refine wp_skip ?_
    refine cond_true A rfl h1 ?_
    refine wp_seq ?_
    refine wp_region_lit ?_
    refine step (Runs.assign A rfl) A rfl ?_; clear A a; intro a A
    refine wpList_nil ?_
    refine wp_ret ?_
    exact retF A rfl rfl hM H (by simp [arityP, *])
  · have g1 := h1
    try simp only [decide_eq_true_eq, decide_eq_false_iff_not, Bool.not_eq_true', Bool.not_eq_false', ne_eq, Decidable.not_not, Int.not_lt, Int.not_le] at g1
    refine wp_region_lit ?_
    refine step (Runs.eql A rfl rfl) A rfl ?_; clear A a; intro a A
    refine step (Runs.assign A rfl) A rfl ?_; clear A a; intro a A
    refine wpList_nil ?_
    refine cond_split A rfl (fun h2 => ?_) (fun h2 => ?_)
    · have g2 := h2
      try simp only [decide_eq_true_eq, decide_eq_false_iff_not, Bool.not_eq_true', Bool.not_eq_false', ne_eq, Decidable.not_not, Int.not_lt, Int.not_le] at g2
      refine wp_seq ?_
      refine wp_region_lit ?_
      refine step (Runs.assign A rfl) A rfl ?_; clear A a; intro a A
      refine wpList_nil ?_
      refine wp_ret ?_
      exact retF A rfl rfl hM H (by simp [arityP, *])
    · have g2 := h2
      try simp only [decide_eq_true_eq, decide_eq_false_iff_not, Bool.not_eq_true', Bool.not_eq_false', ne_eq, Decidable.not_not, Int.not_lt, Int.not_le] at g2
      refine wp_seq ?_
      refine wp_seq ?_
      refine wp_region_lit ?_
      refine step (Runs.eql A rfl rfl) A rfl ?_; clear A a; intro a A
      refine step (Runs.assign A rfl) A rfl ?_; clear A a; intro a A
      refine wpList_nil ?_
      refine cond_split A rfl (fun h3 => ?_) (fun h3 => ?_)
      · have g3 := h3
        try simp only [decide_eq_true_eq, decide_eq_false_iff_not, Bool.not_eq_true', Bool.not_eq_false', ne_eq, Decidable.not_not, Int.not_lt, Int.not_le] at g3
        refine wp_skip ?_
        refine cond_true A rfl h3 ?_
        refine wp_seq ?_
        refine wp_region_lit ?_
        refine step (Runs.assign A rfl) A rfl ?_; clear A a; intro a A
        refine wpList_nil ?_
        refine wp_ret ?_
        exact retF A rfl rfl hM H (by simp [arityP, *])
      · have g3 := h3
        try simp only [decide_eq_true_eq, decide_eq_false_iff_not, Bool.not_eq_true', Bool.not_eq_false', ne_eq, Decidable.not_not, Int.not_lt, Int.not_le] at g3
        refine wp_seq ?_
        refine wp_region_lit ?_
        refine step (Runs.eql A rfl rfl) A rfl ?_; clear A a; intro a A
        refine step (Runs.assign A rfl) A rfl ?_; clear A a; intro a A
        refine wpList_nil ?_
        refine cond_split A rfl (fun h4 => ?_) (fun h4 => ?_)
        · have g4 := h4
          try simp only [decide_eq_true_eq, decide_eq_false_iff_not, Bool.not_eq_true', Bool.not_eq_false', ne_eq, Decidable.not_not, Int.not_lt, Int.not_le] at g4
          refine wp_skip ?_
          refine cond_true A rfl h4 ?_
          refine wp_seq ?_
          refine wp_region_lit ?_
          refine step (Runs.assign A rfl) A rfl ?_; clear A a; intro a A
          refine wpList_nil ?_
          refine wp_ret ?_
          exact retF A rfl rfl hM H (by simp [arityP, *])
        · have g4 := h4
          try simp only [decide_eq_true_eq, decide_eq_false_iff_not, Bool.not_eq_true', Bool.not_eq_false', ne_eq, Decidable.not_not, Int.not_lt, Int.not_le] at g4
          refine wp_seq ?_
          refine wp_region_lit ?_
          refine step (Runs.eql A rfl rfl) A rfl ?_; clear A a; intro a A
          refine step (Runs.assign A rfl) A rfl ?_; clear A a; intro a A
          refine wpList_nil ?_
          refine cond_split A rfl (fun h5 => ?_) (fun h5 => ?_)
          · have g5 := h5
            try simp only [decide_eq_true_eq, decide_eq_false_iff_not, Bool.not_eq_true', Bool.not_eq_false', ne_eq, Decidable.not_not, Int.not_lt, Int.not_le] at g5
            refine wp_skip ?_
            refine cond_true A rfl h5 ?_
            refine wp_seq ?_
            refine wp_region_lit ?_
            refine step (Runs.assign A rfl) A rfl ?_; clear A a; intro a A
            refine wpList_nil ?_
            refine wp_ret ?_
            exact retF A rfl rfl hM H (by simp [arityP, *])
          · have g5 := h5
            try simp only [decide_eq_true_eq, decide_eq_false_iff_not, Bool.not_eq_true', Bool.not_eq_false', ne_eq, Decidable.not_not, Int.not_lt, Int.not_le] at g5
            refine wp_region_lit ?_
            refine step (Runs.eql A rfl rfl) A rfl ?_; clear A a; intro a A
            refine step (Runs.assign A rfl) A rfl ?_; clear A a; intro a A
            refine wpList_nil ?_
            refine cond_split A rfl (fun h6 => ?_) (fun h6 => ?_)
            · have g6 := h6
              try simp only [decide_eq_true_eq, decide_eq_false_iff_not, Bool.not_eq_true', Bool.not_eq_false', ne_eq, Decidable.not_not, Int.not_lt, Int.not_le] at g6
              refine wp_seq ?_
              refine wp_region_lit ?_
              refine step (Runs.assign A rfl) A rfl ?_; clear A a; intro a A
              refine wpList_nil ?_
              refine wp_ret ?_
              exact retF A rfl rfl hM H (by simp [arityP, *])
            · have g6 := h6
              try simp only [decide_eq_true_eq, decide_eq_false_iff_not, Bool.not_eq_true', Bool.not_eq_false', ne_eq, Decidable.not_not, Int.not_lt, Int.not_le] at g6
              refine wp_seq ?_
              refine wp_region_lit ?_
              refine step (Runs.eql A rfl rfl) A rfl ?_; clear A a; intro a A
              refine step (Runs.assign A rfl) A rfl ?_; clear A a; intro a A
              refine wpList_nil ?_
              refine cond_split A rfl (fun h7 => ?_) (fun h7 => ?_)
              · have g7 := h7
                try simp only [decide_eq_true_eq, decide_eq_false_iff_not, Bool.not_eq_true', Bool.not_eq_false', ne_eq, Decidable.not_not, Int.not_lt, Int.not_le] at g7
                refine wp_seq ?_
                refine wp_region_lit ?_
                refine step (Runs.assign A rfl) A rfl ?_; clear A a; intro a A
                refine wpList_nil ?_
                refine wp_ret ?_
                exact retF A rfl rfl hM H (by simp [arityP, *])
              · have g7 := h7
                try simp only [decide_eq_true_eq, decide_eq_false_iff_not, Bool.not_eq_true', Bool.not_eq_false', ne_eq, Decidable.not_not, Int.not_lt, Int.not_le] at g7
                refine wp_skip ?_
                refine wp_seq ?_
                refine wp_seq ?_
                refine wp_region_lit ?_
                refine step (Runs.move A rfl) A rfl ?_; clear A a; intro a A
                refine step_callF A rfl rfl (c_syntax_sign G) H ?_
                rintro v12_1 a w m hm rfl A H
                have hM := hM.trans hm
                have G := G.mono hm
                refine step (Runs.sneq A rfl rfl) A rfl ?_; clear A a; intro a A
                refine wpList_nil ?_
                refine cond_split A rfl (fun h8 => ?_) (fun h8 => ?_)
                · have g8 := h8
                  try simp only [decide_eq_true_eq, decide_eq_false_iff_not, Bool.not_eq_true', Bool.not_eq_false', ne_eq, Decidable.not_not, Int.not_lt, Int.not_le] at g8
                  refine wp_seq ?_
                  refine wp_region_lit ?_
                  refine step (Runs.assign A rfl) A rfl ?_; clear A a; intro a A
                  refine wpList_nil ?_
                  refine wp_ret ?_
                  exact retF A rfl rfl hM H (by simp [arityP, *])
                · have g8 := h8
                  try simp only [decide_eq_true_eq, decide_eq_false_iff_not, Bool.not_eq_true', Bool.not_eq_false', ne_eq, Decidable.not_not, Int.not_lt, Int.not_le] at g8
                  refine wp_skip ?_
                  refine wp_seq ?_
                  refine wp_region_lit ?_
                  refine step (Runs.assign A rfl) A rfl ?_; clear A a; intro a A
                  refine wpList_nil ?_
                  refine wp_ret ?_
                  exact retF A rfl rfl hM H (by simp [arityP, *])

theorem c_syntax_printer_zero {b bz n cz : Nat} {l : List Bool} {bcs : List Value} {m : Mem} (hb : bcs = l.map .bool) (hn : n = l.length) (hl : l.length ≤ 1000) : PrSpec Tryz.prog 90 [.pointer (some ⟨b, 0, none⟩), .slice (some ⟨bz, 0, none⟩) n cz] m b [pt bz bcs 4] (andOk (l.all id)) 0 (fun _ v => v = .tuple #[]) := by
  subst hb; subst hn
  intro x B hB
  refine Spec.enter Tryz.func90 rfl 23 Tryz.ntmps90 rfl fun a w0 Lf A H => ?_
  simp only [List.cons_append, List.nil_append] at H
  have hM := Le.refl m
  refine wp_seq ?_
  refine wp_region_lit ?_
  refine step (Runs.move A rfl) A rfl ?_; clear A a; intro a A
  refine step (Runs.lenL A rfl SlC.h) A rfl ?_; clear A a; intro a A
  refine step (Runs.move A rfl) A rfl ?_; clear A a; intro a A
  refine wpList_nil ?_
  refine wp_block ?_
  refine wp_loop_ghost (fun q a w => ∃ (i : Nat) (m' : Mem), q = l.length - i ∧ (i ≤ l.length) ∧ Le m m' ∧ Fr 23 a [(0, .pointer (some ⟨b, 0, none⟩)), (6, .slice (some ⟨bz, 0, none⟩) l.length cz), (7, .int .i64 l.length), (8, .int .i64 i)] [] ∧ St w0 w m' (prR b ⟨x.t, x.ok && (l.take i).all id⟩ B :: pt bz (l.map .bool) 4 :: Lf)) _ ⟨0, m, rfl, by omega, Le.refl m, (Fr.cons A rfl (Fr.cons A rfl (Fr.cons A rfl (Fr.cons A rfl (Fr.nil A))))), (H.pr_at (b := b) (y := ⟨x.t, x.ok && (l.take 0).all id⟩) (by simp)).subH⟩ ?_
  clear A H; rintro q a w ⟨i, m, rfl, hinv, hm, A, H⟩
  have hM := hM.trans hm
  have hl1 := hm
  have hi := hinv
  refine wp_seq ?_
  refine wp_region_lit ?_
  refine step (Runs.lss A rfl rfl) A rfl ?_; clear A a; intro a A
  refine wpList_nil ?_
  refine wp_seq ?_
  refine cond_split A rfl (fun h1 => ?_) (fun h1 => ?_)
  · have g1 := h1
    try simp only [decide_eq_true_eq, decide_eq_false_iff_not, Bool.not_eq_true', Bool.not_eq_false', ne_eq, Decidable.not_not, Int.not_lt, Int.not_le] at g1
    refine wp_skip ?_
    refine wp_seq ?_
    refine wp_block ?_
    refine wp_seq ?_
    refine wp_region_lit ?_
    obtain ⟨v, hv⟩ := ex_at (l := l) (i := i) (by omega)
    refine step (Runs.indexAddr A rfl rfl SlC.h (by omega) (by omega)) A rfl ?_; clear A a; intro a A
    refine step (Runs.ld1 A H rfl (v := .bool v) (by simp [hv])) A rfl ?_; clear A a; intro a A
    refine step (Runs.assign A rfl) A rfl ?_; clear A a; intro a A
    refine wpList_nil ?_
    obtain ⟨pa, ad, c, hpa, had, hlen, H⟩ := H.pr_open (b := b)
    refine wp_region_lit ?_
    refine step (Runs.move A rfl) A rfl ?_; clear A a; intro a A
    refine step (Runs.move A rfl) A rfl ?_; clear A a; intro a A
    refine step (Runs.nilCheck A rfl) A rfl ?_; clear A a; intro a A
    refine step (Runs.fa A rfl) A rfl ?_; clear A a; intro a A
    refine step (Runs.ld1 A H rfl rfl) A rfl ?_; clear A a; intro a A
    refine step (Runs.move A rfl) A rfl ?_; clear A a; intro a A
    refine joinSame 2 (fun F => (19, .bool (x.ok && (l.take (i + 1)).all id)) :: F) A H (fun key1 => ?_) ?_
    · have hJ1 := Le.refl m
      refine onBool A (dj := 17) rfl (fun h2 => ?_) (fun h2 => ?_)
      · have g2 := h2
        try simp only [decide_eq_true_eq, decide_eq_false_iff_not, Bool.not_eq_true', Bool.not_eq_false', ne_eq, Decidable.not_not, Int.not_lt, Int.not_le] at g2
        refine stepG (dj := 17) rfl rfl h2 (Runs.move A rfl) A rfl ?_; clear A a; intro a A
        refine step (Runs.pickT A rfl h2 rfl) A rfl ?_; clear A a; intro a A
        exact key1 _ _ _ hJ1 (Fr.with1 (Fr.suf A rfl) A rfl (by rw [all_take hv, ← Bool.and_assoc]; simp only [*]; rfl)) H.subH
      · have g2 := h2
        try simp only [decide_eq_true_eq, decide_eq_false_iff_not, Bool.not_eq_true', Bool.not_eq_false', ne_eq, Decidable.not_not, Int.not_lt, Int.not_le] at g2
        refine stepSkip (dj := 17) rfl rfl h2 A rfl ?_; clear A a; intro a A
        refine step (Runs.pickF A rfl h2 rfl) A rfl ?_; clear A a; intro a A
        exact key1 _ _ _ hJ1 (Fr.with1 (Fr.suf A rfl) A rfl (by rw [all_take hv, ← Bool.and_assoc]; simp only [*]; rfl)) H.subH
    clear A H; intro a w m hm A H
    have hM := hM.trans hm
    have hl1 := hl1.trans hm
    refine step (Runs.nilCheck A rfl) A rfl ?_; clear A a; intro a A
    refine step (Runs.fa A rfl) A rfl ?_; clear A a; intro a A
    refine step_store A H rfl rfl rfl rfl rfl rfl ?_; intro w H
    refine wpList_nil ?_
    refine wp_region_lit ?_
    refine step (Runs.add A rfl rfl (by omega)) A rfl ?_; clear A a; intro a A
    refine step (Runs.move A rfl) A rfl ?_; clear A a; intro a A
    refine wpList_nil ?_
    have H := H.pr_close hpa had hlen
    exact ⟨_, by omega, i + 1, m, rfl, by omega, hl1, (Fr.cons A rfl (Fr.cons A rfl (Fr.cons A rfl (Fr.cons A rfl (Fr.nil A))))), H.subH⟩
  · have g1 := h1
    try simp only [decide_eq_true_eq, decide_eq_false_iff_not, Bool.not_eq_true', Bool.not_eq_false', ne_eq, Decidable.not_not, Int.not_lt, Int.not_le] at g1
    refine wp_exit ?_
    have hil : i = l.length := by omega
    subst hil
    exact endPr A rfl hM H rfl (by rw [List.take_length]; rfl) (by omega)

theorem c_syntax_printer_rule {b : Nat} {r : PRule} {m : Mem} (G : Glob m) (hr : I64 r.n) : PrSpec Tryz.prog 99 [.pointer (some ⟨b, 0, none⟩), .agg #[.int .i64 r.kind, .string r.src, .int .i64 r.n]] m b [] (ruleP r) (r.src.size + 60) (fun _ v => v = .tuple #[]) := by
  intro x B hB
  refine Spec.enter Tryz.func99 rfl 68 Tryz.ntmps99 rfl fun a w0 Lf A H => ?_
  simp only [List.cons_append, List.nil_append] at H
  have hM := Le.refl m
  have hr' := hr
  refine wp_seq ?_
  refine wp_region_lit ?_
  refine step_box A H rfl (by simp only [Value.cells, List.toList_toArray]; rfl) rfl ?_; intro b1 a w A H
  refine wpList_nil ?_
  refine wp_seq ?_
  refine wp_region_lit ?_
  refine step (Runs.move A rfl) A rfl ?_; clear A a; intro a A
  refine step (Runs.fa A rfl) A rfl ?_; clear A a; intro a A
  refine step (Runs.ld1 A H rfl rfl) A rfl ?_; clear A a; intro a A
  refine step (Runs.seql A rfl rfl) A rfl ?_; clear A a; intro a A
  refine step (Runs.move A rfl) A rfl ?_; clear A a; intro a A
  refine joinSame 4 (fun F => (12, .bool (decide (r.src = ⟨#[]⟩) || decide (2 ≤ r.kind))) :: F) A H (fun key1 => ?_) ?_
  · have hJ1 := Le.refl m
    refine onBool A (dj := 8) rfl (fun h1 => ?_) (fun h1 => ?_)
    · have g1 := h1
      try simp only [decide_eq_true_eq, decide_eq_false_iff_not, Bool.not_eq_true', Bool.not_eq_false', ne_eq, Decidable.not_not, Int.not_lt, Int.not_le] at g1
      refine stepSkip (dj := 8) rfl rfl h1 A rfl ?_; clear A a; intro a A
      refine stepSkip (dj := 8) rfl rfl h1 A rfl ?_; clear A a; intro a A
      refine stepSkip (dj := 8) rfl rfl h1 A rfl ?_; clear A a; intro a A
      refine step (Runs.pickT A rfl h1 rfl) A rfl ?_; clear A a; intro a A
      exact key1 _ _ _ hJ1 (Fr.with1 (Fr.suf A rfl) A rfl (by first | rfl | (simp [*]; done))) H.subH
    · have g1 := h1
      try simp only [decide_eq_true_eq, decide_eq_false_iff_not, Bool.not_eq_true', Bool.not_eq_false', ne_eq, Decidable.not_not, Int.not_lt, Int.not_le] at g1
      refine stepG (dj := 8) rfl rfl h1 (Runs.fa A rfl) A rfl ?_; clear A a; intro a A
      refine stepG (dj := 8) rfl rfl h1 (Runs.ld1 A H rfl rfl) A rfl ?_; clear A a; intro a A
      refine stepG (dj := 8) rfl rfl h1 (Runs.geq A rfl rfl) A rfl ?_; clear A a; intro a A
      refine step (Runs.pickF A rfl h1 rfl) A rfl ?_; clear A a; intro a A
      exact key1 _ _ _ hJ1 (Fr.with1 (Fr.suf A rfl) A rfl (by first | rfl | (simp [*]; done))) H.subH
  clear A H; intro a w m hm A H
  have hM := hM.trans hm
  have G := G.mono hm
  refine step (Runs.fa A rfl) A rfl ?_; clear A a; intro a A
  refine step (Runs.ld1 A H rfl rfl) A rfl ?_; clear A a; intro a A
  refine step (Runs.eql A rfl rfl) A rfl ?_; clear A a; intro a A
  refine step (Runs.move A rfl) A rfl ?_; clear A a; intro a A
  refine joinSame 4 (fun F => (20, .bool (decide (r.n = 0) || decide (r.kind = 3))) :: F) A H (fun key2 => ?_) ?_
  · have hJ2 := Le.refl m
    refine onBool A (dj := 16) rfl (fun h2 => ?_) (fun h2 => ?_)
    · have g2 := h2
      try simp only [decide_eq_true_eq, decide_eq_false_iff_not, Bool.not_eq_true', Bool.not_eq_false', ne_eq, Decidable.not_not, Int.not_lt, Int.not_le] at g2
      refine stepSkip (dj := 16) rfl rfl h2 A rfl ?_; clear A a; intro a A
      refine stepSkip (dj := 16) rfl rfl h2 A rfl ?_; clear A a; intro a A
      refine stepSkip (dj := 16) rfl rfl h2 A rfl ?_; clear A a; intro a A
      refine step (Runs.pickT A rfl h2 rfl) A rfl ?_; clear A a; intro a A
      exact key2 _ _ _ hJ2 (Fr.with1 (Fr.suf A rfl) A rfl (by first | rfl | (simp [*]; done))) H.subH
    · have g2 := h2
      try simp only [decide_eq_true_eq, decide_eq_false_iff_not, Bool.not_eq_true', Bool.not_eq_false', ne_eq, Decidable.not_not, Int.not_lt, Int.not_le] at g2
      refine stepG (dj := 16) rfl rfl h2 (Runs.fa A rfl) A rfl ?_; clear A a; intro a A
      refine stepG (dj := 16) rfl rfl h2 (Runs.ld1 A H rfl rfl) A rfl ?_; clear A a; intro a A
      refine stepG (dj := 16) rfl rfl h2 (Runs.eql A rfl rfl) A rfl ?_; clear A a; intro a A
      refine step (Runs.pickF A rfl h2 rfl) A rfl ?_; clear A a; intro a A
      exact key2 _ _ _ hJ2 (Fr.with1 (Fr.suf A rfl) A rfl (by first | rfl | (simp [*]; done))) H.subH
  clear A H; intro a w m hm A H
  have hM := hM.trans hm
  have G := G.mono hm
  refine step_slice A H rfl rfl rfl rfl rfl rfl ?_; intro bz a w A H
  refine step_callPr A rfl rfl (c_syntax_printer_zero (bz := bz) (l := [(decide (r.src = ⟨#[]⟩) || decide (2 ≤ r.kind)), (decide (r.n = 0) || decide (r.kind = 3))]) (bcs := [.bool (decide (r.src = ⟨#[]⟩) || decide (2 ≤ r.kind)), .bool (decide (r.n = 0) || decide (r.kind = 3))]) rfl rfl (by simp)) H (by omega) ?_
  clear A a; rintro v1_18 a w m hm rfl A H
  simp only [List.cons_append, List.nil_append] at H
  have hM := hM.trans hm
  have G := G.mono hm
  have H := H.pr_at (b := b) (y := andOk ((decide (r.src = ⟨#[]⟩) || decide (2 ≤ r.kind)) && (decide (r.n = 0) || decide (r.kind = 3))) x) (by simp [andOk])
  refine wpList_nil ?_
  refine wp_seq ?_
  refine wp_region_lit ?_
  refine step (Runs.fa A rfl) A rfl ?_; clear A a; intro a A
  refine step (Runs.ld1 A H rfl rfl) A rfl ?_; clear A a; intro a A
  refine wpList_nil ?_
  refine wp_block ?_
  refine wp_seq ?_
  refine wp_region_lit ?_
  refine step (Runs.eql A rfl rfl) A rfl ?_; clear A a; intro a A
  refine step (Runs.assign A rfl) A rfl ?_; clear A a; intro a A
  refine wpList_nil ?_
  refine cond_split A rfl (fun h3 => ?_) (fun h3 => ?_)
  · have g3 := h3
    try simp only [decide_eq_true_eq, decide_eq_false_iff_not, Bool.not_eq_true', Bool.not_eq_false', ne_eq, Decidable.not_not, Int.not_lt, Int.not_le] at g3
    refine wp_region_lit ?_
    refine step (Runs.move A rfl) A rfl ?_; clear A a; intro a A
    refine step (Runs.nilCheck A rfl) A rfl ?_; clear A a; intro a A
    refine step (Runs.fa A rfl) A rfl ?_; clear A a; intro a A
    refine step_callPr A rfl rfl (c_WriteString 4 (by decide)) H (by omega) ?_
    clear A a; rintro v5_3 a w m hm rfl A H
    simp only [List.cons_append, List.nil_append] at H
    have hM := hM.trans hm
    have G := G.mono hm
    refine wpList_nil ?_
    exact endPr A rfl hM H rfl (by simp [ruleP, *]) (by omega)
  · have g3 := h3
    try simp only [decide_eq_true_eq, decide_eq_false_iff_not, Bool.not_eq_true', Bool.not_eq_false', ne_eq, Decidable.not_not, Int.not_lt, Int.not_le] at g3
    refine wp_seq ?_
    refine wp_region_lit ?_
    refine step (Runs.eql A rfl rfl) A rfl ?_; clear A a; intro a A
    refine step (Runs.assign A rfl) A rfl ?_; clear A a; intro a A
    refine wpList_nil ?_
    refine cond_split A rfl (fun h4 => ?_) (fun h4 => ?_)
    · have g4 := h4
      try simp only [decide_eq_true_eq, decide_eq_false_iff_not, Bool.not_eq_true', Bool.not_eq_false', ne_eq, Decidable.not_not, Int.not_lt, Int.not_le] at g4
      refine wp_region_lit ?_
      refine step (Runs.move A rfl) A rfl ?_; clear A a; intro a A
      refine step (Runs.nilCheck A rfl) A rfl ?_; clear A a; intro a A
      refine step (Runs.fa A rfl) A rfl ?_; clear A a; intro a A
      refine step_callPr A rfl rfl (c_WriteString 4 (by decide)) H (by omega) ?_
      clear A a; rintro v7_3 a w m hm rfl A H
      simp only [List.cons_append, List.nil_append] at H
      have hM := hM.trans hm
      have G := G.mono hm
      refine wpList_nil ?_
      exact endPr A rfl hM H rfl (by simp [ruleP, *]) (by omega)
    · have g4 := h4
      try simp only [decide_eq_true_eq, decide_eq_false_iff_not, Bool.not_eq_true', Bool.not_eq_false', ne_eq, Decidable.not_not, Int.not_lt, Int.not_le] at g4
      refine wp_seq ?_
      refine wp_region_lit ?_
      refine step (Runs.eql A rfl rfl) A rfl ?_; clear A a; intro a A
      refine step (Runs.assign A rfl) A rfl ?_; clear A a; intro a A
      refine wpList_nil ?_
      refine cond_split A rfl (fun h5 => ?_) (fun h5 => ?_)
      · have g5 := h5
        try simp only [decide_eq_true_eq, decide_eq_false_iff_not, Bool.not_eq_true', Bool.not_eq_false', ne_eq, Decidable.not_not, Int.not_lt, Int.not_le] at g5
        refine wp_seq ?_
        refine wp_region_lit ?_
        refine step (Runs.move A rfl) A rfl ?_; clear A a; intro a A
        refine step (Runs.nilCheck A rfl) A rfl ?_; clear A a; intro a A
        refine step (Runs.fa A rfl) A rfl ?_; clear A a; intro a A
        refine step_callPr A rfl rfl (c_WriteString 5 (by decide)) H (by omega) ?_
        clear A a; rintro v9_3 a w m hm rfl A H
        simp only [List.cons_append, List.nil_append] at H
        have hM := hM.trans hm
        have G := G.mono hm
        refine wpList_nil ?_
        refine wp_region_lit ?_
        refine step (Runs.move A rfl) A rfl ?_; clear A a; intro a A
        refine step (Runs.fa A rfl) A rfl ?_; clear A a; intro a A
        refine step (Runs.ld1 A H rfl rfl) A rfl ?_; clear A a; intro a A
        refine step_callPr A rfl rfl (c_syntax_printer_name G (by omega)) H (by omega) ?_
        clear A a; rintro v10_3 a w m hm rfl A H
        simp only [List.cons_append, List.nil_append] at H
        have hM := hM.trans hm
        have G := G.mono hm
        refine wpList_nil ?_
        exact endPr A rfl hM H rfl (by simp [ruleP, *]) (by omega)
      · have g5 := h5
        try simp only [decide_eq_true_eq, decide_eq_false_iff_not, Bool.not_eq_true', Bool.not_eq_false', ne_eq, Decidable.not_not, Int.not_lt, Int.not_le] at g5
        refine wp_seq ?_
        refine wp_region_lit ?_
        refine step (Runs.eql A rfl rfl) A rfl ?_; clear A a; intro a A
        refine step (Runs.assign A rfl) A rfl ?_; clear A a; intro a A
        refine wpList_nil ?_
        refine cond_split A rfl (fun h6 => ?_) (fun h6 => ?_)
        · have g6 := h6
          try simp only [decide_eq_true_eq, decide_eq_false_iff_not, Bool.not_eq_true', Bool.not_eq_false', ne_eq, Decidable.not_not, Int.not_lt, Int.not_le] at g6
          refine wp_seq ?_
          refine wp_region_lit ?_
          refine step (Runs.move A rfl) A rfl ?_; clear A a; intro a A
          refine step (Runs.nilCheck A rfl) A rfl ?_; clear A a; intro a A
          refine step (Runs.fa A rfl) A rfl ?_; clear A a; intro a A
          refine step_callPr A rfl rfl (c_WriteString 4 (by decide)) H (by omega) ?_
          clear A a; rintro v12_3 a w m hm rfl A H
          simp only [List.cons_append, List.nil_append] at H
          have hM := hM.trans hm
          have G := G.mono hm
          refine wpList_nil ?_
          refine wp_seq ?_
          refine wp_region_lit ?_
          refine step (Runs.move A rfl) A rfl ?_; clear A a; intro a A
          refine step (Runs.fa A rfl) A rfl ?_; clear A a; intro a A
          refine step (Runs.ld1 A H rfl rfl) A rfl ?_; clear A a; intro a A
          refine step_callPr A rfl rfl (c_syntax_printer_name G (by omega)) H (by omega) ?_
          clear A a; rintro v13_3 a w m hm rfl A H
          simp only [List.cons_append, List.nil_append] at H
          have hM := hM.trans hm
          have G := G.mono hm
          refine wpList_nil ?_
          refine wp_seq ?_
          refine wp_region_lit ?_
          refine step (Runs.move A rfl) A rfl ?_; clear A a; intro a A
          refine step (Runs.nilCheck A rfl) A rfl ?_; clear A a; intro a A
          refine step (Runs.fa A rfl) A rfl ?_; clear A a; intro a A
          refine step_callPr A rfl rfl (c_WriteString 1 (by decide)) H (by omega) ?_
          clear A a; rintro v14_3 a w m hm rfl A H
          simp only [List.cons_append, List.nil_append] at H
          have hM := hM.trans hm
          have G := G.mono hm
          refine wpList_nil ?_
          refine wp_region_lit ?_
          refine step (Runs.move A rfl) A rfl ?_; clear A a; intro a A
          refine step (Runs.fa A rfl) A rfl ?_; clear A a; intro a A
          refine step (Runs.ld1 A H rfl rfl) A rfl ?_; clear A a; intro a A
          refine step_callPr A rfl rfl (c_syntax_printer_number G hr') H (by omega) ?_
          clear A a; rintro v15_3 a w m hm rfl A H
          simp only [List.cons_append, List.nil_append] at H
          have hM := hM.trans hm
          have G := G.mono hm
          refine wpList_nil ?_
          exact endPr A rfl hM H rfl (by simp [ruleP, *]) (by omega)
        · have g6 := h6
          try simp only [decide_eq_true_eq, decide_eq_false_iff_not, Bool.not_eq_true', Bool.not_eq_false', ne_eq, Decidable.not_not, Int.not_lt, Int.not_le] at g6
          obtain ⟨pa, ad, c, hpa, had, hlen, H⟩ := H.pr_open (b := b)
          refine wp_region_lit ?_
          refine step (Runs.move A rfl) A rfl ?_; clear A a; intro a A
          refine step (Runs.nilCheck A rfl) A rfl ?_; clear A a; intro a A
          refine step (Runs.fa A rfl) A rfl ?_; clear A a; intro a A
          refine step_store A H rfl rfl rfl rfl rfl rfl ?_; intro w H
          refine wpList_nil ?_
          have H := H.pr_close hpa had hlen
          exact endPr A rfl hM H rfl (by simp [ruleP, *]) (by omega)
end Sl
end Go.Proofs.YtanhehbfbakdcaaGreatDoor
