/- The printer's lists and bindings: printed by my gen.py out of annotations. -/
import Derived.Test.YtanhehbfbakdcaaGreatDoorPrY
set_option linter.unusedSimpArgs false
set_option linter.unusedVariables false
namespace Go.Proofs.YtanhehbfbakdcaaGreatDoor
namespace Sl
open Go

theorem c_item_2 {b bw tw : Nat} {z : PBind} {m : Mem} (G : Glob m) (hz : z.port.size + z.chan.size ≤ 1000000000000) : PrSpec Tryz.prog 98 [.agg #[.string z.port, .string z.chan], .pointer (some ⟨bw, 0, none⟩)] m b [pt bw [.pointer (some ⟨b, 0, none⟩)] tw] (bindP z) (z.port.size + z.chan.size + 3) (fun _ v => v = .tuple #[]) := by
  intro x B hB
  refine Spec.enter Tryz.func98 rfl 15 Tryz.ntmps98 rfl fun a w0 Lf A H => ?_
  simp only [List.cons_append, List.nil_append] at H
  have hM := Le.refl m
  refine wp_seq ?_
  refine wp_region_lit ?_
  refine step_box A H rfl (by simp only [Value.cells, List.toList_toArray]; rfl) rfl ?_; intro b1 a w A H
  refine wpList_nil ?_
  refine wp_seq ?_
  refine wp_region_lit ?_
  refine step (Runs.ld1 A H rfl rfl) A rfl ?_; clear A a; intro a A
  refine step (Runs.fa A rfl) A rfl ?_; clear A a; intro a A
  refine step (Runs.ld1 A H rfl rfl) A rfl ?_; clear A a; intro a A
  refine step_callPr A rfl rfl (c_syntax_printer_name G (by omega)) H (by omega) ?_
  clear A a; rintro v1_3 a w m hm rfl A H
  simp only [List.cons_append, List.nil_append] at H
  have hM := hM.trans hm
  have G := G.mono hm
  refine wpList_nil ?_
  refine wp_seq ?_
  refine wp_region_lit ?_
  refine step (Runs.ld1 A H rfl rfl) A rfl ?_; clear A a; intro a A
  refine step (Runs.nilCheck A rfl) A rfl ?_; clear A a; intro a A
  refine step (Runs.fa A rfl) A rfl ?_; clear A a; intro a A
  refine step_callPr A rfl rfl (c_WriteString 3 (by decide)) H (by omega) ?_
  clear A a; rintro v2_3 a w m hm rfl A H
  simp only [List.cons_append, List.nil_append] at H
  have hM := hM.trans hm
  have G := G.mono hm
  refine wpList_nil ?_
  refine wp_region_lit ?_
  refine step (Runs.ld1 A H rfl rfl) A rfl ?_; clear A a; intro a A
  refine step (Runs.fa A rfl) A rfl ?_; clear A a; intro a A
  refine step (Runs.ld1 A H rfl rfl) A rfl ?_; clear A a; intro a A
  refine step_callPr A rfl rfl (c_syntax_printer_name G (by omega)) H (by omega) ?_
  clear A a; rintro v3_3 a w m hm rfl A H
  simp only [List.cons_append, List.nil_append] at H
  have hM := hM.trans hm
  have G := G.mono hm
  refine wpList_nil ?_
  exact endPr A rfl hM H rfl rfl (by omega)

theorem c_listS {b  : Nat} {ad : Option Addr} {c : Nat} {l : List ByteArray} {m : Mem} (G : Glob m) (hl : Lst StrR 1 m ad c l) : PrSpec Tryz.prog 62 [.pointer (some ⟨b, 0, none⟩), .slice ad l.length c, .func (.func 61) #[.pointer (some ⟨b, 0, none⟩)] #[]] m b [] (listP nameP l) (szStrs l + 2) (fun _ v => v = .tuple #[]) := by
  intro x B hB
  refine Spec.enter Tryz.func62 rfl 33 Tryz.ntmps62 rfl fun a w0 Lf A H => ?_
  simp only [List.cons_append, List.nil_append] at H
  have hM := Le.refl m
  have hcap := hl.cap
  have hmx : maxLen = 9223372036854775807 := rfl
  refine wp_seq ?_
  refine wp_region_lit ?_
  refine step (Runs.move A rfl) A rfl ?_; clear A a; intro a A
  refine step (Runs.nilCheck A rfl) A rfl ?_; clear A a; intro a A
  refine step (Runs.fa A rfl) A rfl ?_; clear A a; intro a A
  refine step_callPr A rfl rfl (c_WriteString 1 (by decide)) H (by omega) ?_
  clear A a; rintro v0_3 a w m hm rfl A H
  simp only [List.cons_append, List.nil_append] at H
  have hM := hM.trans hm
  have G := G.mono hm
  have hl := hl.mono hm
  refine wpList_nil ?_
  refine wp_seq ?_
  refine wp_seq ?_
  refine wp_region_lit ?_
  refine step (Runs.move A rfl) A rfl ?_; clear A a; intro a A
  refine step (Runs.lenL A rfl SlC.h) A rfl ?_; clear A a; intro a A
  refine step (Runs.move A rfl) A rfl ?_; clear A a; intro a A
  refine wpList_nil ?_
  refine wp_block ?_
  have H := H.pr_le (b := b) (B' := B + 1 + szStrs (l.take 0)) (by simp [szL])
  refine wp_loop_ghost (fun q a w => ∃ (i : Nat) (y : PS) (m' : Mem), q = l.length - i ∧ (i ≤ l.length ∧ listGo nameP (l.drop i) (decide (i = 0)) y = listGo nameP l true (wr [40] x)) ∧ Le m m' ∧ Fr 33 a [(0, .pointer (some ⟨b, 0, none⟩)), (2, .func (.func 61) #[.pointer (some ⟨b, 0, none⟩)] #[]), (12, .slice ad l.length c), (13, .int .i64 l.length), (14, .int .i64 i)] [] ∧ St w0 w m' (prR b y (B + 1 + szStrs (l.take i)) :: Lf)) _ ⟨0, wr [40] x, m, rfl, ⟨by omega, rfl⟩, Le.refl m, (Fr.cons A rfl (Fr.cons A rfl (Fr.cons A rfl (Fr.cons A rfl (Fr.cons A rfl (Fr.nil A)))))), H.subH⟩ ?_
  clear A H; rintro q a w ⟨i, y, m, rfl, hinv, hm, A, H⟩
  have hM := hM.trans hm
  have G := G.mono hm
  have hl := hl.mono hm
  have hl1 := hm
  obtain ⟨hi, hgo⟩ := hinv
  refine wp_seq ?_
  refine wp_region_lit ?_
  refine step (Runs.lss A rfl rfl) A rfl ?_; clear A a; intro a A
  refine wpList_nil ?_
  refine wp_seq ?_
  refine cond_split A rfl (fun h1 => ?_) (fun h1 => ?_)
  · have g1 := h1
    try simp only [decide_eq_true_eq, decide_eq_false_iff_not, Bool.not_eq_true', Bool.not_eq_false', ne_eq, Decidable.not_not, Int.not_lt, Int.not_le] at g1
    refine wp_skip ?_
    refine wp_seq ?_
    refine wp_block ?_
    refine wp_seq ?_
    refine wp_region_lit ?_
    refine step (Runs.move A rfl) A rfl ?_; clear A a; intro a A
    obtain ⟨q, hq⟩ := ex_at (l := l) (i := i) (by omega)
    obtain ⟨bb, off, cs, rfl, hfz, hcs⟩ := hl.all_ (by decide) (by omega)
    obtain ⟨us, hus, hR, hg⟩ := hcs _ _ hq
    have hR : us = [.string q] := hR
    subst hR
    have hst : szStrs (l.take (i + 1)) = szStrs (l.take i) + (4 + q.size) := szL_take hq
    have hsm : 4 + q.size ≤ szStrs l := szL_mem (g := fun x => 4 + x.size) hq
    have hsl : szStrs (l.take i) ≤ szStrs l := szL_le i
    have hsl2 : szStrs (l.take (i + 1)) ≤ szStrs l := szL_le (i + 1)
    refine step (Runs.indexAddr A rfl rfl SlC.h (by omega) (by omega)) A rfl ?_; clear A a; intro a A
    refine step (Runs.ld1 A H rfl (v := .string q) (getN_1 (by simpa using hg))) A rfl ?_; clear A a; intro a A
    refine step (Runs.assign A rfl) A rfl ?_; clear A a; intro a A
    refine step (Runs.assign A rfl) A rfl ?_; clear A a; intro a A
    refine wpList_nil ?_
    refine wp_seq ?_
    refine wp_seq ?_
    refine wp_region_lit ?_
    refine step (Runs.move A rfl) A rfl ?_; clear A a; intro a A
    refine step (Runs.gtr A rfl rfl) A rfl ?_; clear A a; intro a A
    refine wpList_nil ?_
    refine cond_split A rfl (fun h2 => ?_) (fun h2 => ?_)
    · have g2 := h2
      try simp only [decide_eq_true_eq, decide_eq_false_iff_not, Bool.not_eq_true', Bool.not_eq_false', ne_eq, Decidable.not_not, Int.not_lt, Int.not_le] at g2
      refine wp_region_lit ?_
      refine step (Runs.move A rfl) A rfl ?_; clear A a; intro a A
      refine step (Runs.nilCheck A rfl) A rfl ?_; clear A a; intro a A
      refine step (Runs.fa A rfl) A rfl ?_; clear A a; intro a A
      refine step_callPr A rfl rfl (c_WriteString 2 (by decide)) H (by omega) ?_
      clear A a; rintro v5_3 a w m hm rfl A H
      simp only [List.cons_append, List.nil_append] at H
      have hM := hM.trans hm
      have hl1 := hl1.trans hm
      have G := G.mono hm
      have hl := hl.mono hm
      refine wpList_nil ?_
      refine wp_region_lit ?_
      refine step (Runs.move A rfl) A rfl ?_; clear A a; intro a A
      refine step (Runs.move A rfl) A rfl ?_; clear A a; intro a A
      refine step_cloPrB (fs := [.pointer (some ⟨b, 0, none⟩)]) (cap := []) A rfl rfl rfl (c_syntax_printer_name G (by omega)) H (by omega) ?_
      clear A a; rintro v6_2 a w m hm rfl A H
      simp only [List.cons_append, List.nil_append] at H
      have hM := hM.trans hm
      have hl1 := hl1.trans hm
      have G := G.mono hm
      have hl := hl.mono hm
      refine wpList_nil ?_
      refine wp_region_lit ?_
      refine step (Runs.add A rfl rfl (by omega)) A rfl ?_; clear A a; intro a A
      refine step (Runs.move A rfl) A rfl ?_; clear A a; intro a A
      refine wpList_nil ?_
      have H := H.pr_le (b := b) (B' := B + 1 + szStrs (l.take (i + 1))) (by omega)
      exact ⟨_, by omega, i + 1, nameP q (wr [44, 32] y), m, rfl, ⟨by omega, by rw [← hgo, listGo_step hq, if_neg (by omega)]⟩, hl1, (Fr.cons A rfl (Fr.cons A rfl (Fr.cons A rfl (Fr.cons A rfl (Fr.cons A rfl (Fr.nil A)))))), H.subH⟩
    · have g2 := h2
      try simp only [decide_eq_true_eq, decide_eq_false_iff_not, Bool.not_eq_true', Bool.not_eq_false', ne_eq, Decidable.not_not, Int.not_lt, Int.not_le] at g2
      refine wp_skip ?_
      refine wp_region_lit ?_
      refine step (Runs.move A rfl) A rfl ?_; clear A a; intro a A
      refine step (Runs.move A rfl) A rfl ?_; clear A a; intro a A
      refine step_cloPrB (fs := [.pointer (some ⟨b, 0, none⟩)]) (cap := []) A rfl rfl rfl (c_syntax_printer_name G (by omega)) H (by omega) ?_
      clear A a; rintro v6_2 a w m hm rfl A H
      simp only [List.cons_append, List.nil_append] at H
      have hM := hM.trans hm
      have hl1 := hl1.trans hm
      have G := G.mono hm
      have hl := hl.mono hm
      refine wpList_nil ?_
      refine wp_region_lit ?_
      refine step (Runs.add A rfl rfl (by omega)) A rfl ?_; clear A a; intro a A
      refine step (Runs.move A rfl) A rfl ?_; clear A a; intro a A
      refine wpList_nil ?_
      have H := H.pr_le (b := b) (B' := B + 1 + szStrs (l.take (i + 1))) (by omega)
      exact ⟨_, by omega, i + 1, nameP q (y), m, rfl, ⟨by omega, by rw [← hgo, listGo_step hq, if_pos (by omega)]⟩, hl1, (Fr.cons A rfl (Fr.cons A rfl (Fr.cons A rfl (Fr.cons A rfl (Fr.cons A rfl (Fr.nil A)))))), H.subH⟩
  · have g1 := h1
    try simp only [decide_eq_true_eq, decide_eq_false_iff_not, Bool.not_eq_true', Bool.not_eq_false', ne_eq, Decidable.not_not, Int.not_lt, Int.not_le] at g1
    refine wp_exit ?_
    have hil : i = l.length := by omega
    have hsl9 : szStrs (l.take i) ≤ szStrs l := szL_le _
    refine wp_region_lit ?_
    refine step (Runs.move A rfl) A rfl ?_; clear A a; intro a A
    refine step (Runs.nilCheck A rfl) A rfl ?_; clear A a; intro a A
    refine step (Runs.fa A rfl) A rfl ?_; clear A a; intro a A
    refine step_callPr A rfl rfl (c_WriteString 1 (by decide)) H (by omega) ?_
    clear A a; rintro v8_3 a w m hm rfl A H
    simp only [List.cons_append, List.nil_append] at H
    have hM := hM.trans hm
    have G := G.mono hm
    have hl := hl.mono hm
    refine wpList_nil ?_
    subst hil
    rw [List.drop_length, listGo] at hgo
    have hsl : szStrs (l.take l.length) ≤ szStrs l := szL_le _
    exact endPr A rfl hM H rfl (by rw [hgo]; rfl) (by omega)

theorem c_listN {b  : Nat} {ad : Option Addr} {c : Nat} {l : List PNum} {m : Mem} (G : Glob m) (hl : Lst NumR 2 m ad c l) : PrSpec Tryz.prog 96 [.pointer (some ⟨b, 0, none⟩), .slice ad l.length c, .func (.func 93) #[.pointer (some ⟨b, 0, none⟩)] #[]] m b [] (listP numP l) (szNums l + 2) (fun _ v => v = .tuple #[]) := by
  intro x B hB
  refine Spec.enter Tryz.func96 rfl 33 Tryz.ntmps96 rfl fun a w0 Lf A H => ?_
  simp only [List.cons_append, List.nil_append] at H
  have hM := Le.refl m
  have hcap := hl.cap
  have hmx : maxLen = 9223372036854775807 := rfl
  refine wp_seq ?_
  refine wp_region_lit ?_
  refine step (Runs.move A rfl) A rfl ?_; clear A a; intro a A
  refine step (Runs.nilCheck A rfl) A rfl ?_; clear A a; intro a A
  refine step (Runs.fa A rfl) A rfl ?_; clear A a; intro a A
  refine step_callPr A rfl rfl (c_WriteString 1 (by decide)) H (by omega) ?_
  clear A a; rintro v0_3 a w m hm rfl A H
  simp only [List.cons_append, List.nil_append] at H
  have hM := hM.trans hm
  have G := G.mono hm
  have hl := hl.mono hm
  refine wpList_nil ?_
  refine wp_seq ?_
  refine wp_seq ?_
  refine wp_region_lit ?_
  refine step (Runs.move A rfl) A rfl ?_; clear A a; intro a A
  refine step (Runs.lenL A rfl SlC.h) A rfl ?_; clear A a; intro a A
  refine step (Runs.move A rfl) A rfl ?_; clear A a; intro a A
  refine wpList_nil ?_
  refine wp_block ?_
  have H := H.pr_le (b := b) (B' := B + 1 + szNums (l.take 0)) (by simp [szL])
  refine wp_loop_ghost (fun q a w => ∃ (i : Nat) (y : PS) (m' : Mem), q = l.length - i ∧ (i ≤ l.length ∧ listGo numP (l.drop i) (decide (i = 0)) y = listGo numP l true (wr [40] x)) ∧ Le m m' ∧ Fr 33 a [(0, .pointer (some ⟨b, 0, none⟩)), (2, .func (.func 93) #[.pointer (some ⟨b, 0, none⟩)] #[]), (12, .slice ad l.length c), (13, .int .i64 l.length), (14, .int .i64 i)] [] ∧ St w0 w m' (prR b y (B + 1 + szNums (l.take i)) :: Lf)) _ ⟨0, wr [40] x, m, rfl, ⟨by omega, rfl⟩, Le.refl m, (Fr.cons A rfl (Fr.cons A rfl (Fr.cons A rfl (Fr.cons A rfl (Fr.cons A rfl (Fr.nil A)))))), H.subH⟩ ?_
  clear A H; rintro q a w ⟨i, y, m, rfl, hinv, hm, A, H⟩
  have hM := hM.trans hm
  have G := G.mono hm
  have hl := hl.mono hm
  have hl1 := hm
  obtain ⟨hi, hgo⟩ := hinv
  refine wp_seq ?_
  refine wp_region_lit ?_
  refine step (Runs.lss A rfl rfl) A rfl ?_; clear A a; intro a A
  refine wpList_nil ?_
  refine wp_seq ?_
  refine cond_split A rfl (fun h1 => ?_) (fun h1 => ?_)
  · have g1 := h1
    try simp only [decide_eq_true_eq, decide_eq_false_iff_not, Bool.not_eq_true', Bool.not_eq_false', ne_eq, Decidable.not_not, Int.not_lt, Int.not_le] at g1
    refine wp_skip ?_
    refine wp_seq ?_
    refine wp_block ?_
    refine wp_seq ?_
    refine wp_region_lit ?_
    refine step (Runs.move A rfl) A rfl ?_; clear A a; intro a A
    obtain ⟨q, hq⟩ := ex_at (l := l) (i := i) (by omega)
    obtain ⟨bb, off, cs, rfl, hfz, hcs⟩ := hl.all_ (by decide) (by omega)
    obtain ⟨us, hus, hR, hg⟩ := hcs _ _ hq
    have hR' : us = [.int .i64 q.n, .string q.p] ∧ I64 q.n := hR
    obtain ⟨rfl, hqn⟩ := hR'
    have hst : szNums (l.take (i + 1)) = szNums (l.take i) + (70 + q.p.size) := szL_take hq
    have hsm : 70 + q.p.size ≤ szNums l := szL_mem (g := fun x => 70 + x.p.size) hq
    have hsl : szNums (l.take i) ≤ szNums l := szL_le i
    have hsl2 : szNums (l.take (i + 1)) ≤ szNums l := szL_le (i + 1)
    refine step (Runs.indexAddr A rfl rfl SlC.h (by omega) (by omega)) A rfl ?_; clear A a; intro a A
    refine step (Runs.ldN A H rfl (vs := [.int .i64 q.n, .string q.p]) (by simpa using hg)) A rfl ?_; clear A a; intro a A
    refine step_alloc A H rfl ?_; clear A a; intro b9 a w A H
    refine step (Runs.assign A rfl) A rfl ?_; clear A a; intro a A
    refine step_store A H rfl rfl rfl rfl rfl rfl ?_; intro w H
    refine wpList_nil ?_
    refine wp_seq ?_
    refine wp_seq ?_
    refine wp_region_lit ?_
    refine step (Runs.move A rfl) A rfl ?_; clear A a; intro a A
    refine step (Runs.gtr A rfl rfl) A rfl ?_; clear A a; intro a A
    refine wpList_nil ?_
    refine cond_split A rfl (fun h2 => ?_) (fun h2 => ?_)
    · have g2 := h2
      try simp only [decide_eq_true_eq, decide_eq_false_iff_not, Bool.not_eq_true', Bool.not_eq_false', ne_eq, Decidable.not_not, Int.not_lt, Int.not_le] at g2
      refine wp_region_lit ?_
      refine step (Runs.move A rfl) A rfl ?_; clear A a; intro a A
      refine step (Runs.nilCheck A rfl) A rfl ?_; clear A a; intro a A
      refine step (Runs.fa A rfl) A rfl ?_; clear A a; intro a A
      refine step_callPr A rfl rfl (c_WriteString 2 (by decide)) H (by omega) ?_
      clear A a; rintro v5_3 a w m hm rfl A H
      simp only [List.cons_append, List.nil_append] at H
      have hM := hM.trans hm
      have hl1 := hl1.trans hm
      have G := G.mono hm
      have hl := hl.mono hm
      refine wpList_nil ?_
      refine wp_region_lit ?_
      refine step (Runs.move A rfl) A rfl ?_; clear A a; intro a A
      refine step (Runs.ldN A H rfl rfl) A rfl ?_; clear A a; intro a A
      refine step_cloPrB (fs := [.pointer (some ⟨b, 0, none⟩)]) (cap := []) A rfl rfl rfl (c_syntax_printer_num G hqn) H (by omega) ?_
      clear A a; rintro v6_2 a w m hm rfl A H
      simp only [List.cons_append, List.nil_append] at H
      have hM := hM.trans hm
      have hl1 := hl1.trans hm
      have G := G.mono hm
      have hl := hl.mono hm
      refine wpList_nil ?_
      refine wp_region_lit ?_
      refine step (Runs.add A rfl rfl (by omega)) A rfl ?_; clear A a; intro a A
      refine step (Runs.move A rfl) A rfl ?_; clear A a; intro a A
      refine wpList_nil ?_
      have H := H.pr_le (b := b) (B' := B + 1 + szNums (l.take (i + 1))) (by omega)
      exact ⟨_, by omega, i + 1, numP q (wr [44, 32] y), m, rfl, ⟨by omega, by rw [← hgo, listGo_step hq, if_neg (by omega)]⟩, hl1, (Fr.cons A rfl (Fr.cons A rfl (Fr.cons A rfl (Fr.cons A rfl (Fr.cons A rfl (Fr.nil A)))))), H.subH⟩
    · have g2 := h2
      try simp only [decide_eq_true_eq, decide_eq_false_iff_not, Bool.not_eq_true', Bool.not_eq_false', ne_eq, Decidable.not_not, Int.not_lt, Int.not_le] at g2
      refine wp_skip ?_
      refine wp_region_lit ?_
      refine step (Runs.move A rfl) A rfl ?_; clear A a; intro a A
      refine step (Runs.ldN A H rfl rfl) A rfl ?_; clear A a; intro a A
      refine step_cloPrB (fs := [.pointer (some ⟨b, 0, none⟩)]) (cap := []) A rfl rfl rfl (c_syntax_printer_num G hqn) H (by omega) ?_
      clear A a; rintro v6_2 a w m hm rfl A H
      simp only [List.cons_append, List.nil_append] at H
      have hM := hM.trans hm
      have hl1 := hl1.trans hm
      have G := G.mono hm
      have hl := hl.mono hm
      refine wpList_nil ?_
      refine wp_region_lit ?_
      refine step (Runs.add A rfl rfl (by omega)) A rfl ?_; clear A a; intro a A
      refine step (Runs.move A rfl) A rfl ?_; clear A a; intro a A
      refine wpList_nil ?_
      have H := H.pr_le (b := b) (B' := B + 1 + szNums (l.take (i + 1))) (by omega)
      exact ⟨_, by omega, i + 1, numP q (y), m, rfl, ⟨by omega, by rw [← hgo, listGo_step hq, if_pos (by omega)]⟩, hl1, (Fr.cons A rfl (Fr.cons A rfl (Fr.cons A rfl (Fr.cons A rfl (Fr.cons A rfl (Fr.nil A)))))), H.subH⟩
  · have g1 := h1
    try simp only [decide_eq_true_eq, decide_eq_false_iff_not, Bool.not_eq_true', Bool.not_eq_false', ne_eq, Decidable.not_not, Int.not_lt, Int.not_le] at g1
    refine wp_exit ?_
    have hil : i = l.length := by omega
    have hsl9 : szNums (l.take i) ≤ szNums l := szL_le _
    refine wp_region_lit ?_
    refine step (Runs.move A rfl) A rfl ?_; clear A a; intro a A
    refine step (Runs.nilCheck A rfl) A rfl ?_; clear A a; intro a A
    refine step (Runs.fa A rfl) A rfl ?_; clear A a; intro a A
    refine step_callPr A rfl rfl (c_WriteString 1 (by decide)) H (by omega) ?_
    clear A a; rintro v8_3 a w m hm rfl A H
    simp only [List.cons_append, List.nil_append] at H
    have hM := hM.trans hm
    have G := G.mono hm
    have hl := hl.mono hm
    refine wpList_nil ?_
    subst hil
    rw [List.drop_length, listGo] at hgo
    have hsl : szNums (l.take l.length) ≤ szNums l := szL_le _
    exact endPr A rfl hM H rfl (by rw [hgo]; rfl) (by omega)

theorem c_listB {b bw tw : Nat} {ad : Option Addr} {c : Nat} {l : List PBind} {m : Mem} (G : Glob m) (hl : Lst BindR 2 m ad c l) : PrSpec Tryz.prog 97 [.pointer (some ⟨b, 0, none⟩), .slice ad l.length c, .func (.func 98) #[] #[.pointer (some ⟨bw, 0, none⟩)]] m b [pt bw [.pointer (some ⟨b, 0, none⟩)] tw] (listP bindP l) (szBinds l + 2) (fun _ v => v = .tuple #[]) := by
  intro x B hB
  refine Spec.enter Tryz.func97 rfl 33 Tryz.ntmps97 rfl fun a w0 Lf A H => ?_
  simp only [List.cons_append, List.nil_append] at H
  have hM := Le.refl m
  have hcap := hl.cap
  have hmx : maxLen = 9223372036854775807 := rfl
  refine wp_seq ?_
  refine wp_region_lit ?_
  refine step (Runs.move A rfl) A rfl ?_; clear A a; intro a A
  refine step (Runs.nilCheck A rfl) A rfl ?_; clear A a; intro a A
  refine step (Runs.fa A rfl) A rfl ?_; clear A a; intro a A
  refine step_callPr A rfl rfl (c_WriteString 1 (by decide)) H (by omega) ?_
  clear A a; rintro v0_3 a w m hm rfl A H
  simp only [List.cons_append, List.nil_append] at H
  have hM := hM.trans hm
  have G := G.mono hm
  have hl := hl.mono hm
  refine wpList_nil ?_
  refine wp_seq ?_
  refine wp_seq ?_
  refine wp_region_lit ?_
  refine step (Runs.move A rfl) A rfl ?_; clear A a; intro a A
  refine step (Runs.lenL A rfl SlC.h) A rfl ?_; clear A a; intro a A
  refine step (Runs.move A rfl) A rfl ?_; clear A a; intro a A
  refine wpList_nil ?_
  refine wp_block ?_
  have H := H.pr_le (b := b) (B' := B + 1 + szBinds (l.take 0)) (by simp [szL])
  refine wp_loop_ghost (fun q a w => ∃ (i : Nat) (y : PS) (m' : Mem), q = l.length - i ∧ (i ≤ l.length ∧ listGo bindP (l.drop i) (decide (i = 0)) y = listGo bindP l true (wr [40] x)) ∧ Le m m' ∧ Fr 33 a [(0, .pointer (some ⟨b, 0, none⟩)), (2, .func (.func 98) #[] #[.pointer (some ⟨bw, 0, none⟩)]), (12, .slice ad l.length c), (13, .int .i64 l.length), (14, .int .i64 i)] [] ∧ St w0 w m' (prR b y (B + 1 + szBinds (l.take i)) :: pt bw [.pointer (some ⟨b, 0, none⟩)] tw :: Lf)) _ ⟨0, wr [40] x, m, rfl, ⟨by omega, rfl⟩, Le.refl m, (Fr.cons A rfl (Fr.cons A rfl (Fr.cons A rfl (Fr.cons A rfl (Fr.cons A rfl (Fr.nil A)))))), H.subH⟩ ?_
  clear A H; rintro q a w ⟨i, y, m, rfl, hinv, hm, A, H⟩
  have hM := hM.trans hm
  have G := G.mono hm
  have hl := hl.mono hm
  have hl1 := hm
  obtain ⟨hi, hgo⟩ := hinv
  refine wp_seq ?_
  refine wp_region_lit ?_
  refine step (Runs.lss A rfl rfl) A rfl ?_; clear A a; intro a A
  refine wpList_nil ?_
  refine wp_seq ?_
  refine cond_split A rfl (fun h1 => ?_) (fun h1 => ?_)
  · have g1 := h1
    try simp only [decide_eq_true_eq, decide_eq_false_iff_not, Bool.not_eq_true', Bool.not_eq_false', ne_eq, Decidable.not_not, Int.not_lt, Int.not_le] at g1
    refine wp_skip ?_
    refine wp_seq ?_
    refine wp_block ?_
    refine wp_seq ?_
    refine wp_region_lit ?_
    refine step (Runs.move A rfl) A rfl ?_; clear A a; intro a A
    obtain ⟨q, hq⟩ := ex_at (l := l) (i := i) (by omega)
    obtain ⟨bb, off, cs, rfl, hfz, hcs⟩ := hl.all_ (by decide) (by omega)
    obtain ⟨us, hus, hR, hg⟩ := hcs _ _ hq
    have hR : us = [.string q.port, .string q.chan] := hR
    subst hR
    have hst : szBinds (l.take (i + 1)) = szBinds (l.take i) + (10 + q.port.size + q.chan.size) := szL_take hq
    have hsm : 10 + q.port.size + q.chan.size ≤ szBinds l := szL_mem (g := fun x => 10 + x.port.size + x.chan.size) hq
    have hsl : szBinds (l.take i) ≤ szBinds l := szL_le i
    have hsl2 : szBinds (l.take (i + 1)) ≤ szBinds l := szL_le (i + 1)
    refine step (Runs.indexAddr A rfl rfl SlC.h (by omega) (by omega)) A rfl ?_; clear A a; intro a A
    refine step (Runs.ldN A H rfl (vs := [.string q.port, .string q.chan]) (by simpa using hg)) A rfl ?_; clear A a; intro a A
    refine step_alloc A H rfl ?_; clear A a; intro b9 a w A H
    refine step (Runs.assign A rfl) A rfl ?_; clear A a; intro a A
    refine step_store A H rfl rfl rfl rfl rfl rfl ?_; intro w H
    refine wpList_nil ?_
    refine wp_seq ?_
    refine wp_seq ?_
    refine wp_region_lit ?_
    refine step (Runs.move A rfl) A rfl ?_; clear A a; intro a A
    refine step (Runs.gtr A rfl rfl) A rfl ?_; clear A a; intro a A
    refine wpList_nil ?_
    refine cond_split A rfl (fun h2 => ?_) (fun h2 => ?_)
    · have g2 := h2
      try simp only [decide_eq_true_eq, decide_eq_false_iff_not, Bool.not_eq_true', Bool.not_eq_false', ne_eq, Decidable.not_not, Int.not_lt, Int.not_le] at g2
      refine wp_region_lit ?_
      refine step (Runs.move A rfl) A rfl ?_; clear A a; intro a A
      refine step (Runs.nilCheck A rfl) A rfl ?_; clear A a; intro a A
      refine step (Runs.fa A rfl) A rfl ?_; clear A a; intro a A
      refine step_callPr A rfl rfl (c_WriteString 2 (by decide)) H (by omega) ?_
      clear A a; rintro v5_3 a w m hm rfl A H
      simp only [List.cons_append, List.nil_append] at H
      have hM := hM.trans hm
      have hl1 := hl1.trans hm
      have G := G.mono hm
      have hl := hl.mono hm
      refine wpList_nil ?_
      refine wp_region_lit ?_
      refine step (Runs.move A rfl) A rfl ?_; clear A a; intro a A
      refine step (Runs.ldN A H rfl rfl) A rfl ?_; clear A a; intro a A
      refine step_cloPr (cap := [.pointer (some ⟨bw, 0, none⟩)]) A rfl rfl rfl (c_item_2 (b := b) (tw := tw) (z := q) G (by omega)) H (by omega) ?_
      clear A a; rintro v6_2 a w m hm rfl A H
      simp only [List.cons_append, List.nil_append] at H
      have hM := hM.trans hm
      have hl1 := hl1.trans hm
      have G := G.mono hm
      have hl := hl.mono hm
      refine wpList_nil ?_
      refine wp_region_lit ?_
      refine step (Runs.add A rfl rfl (by omega)) A rfl ?_; clear A a; intro a A
      refine step (Runs.move A rfl) A rfl ?_; clear A a; intro a A
      refine wpList_nil ?_
      have H := H.pr_le (b := b) (B' := B + 1 + szBinds (l.take (i + 1))) (by omega)
      exact ⟨_, by omega, i + 1, bindP q (wr [44, 32] y), m, rfl, ⟨by omega, by rw [← hgo, listGo_step hq, if_neg (by omega)]⟩, hl1, (Fr.cons A rfl (Fr.cons A rfl (Fr.cons A rfl (Fr.cons A rfl (Fr.cons A rfl (Fr.nil A)))))), H.subH⟩
    · have g2 := h2
      try simp only [decide_eq_true_eq, decide_eq_false_iff_not, Bool.not_eq_true', Bool.not_eq_false', ne_eq, Decidable.not_not, Int.not_lt, Int.not_le] at g2
      refine wp_skip ?_
      refine wp_region_lit ?_
      refine step (Runs.move A rfl) A rfl ?_; clear A a; intro a A
      refine step (Runs.ldN A H rfl rfl) A rfl ?_; clear A a; intro a A
      refine step_cloPr (cap := [.pointer (some ⟨bw, 0, none⟩)]) A rfl rfl rfl (c_item_2 (b := b) (tw := tw) (z := q) G (by omega)) H (by omega) ?_
      clear A a; rintro v6_2 a w m hm rfl A H
      simp only [List.cons_append, List.nil_append] at H
      have hM := hM.trans hm
      have hl1 := hl1.trans hm
      have G := G.mono hm
      have hl := hl.mono hm
      refine wpList_nil ?_
      refine wp_region_lit ?_
      refine step (Runs.add A rfl rfl (by omega)) A rfl ?_; clear A a; intro a A
      refine step (Runs.move A rfl) A rfl ?_; clear A a; intro a A
      refine wpList_nil ?_
      have H := H.pr_le (b := b) (B' := B + 1 + szBinds (l.take (i + 1))) (by omega)
      exact ⟨_, by omega, i + 1, bindP q (y), m, rfl, ⟨by omega, by rw [← hgo, listGo_step hq, if_pos (by omega)]⟩, hl1, (Fr.cons A rfl (Fr.cons A rfl (Fr.cons A rfl (Fr.cons A rfl (Fr.cons A rfl (Fr.nil A)))))), H.subH⟩
  · have g1 := h1
    try simp only [decide_eq_true_eq, decide_eq_false_iff_not, Bool.not_eq_true', Bool.not_eq_false', ne_eq, Decidable.not_not, Int.not_lt, Int.not_le] at g1
    refine wp_exit ?_
    have hil : i = l.length := by omega
    have hsl9 : szBinds (l.take i) ≤ szBinds l := szL_le _
    refine wp_region_lit ?_
    refine step (Runs.move A rfl) A rfl ?_; clear A a; intro a A
    refine step (Runs.nilCheck A rfl) A rfl ?_; clear A a; intro a A
    refine step (Runs.fa A rfl) A rfl ?_; clear A a; intro a A
    refine step_callPr A rfl rfl (c_WriteString 1 (by decide)) H (by omega) ?_
    clear A a; rintro v8_3 a w m hm rfl A H
    simp only [List.cons_append, List.nil_append] at H
    have hM := hM.trans hm
    have G := G.mono hm
    have hl := hl.mono hm
    refine wpList_nil ?_
    subst hil
    rw [List.drop_length, listGo] at hgo
    have hsl : szBinds (l.take l.length) ≤ szBinds l := szL_le _
    exact endPr A rfl hM H rfl (by rw [hgo]; rfl) (by omega)
end Sl
end Go.Proofs.YtanhehbfbakdcaaGreatDoor
