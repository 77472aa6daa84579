/- Print: printed by my gen.py out of annotations. -/
import Derived.Test.YtanhehbfbakdcaaGreatDoorPrI
set_option linter.unusedSimpArgs false
set_option linter.unusedVariables false
namespace Go.Proofs.YtanhehbfbakdcaaGreatDoor
namespace Sl
open Go

set_option maxHeartbeats 1000000 in
theorem c_Print {ad : Option Addr} {c : Nat} {l : List PMod} {m : Mem} (G : Glob m) (hl : Lst MoR 4 m ad c l) (hsz : szFile l ≤ 100000000000) : Spec Tryz.prog 40 #[.agg #[.slice ad l.length c]] m [] (RetF fun _ v => match printP l with | some t => v = .tuple #[.string ⟨t.toArray⟩, .int .i64 0] | none => v = .tuple #[.string ⟨#[]⟩, .int .i64 90]) := by
  refine Spec.enter0 Tryz.func40 rfl 84 Tryz.ntmps40 rfl fun a w0 Lf A H => ?_
  have hM := Le.refl m
  have hcap := hl.cap
  have hmx : maxLen = 9223372036854775807 := rfl
  refine wp_seq ?_
  refine wp_region_lit ?_
  refine step_box A H rfl (by simp only [Value.cells, List.toList_toArray]; rfl) rfl ?_; intro b1 a w A H
  refine step (Runs.assign A rfl) A rfl ?_; clear A a; intro a A
  refine step (Runs.assign A rfl) A rfl ?_; clear A a; intro a A
  refine wpList_nil ?_
  refine wp_seq ?_
  refine wp_region_lit ?_
  refine step (Runs.build A rfl rfl rfl) A rfl ?_; clear A a; intro a A
  refine step_box A H rfl (by simp only [Value.cells, List.toList_toArray]; rfl) rfl ?_; intro b a w A H
  refine step (Runs.assign A rfl) A rfl ?_; clear A a; intro a A
  refine wpList_nil ?_
  refine wp_seq ?_
  refine wp_seq ?_
  have H := (H.row_nil 5 1).perm (List.Perm.swap _ _ _)
  have H := St.pr_close (t := []) (B := szFile (l.take 0)) H (.inl rfl) (fun _ => rfl) (by simp)
  refine wp_region_lit ?_
  refine step (Runs.fa A rfl) A rfl ?_; clear A a; intro a A
  refine step (Runs.ld1 A H rfl rfl) A rfl ?_; clear A a; intro a A
  refine step (Runs.lenL A rfl SlC.h) A rfl ?_; clear A a; intro a A
  refine step (Runs.move A rfl) A rfl ?_; clear A a; intro a A
  refine wpList_nil ?_
  refine wp_block ?_
  refine wp_loop_ghost (fun q a w => ∃ (i : Nat) (y : PS) (m' : Mem), q = l.length - i ∧ (i ≤ l.length ∧ y = (l.take i).foldl (fun x m => modP m x) ⟨[], true⟩) ∧ Le m m' ∧ Fr 84 a [(4, .pointer (some ⟨b, 0, none⟩)), (12, .slice ad l.length c), (13, .int .i64 l.length), (14, .int .i64 i)] [] ∧ St w0 w m' (prR b y (szFile (l.take i)) :: pt b1 [.slice ad l.length c] 38 :: Lf)) _ ⟨0, ⟨[], true⟩, m, rfl, ⟨by omega, rfl⟩, Le.refl m, (Fr.cons A rfl (Fr.cons A rfl (Fr.cons A rfl (Fr.cons A rfl (Fr.nil A))))), H.subH⟩ ?_
  clear A H; rintro q a w ⟨i, y, m, rfl, hinv, hm, A, H⟩
  have hM := hM.trans hm
  have G := G.mono hm
  have hl := hl.mono hm
  have hl1 := hm
  obtain ⟨hi, hy⟩ := hinv
  have hsl : szFile (l.take i) ≤ szFile l := szL_le i
  refine wp_seq ?_
  refine wp_region_lit ?_
  refine step (Runs.lss A rfl rfl) A rfl ?_; clear A a; intro a A
  refine wpList_nil ?_
  refine wp_seq ?_
  refine cond_split A rfl (fun h1 => ?_) (fun h1 => ?_)
  · have g1 := h1
    try simp only [decide_eq_true_eq, decide_eq_false_iff_not, Bool.not_eq_true', Bool.not_eq_false', ne_eq, Decidable.not_not, Int.not_lt, Int.not_le] at g1
    refine wp_skip ?_
    refine wp_seq ?_
    refine wp_block ?_
    refine wp_seq ?_
    refine wp_region_lit ?_
    obtain ⟨mo, hq⟩ := ex_at (l := l) (i := i) (by omega)
    obtain ⟨bb, off, cs, rfl, hfz, hcs⟩ := hl.all_ (by decide) (by omega)
    obtain ⟨us, hus, hR, hg⟩ := hcs _ _ hq
    obtain ⟨ap, cp, ai, ci, rfl, hmo⟩ := hR
    obtain ⟨hmp, hmi⟩ := hmo
    have hst : szFile (l.take (i + 1)) = szFile (l.take i) + szMod mo := szL_take hq
    have hsl2 : szFile (l.take (i + 1)) ≤ szFile l := szL_le (i + 1)
    have hszm : szMod mo = 100 + mo.name.size + mo.clock.size + szStrs mo.params + szL (fun i => 10 + szItem i) mo.items := rfl
    have hcpi := hmi.cap
    refine step (Runs.indexAddr A rfl rfl SlC.h (by omega) (by omega)) A rfl ?_; clear A a; intro a A
    refine step (Runs.ldN A H rfl (vs := moC mo ap cp ai ci) (by simpa using hg)) A rfl ?_; clear A a; intro a A
    refine step_alloc A H rfl ?_; clear A a; intro b6 a w A H
    refine step_store A H rfl rfl rfl rfl rfl rfl ?_; intro w H
    refine wpList_nil ?_
    refine wp_seq ?_
    refine wp_region_lit ?_
    refine step (Runs.move A rfl) A rfl ?_; clear A a; intro a A
    refine step (Runs.nilCheck A rfl) A rfl ?_; clear A a; intro a A
    refine step (Runs.fa A rfl) A rfl ?_; clear A a; intro a A
    refine step_callPr A rfl rfl (c_WriteString 7 (by decide)) H (by omega) ?_
    clear A a; rintro v5_3 a w m hm rfl A H
    simp only [List.cons_append, List.nil_append] at H
    have hM := hM.trans hm
    have hl1 := hl1.trans hm
    have G := G.mono hm
    have hl := hl.mono hm
    have hmp := hmp.mono hm
    have hmi := hmi.mono hm
    refine wpList_nil ?_
    refine wp_seq ?_
    refine wp_region_lit ?_
    refine step (Runs.move A rfl) A rfl ?_; clear A a; intro a A
    refine step (Runs.fa A rfl) A rfl ?_; clear A a; intro a A
    refine step (Runs.ld1 A H rfl rfl) A rfl ?_; clear A a; intro a A
    refine step_callPr A rfl rfl (c_syntax_printer_name G (by omega)) H (by omega) ?_
    clear A a; rintro v6_3 a w m hm rfl A H
    simp only [List.cons_append, List.nil_append] at H
    have hM := hM.trans hm
    have hl1 := hl1.trans hm
    have G := G.mono hm
    have hl := hl.mono hm
    have hmp := hmp.mono hm
    have hmi := hmi.mono hm
    refine wpList_nil ?_
    refine wp_seq ?_
    refine wp_region_lit ?_
    refine step (Runs.move A rfl) A rfl ?_; clear A a; intro a A
    refine step (Runs.fa A rfl) A rfl ?_; clear A a; intro a A
    refine step (Runs.ld1 A H rfl rfl) A rfl ?_; clear A a; intro a A
    refine step (Runs.move A rfl) A rfl ?_; clear A a; intro a A
    refine step (Runs.makeFuncB A rfl rfl) A rfl ?_; clear A a; intro a A
    refine step_callPr A rfl rfl (c_listS G hmp) H (by omega) ?_
    clear A a; rintro v7_5 a w m hm rfl A H
    simp only [List.cons_append, List.nil_append] at H
    have hM := hM.trans hm
    have hl1 := hl1.trans hm
    have G := G.mono hm
    have hl := hl.mono hm
    have hmp := hmp.mono hm
    have hmi := hmi.mono hm
    refine wpList_nil ?_
    refine wp_seq ?_
    refine wp_region_lit ?_
    refine step (Runs.move A rfl) A rfl ?_; clear A a; intro a A
    refine step (Runs.nilCheck A rfl) A rfl ?_; clear A a; intro a A
    refine step (Runs.fa A rfl) A rfl ?_; clear A a; intro a A
    refine step_callPr A rfl rfl (c_WriteString 3 (by decide)) H (by omega) ?_
    clear A a; rintro v8_3 a w m hm rfl A H
    simp only [List.cons_append, List.nil_append] at H
    have hM := hM.trans hm
    have hl1 := hl1.trans hm
    have G := G.mono hm
    have hl := hl.mono hm
    have hmp := hmp.mono hm
    have hmi := hmi.mono hm
    refine wpList_nil ?_
    refine wp_seq ?_
    refine wp_region_lit ?_
    refine step (Runs.move A rfl) A rfl ?_; clear A a; intro a A
    refine step (Runs.fa A rfl) A rfl ?_; clear A a; intro a A
    refine step (Runs.ld1 A H rfl rfl) A rfl ?_; clear A a; intro a A
    refine step_callPr A rfl rfl (c_syntax_printer_name G (by omega)) H (by omega) ?_
    clear A a; rintro v9_3 a w m hm rfl A H
    simp only [List.cons_append, List.nil_append] at H
    have hM := hM.trans hm
    have hl1 := hl1.trans hm
    have G := G.mono hm
    have hl := hl.mono hm
    have hmp := hmp.mono hm
    have hmi := hmi.mono hm
    refine wpList_nil ?_
    refine wp_seq ?_
    refine wp_region_lit ?_
    refine step (Runs.move A rfl) A rfl ?_; clear A a; intro a A
    refine step (Runs.nilCheck A rfl) A rfl ?_; clear A a; intro a A
    refine step (Runs.fa A rfl) A rfl ?_; clear A a; intro a A
    refine step_callPr A rfl rfl (c_WriteString 3 (by decide)) H (by omega) ?_
    clear A a; rintro v10_3 a w m hm rfl A H
    simp only [List.cons_append, List.nil_append] at H
    have hM := hM.trans hm
    have hl1 := hl1.trans hm
    have G := G.mono hm
    have hl := hl.mono hm
    have hmp := hmp.mono hm
    have hmi := hmi.mono hm
    refine wpList_nil ?_
    refine wp_seq ?_
    refine wp_seq ?_
    have H := H.pr_at (b := b) (y := wr [32, 123, 10] (nameP mo.clock (wr [32, 64, 32] (listP nameP mo.params (nameP mo.name (wr [109, 111, 100, 117, 108, 101, 32] y)))))) rfl
    obtain ⟨y0, hy0⟩ : ∃ z, z = wr [32, 123, 10] (nameP mo.clock (wr [32, 64, 32] (listP nameP mo.params (nameP mo.name (wr [109, 111, 100, 117, 108, 101, 32] y))))) := ⟨_, rfl⟩
    rw [← hy0] at H
    refine wp_region_lit ?_
    refine step (Runs.fa A rfl) A rfl ?_; clear A a; intro a A
    refine step (Runs.ld1 A H rfl rfl) A rfl ?_; clear A a; intro a A
    refine step (Runs.lenL A rfl SlC.h) A rfl ?_; clear A a; intro a A
    refine step (Runs.move A rfl) A rfl ?_; clear A a; intro a A
    refine wpList_nil ?_
    refine wp_block ?_
    have H := H.pr_le (b := b) (B' := (szFile (l.take i) + 50 + mo.name.size + mo.clock.size + szStrs mo.params) + szL (fun i => 10 + szItem i) (mo.items.take 0)) (by simp [szL]; omega)
    refine wp_loop_ghost (fun q a w => ∃ (k : Nat) (zz : PS) (m' : Mem), q = mo.items.length - k ∧ (k ≤ mo.items.length ∧ zz = (mo.items.take k).foldl (fun y i => wr [59, 10] (itemP i (wr [32, 32] y))) y0) ∧ Le m m' ∧ Fr 84 a [(4, .pointer (some ⟨b, 0, none⟩)), (12, .slice (some ⟨bb, off, none⟩) l.length c), (13, .int .i64 l.length), (14, .int .i64 i), (45, .slice ai mo.items.length ci), (46, .int .i64 mo.items.length), (47, .int .i64 k)] [] ∧ St w0 w m' (prR b zz ((szFile (l.take i) + 50 + mo.name.size + mo.clock.size + szStrs mo.params) + szL (fun i => 10 + szItem i) (mo.items.take k)) :: pt b6 [.string mo.name, .string mo.clock, .slice ap mo.params.length cp, .slice ai mo.items.length ci] 83 :: pt b1 [.slice (some ⟨bb, off, none⟩) l.length c] 38 :: Lf)) _ ⟨0, y0, m, rfl, ⟨by omega, rfl⟩, Le.refl m, (Fr.cons A rfl (Fr.cons A rfl (Fr.cons A rfl (Fr.cons A rfl (Fr.cons A rfl (Fr.cons A rfl (Fr.cons A rfl (Fr.nil A)))))))), H.subH⟩ ?_
    clear A H; rintro q a w ⟨k, zz, m, rfl, hinv, hm, A, H⟩
    have hM := hM.trans hm
    have hl1 := hl1.trans hm
    have G := G.mono hm
    have hl := hl.mono hm
    have hmp := hmp.mono hm
    have hmi := hmi.mono hm
    have hl2 := hm
    obtain ⟨hk, hzz⟩ := hinv
    refine wp_seq ?_
    refine wp_region_lit ?_
    refine step (Runs.lss A rfl rfl) A rfl ?_; clear A a; intro a A
    refine wpList_nil ?_
    refine wp_seq ?_
    refine cond_split A rfl (fun h2 => ?_) (fun h2 => ?_)
    · have g2 := h2
      try simp only [decide_eq_true_eq, decide_eq_false_iff_not, Bool.not_eq_true', Bool.not_eq_false', ne_eq, Decidable.not_not, Int.not_lt, Int.not_le] at g2
      refine wp_skip ?_
      refine wp_seq ?_
      refine wp_block ?_
      refine wp_seq ?_
      refine wp_region_lit ?_
      obtain ⟨z, hz⟩ := ex_at (l := mo.items) (i := k) (by omega)
      obtain ⟨b7, off7, cs7, rfl, hfz7, hcs7⟩ := hmi.all_ (by decide) (by omega)
      obtain ⟨us7, hus7, hR7, hg7⟩ := hcs7 _ _ hz
      obtain ⟨pi, rfl, hI⟩ := hR7
      have hsti : szL (fun i => 10 + szItem i) (mo.items.take (k + 1)) = szL (fun i => 10 + szItem i) (mo.items.take k) + (10 + szItem z) := szL_take hz
      have hsli : szL (fun i => 10 + szItem i) (mo.items.take (k + 1)) ≤ szL (fun i => 10 + szItem i) mo.items := szL_le (k + 1)
      refine step (Runs.indexAddr A rfl rfl SlC.h (by omega) (by omega)) A rfl ?_; clear A a; intro a A
      refine step (Runs.ldN A H rfl (vs := itC z pi) (by simpa using hg7)) A rfl ?_; clear A a; intro a A
      refine step_alloc A H rfl ?_; clear A a; intro b8 a w A H
      refine step_store A H rfl rfl rfl rfl rfl rfl ?_; intro w H
      refine wpList_nil ?_
      refine wp_seq ?_
      refine wp_region_lit ?_
      refine step (Runs.move A rfl) A rfl ?_; clear A a; intro a A
      refine step (Runs.nilCheck A rfl) A rfl ?_; clear A a; intro a A
      refine step (Runs.fa A rfl) A rfl ?_; clear A a; intro a A
      refine step_callPr A rfl rfl (c_WriteString 2 (by decide)) H (by omega) ?_
      clear A a; rintro v14_3 a w m hm rfl A H
      simp only [List.cons_append, List.nil_append] at H
      have hM := hM.trans hm
      have hl1 := hl1.trans hm
      have hl2 := hl2.trans hm
      have G := G.mono hm
      have hl := hl.mono hm
      have hmp := hmp.mono hm
      have hmi := hmi.mono hm
      have hI := hI.mono hm
      refine wpList_nil ?_
      refine wp_seq ?_
      refine wp_region_lit ?_
      refine step (Runs.move A rfl) A rfl ?_; clear A a; intro a A
      refine step (Runs.ldN A H rfl rfl) A rfl ?_; clear A a; intro a A
      refine step_callPr A rfl rfl (c_printer_item (p := pi) G hI) H (by omega) ?_
      clear A a; rintro v15_2 a w m hm rfl A H
      simp only [List.cons_append, List.nil_append] at H
      have hM := hM.trans hm
      have hl1 := hl1.trans hm
      have hl2 := hl2.trans hm
      have G := G.mono hm
      have hl := hl.mono hm
      have hmp := hmp.mono hm
      have hmi := hmi.mono hm
      have hI := hI.mono hm
      refine wpList_nil ?_
      refine wp_region_lit ?_
      refine step (Runs.move A rfl) A rfl ?_; clear A a; intro a A
      refine step (Runs.nilCheck A rfl) A rfl ?_; clear A a; intro a A
      refine step (Runs.fa A rfl) A rfl ?_; clear A a; intro a A
      refine step_callPr A rfl rfl (c_WriteString 2 (by decide)) H (by omega) ?_
      clear A a; rintro v16_3 a w m hm rfl A H
      simp only [List.cons_append, List.nil_append] at H
      have hM := hM.trans hm
      have hl1 := hl1.trans hm
      have hl2 := hl2.trans hm
      have G := G.mono hm
      have hl := hl.mono hm
      have hmp := hmp.mono hm
      have hmi := hmi.mono hm
      have hI := hI.mono hm
      refine wpList_nil ?_
      refine wp_region_lit ?_
      refine step (Runs.add A rfl rfl (by omega)) A rfl ?_; clear A a; intro a A
      refine step (Runs.move A rfl) A rfl ?_; clear A a; intro a A
      refine wpList_nil ?_
      have H := H.pr_le (b := b) (B' := (szFile (l.take i) + 50 + mo.name.size + mo.clock.size + szStrs mo.params) + szL (fun i => 10 + szItem i) (mo.items.take (k + 1))) (by omega)
      exact ⟨_, by omega, k + 1, wr [59, 10] (itemP z (wr [32, 32] zz)), m, rfl, ⟨by omega, by rw [List.take_add_one, hz, List.foldl_append, ← hzz]; rfl⟩, hl2, (Fr.cons A rfl (Fr.cons A rfl (Fr.cons A rfl (Fr.cons A rfl (Fr.cons A rfl (Fr.cons A rfl (Fr.cons A rfl (Fr.nil A)))))))), H.subH⟩
    · have g2 := h2
      try simp only [decide_eq_true_eq, decide_eq_false_iff_not, Bool.not_eq_true', Bool.not_eq_false', ne_eq, Decidable.not_not, Int.not_lt, Int.not_le] at g2
      refine wp_exit ?_
      have hsl3 : szL (fun i => 10 + szItem i) (mo.items.take k) ≤ szL (fun i => 10 + szItem i) mo.items := szL_le k
      refine wp_region_lit ?_
      refine step (Runs.move A rfl) A rfl ?_; clear A a; intro a A
      refine step (Runs.nilCheck A rfl) A rfl ?_; clear A a; intro a A
      refine step (Runs.fa A rfl) A rfl ?_; clear A a; intro a A
      refine step_callPr A rfl rfl (c_WriteString 2 (by decide)) H (by omega) ?_
      clear A a; rintro v18_3 a w m hm rfl A H
      simp only [List.cons_append, List.nil_append] at H
      have hM := hM.trans hm
      have hl1 := hl1.trans hm
      have G := G.mono hm
      have hl := hl.mono hm
      have hmp := hmp.mono hm
      have hmi := hmi.mono hm
      refine wpList_nil ?_
      refine wp_region_lit ?_
      refine step (Runs.add A rfl rfl (by omega)) A rfl ?_; clear A a; intro a A
      refine step (Runs.move A rfl) A rfl ?_; clear A a; intro a A
      refine wpList_nil ?_
      have hkl : k = mo.items.length := by omega
      rw [hkl, List.take_length] at hzz
      have H := H.pr_le (b := b) (B' := szFile (l.take (i + 1))) (by have : szL (fun i => 10 + szItem i) (mo.items.take k) ≤ szL (fun i => 10 + szItem i) mo.items := szL_le k; omega)
      exact ⟨_, by omega, i + 1, wr [125, 10] zz, m, rfl, ⟨by omega, by rw [List.take_add_one, hq, List.foldl_append, ← hy, hzz, hy0]; rfl⟩, hl1, (Fr.cons A rfl (Fr.cons A rfl (Fr.cons A rfl (Fr.cons A rfl (Fr.nil A))))), H.subH⟩
  · have g1 := h1
    try simp only [decide_eq_true_eq, decide_eq_false_iff_not, Bool.not_eq_true', Bool.not_eq_false', ne_eq, Decidable.not_not, Int.not_lt, Int.not_le] at g1
    refine wp_exit ?_
    refine wp_seq ?_
    refine wp_seq ?_
    have hil : i = l.length := by omega
    have hyf : y = fileP l := by rw [hy, hil, List.take_length]; rfl
    obtain ⟨pa, ad0, c0, hpa, had, hlen, H⟩ := H.pr_open (b := b)
    refine wp_region_lit ?_
    refine step (Runs.move A rfl) A rfl ?_; clear A a; intro a A
    refine step (Runs.nilCheck A rfl) A rfl ?_; clear A a; intro a A
    refine step (Runs.fa A rfl) A rfl ?_; clear A a; intro a A
    refine step (Runs.ld1 A H rfl rfl) A rfl ?_; clear A a; intro a A
    refine step (Runs.not A rfl) A rfl ?_; clear A a; intro a A
    refine step (Runs.move A rfl) A rfl ?_; clear A a; intro a A
    refine onBool A (dj := 73) rfl (fun h3 => ?_) (fun h3 => ?_)
    · have g3 := h3
      try simp only [decide_eq_true_eq, decide_eq_false_iff_not, Bool.not_eq_true', Bool.not_eq_false', ne_eq, Decidable.not_not, Int.not_lt, Int.not_le] at g3
      refine stepSkip (dj := 73) rfl rfl h3 A rfl ?_; clear A a; intro a A
      refine stepSkip (dj := 73) rfl rfl h3 A rfl ?_; clear A a; intro a A
      refine stepSkip (dj := 73) rfl rfl h3 A rfl ?_; clear A a; intro a A
      refine stepSkip (dj := 73) rfl rfl h3 A rfl ?_; clear A a; intro a A
      refine stepSkip (dj := 73) rfl rfl h3 A rfl ?_; clear A a; intro a A
      refine step (Runs.pickT A rfl h3 rfl) A rfl ?_; clear A a; intro a A
      refine wpList_nil ?_
      refine cond_true A rfl rfl ?_
      refine wp_seq ?_
      refine wp_region_lit ?_
      refine step (Runs.assign A rfl) A rfl ?_; clear A a; intro a A
      refine step (Runs.assign A rfl) A rfl ?_; clear A a; intro a A
      refine wpList_nil ?_
      refine wp_ret ?_
      have hp : printP l = none := by
        rw [printP, ← hyf, if_neg]
        have : y.ok = false := by simpa using h3
        simp [this]
      exact retF2 A rfl rfl rfl hM H (by simp only [hp])
    · have g3 := h3
      try simp only [decide_eq_true_eq, decide_eq_false_iff_not, Bool.not_eq_true', Bool.not_eq_false', ne_eq, Decidable.not_not, Int.not_lt, Int.not_le] at g3
      refine stepG (dj := 73) rfl rfl h3 (Runs.move A rfl) A rfl ?_; clear A a; intro a A
      refine stepG (dj := 73) rfl rfl h3 (Runs.nilCheck A rfl) A rfl ?_; clear A a; intro a A
      refine stepG (dj := 73) rfl rfl h3 (Runs.fa A rfl) A rfl ?_; clear A a; intro a A
      have H := (H.pr_close hpa had hlen).pr_at (b := b) (y := y) rfl
      refine step_callSG (dj := 73) rfl rfl h3 A rfl rfl (c_BuilderLen (b := b) (x := y) (B := szFile (l.take i))) H ?_
      rintro v20_9 a w m L' hm ⟨rfl, rfl, hlen9⟩ A H
      simp only [List.cons_append, List.nil_append] at H
      have hM := hM.trans hm
      have G := G.mono hm
      have hl := hl.mono hm
      refine stepG (dj := 73) rfl rfl h3 (Runs.gtr A rfl rfl) A rfl ?_; clear A a; intro a A
      refine step (Runs.pickF A rfl h3 rfl) A rfl ?_; clear A a; intro a A
      refine wpList_nil ?_
      refine cond_split A rfl (fun h4 => ?_) (fun h4 => ?_)
      · have g4 := h4
        try simp only [decide_eq_true_eq, decide_eq_false_iff_not, Bool.not_eq_true', Bool.not_eq_false', ne_eq, Decidable.not_not, Int.not_lt, Int.not_le] at g4
        refine wp_seq ?_
        refine wp_region_lit ?_
        refine step (Runs.assign A rfl) A rfl ?_; clear A a; intro a A
        refine step (Runs.assign A rfl) A rfl ?_; clear A a; intro a A
        refine wpList_nil ?_
        refine wp_ret ?_
        have hp : printP l = none := by
          rw [printP, ← hyf, if_neg]
          simp only [Bool.and_eq_true, decide_eq_true_eq]; omega
        exact retF2 A rfl rfl rfl hM H (by simp only [hp])
      · have g4 := h4
        try simp only [decide_eq_true_eq, decide_eq_false_iff_not, Bool.not_eq_true', Bool.not_eq_false', ne_eq, Decidable.not_not, Int.not_lt, Int.not_le] at g4
        refine wp_skip ?_
        refine wp_seq ?_
        refine wp_region_lit ?_
        refine step (Runs.move A rfl) A rfl ?_; clear A a; intro a A
        refine step (Runs.nilCheck A rfl) A rfl ?_; clear A a; intro a A
        refine step (Runs.fa A rfl) A rfl ?_; clear A a; intro a A
        refine step_callS A rfl rfl (c_BuilderString (b := b) (x := y) (B := szFile (l.take i)) (by have : szFile (l.take i) ≤ szFile l := szL_le i; omega)) H ?_
        rintro v22_3 a w m L' hm ⟨rfl, rfl⟩ A H
        simp only [List.cons_append, List.nil_append] at H
        have hM := hM.trans hm
        have G := G.mono hm
        have hl := hl.mono hm
        refine step (Runs.assign A rfl) A rfl ?_; clear A a; intro a A
        refine step (Runs.assign A rfl) A rfl ?_; clear A a; intro a A
        refine wpList_nil ?_
        refine wp_ret ?_
        have hok : y.ok = true := by simpa using (by assumption : (!y.ok) = false)
        have hp : printP l = some y.t := by
          rw [printP, ← hyf, if_pos]
          simp only [Bool.and_eq_true, decide_eq_true_eq]; exact ⟨hok, by omega⟩
        exact retF2 A rfl rfl rfl hM H (by simp only [hp])
end Sl
end Go.Proofs.YtanhehbfbakdcaaGreatDoor
