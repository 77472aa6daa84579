/- ObjectsKeep: walk, printed by my gen.py out of annotations. -/
import Derived.Test.YtanhehbfbakdcaaGreatDoorZ73
import Derived.Laws.BytesArg
import Derived.Lib.ConvBytes
/- Print: printed by my gen.py out of annotations. -/
set_option linter.unusedSimpArgs false
set_option linter.unusedVariables false
namespace Go.Proofs.YtanhehbfbakdcaaGreatDoor
namespace Sl
open Go

set_option maxHeartbeats 1000000 in
theorem c_Print {ad : Option Addr} {c : Nat} {l : List PMod} {m : Mem} (G : Glob m) (hl : Lst MoR 4 m ad c l) (hsz : szFile l ≤ 100000000000) : Spec Tryz.prog 40 #[.agg #[.slice ad l.length c]] m [] (RetF fun _ v => match printP l with | some t => v = .tuple #[.string ⟨t.toArray⟩, .int .i64 0] | none => v = .tuple #[.string ⟨#[]⟩, .int .i64 90]) := by
  refine Spec.enter0 Tryz.func40 rfl 84 Tryz.ntmps40 rfl fun a w0 Lf A H => ?_
  have hM := Le.refl m
  have hcap := hl.cap
  have hmx : maxLen = 9223372036854775807 := rfl
  refine wp_seq ?_
  refine wp_region_lit ?_
  refine step_box A H rfl (by simp only [Value.cells, List.toList_toArray]; rfl) rfl ?_; intro b1 a w A H
  refine step (Runs.assign A rfl) A rfl ?_; clear A a; intro a A
  refine step (Runs.assign A rfl) A rfl ?_; clear A a; intro a A
  refine wpList_nil ?_
  refine wp_seq ?_
  refine wp_region_lit ?_
  refine step (Runs.build A rfl rfl rfl) A rfl ?_; clear A a; intro a A
  refine step_box A H rfl (by simp only [Value.cells, List.toList_toArray]; rfl) rfl ?_; intro b a w A H
  refine step (Runs.assign A rfl) A rfl ?_; clear A a; intro a A
  refine wpList_nil ?_
  refine wp_seq ?_
  refine wp_seq ?_
  have H := (H.row_nil 5 1).perm (List.Perm.swap _ _ _)
  have H := St.pr_close (t := []) (B := szFile (l.take 0)) H (.inl rfl) (fun _ => rfl) (by simp)
  refine wp_region_lit ?_
  refine step (Runs.fa A rfl) A rfl ?_; clear A a; intro a A
  refine step (Runs.ld1 A H rfl rfl) A rfl ?_; clear A a; intro a A
  refine step (Runs.lenL A rfl SlC.h) A rfl ?_; clear A a; intro a A
  refine step (Runs.move A rfl) A rfl ?_; clear A a; intro a A
  refine wpList_nil ?_
  refine wp_block ?_
  refine wp_loop_ghost (fun q a w => ∃ (i : Nat) (y : PS) (m' : Mem), q = l.length - i ∧ (i ≤ l.length ∧ y = (l.take i).foldl (fun x m => modP m x) ⟨[], true⟩) ∧ Le m m' ∧ Fr 84 a [(4, .pointer (some ⟨b, 0, none⟩)), (12, .slice ad l.length c), (13, .int .i64 l.length), (14, .int .i64 i)] [] ∧ St w0 w m' (prR b y (szFile (l.take i)) :: pt b1 [.slice ad l.length c] 38 :: Lf)) _ ⟨0, ⟨[], true⟩, m, rfl, ⟨by omega, rfl⟩, Le.refl m, (Fr.cons A rfl (Fr.cons A rfl (Fr.cons A rfl (Fr.cons A rfl (Fr.nil A))))), H.subH⟩ ?_
  clear A H; rintro q a w ⟨i, y, m, rfl, hinv, hm, A, H⟩
  have hM := hM.trans hm
  have G := G.mono hm
  have hl := hl.mono hm
  have hl1 := hm
  obtain ⟨hi, hy⟩ := hinv
  have hsl : szFile (l.take i) ≤ szFile l := szL_le i
  refine wp_seq ?_
  refine wp_region_lit ?_
  refine step (Runs.lss A rfl rfl) A rfl ?_; clear A a; intro a A
  refine wpList_nil ?_
  refine wp_seq ?_
  refine cond_split A rfl (fun h1 => ?_) (fun h1 => ?_)
  · have g1 := h1
    try simp only [decide_eq_true_eq, decide_eq_false_iff_not, Bool.not_eq_true', Bool.not_eq_false', ne_eq, Decidable.not_not, Int.not_lt, Int.not_le] at g1
    refine wp_skip ?_
    refine wp_seq ?_
    refine wp_block ?_
    refine wp_seq ?_
    refine wp_region_lit ?_
    obtain ⟨mo, hq⟩ := ex_at (l := l) (i := i) (by omega)
    obtain ⟨bb, off, cs, rfl, hfz, hcs⟩ := hl.all_ (by decide) (by omega)
    obtain ⟨us, hus, hR, hg⟩ := hcs _ _ hq
    obtain ⟨ap, cp, ai, ci, rfl, hmo⟩ := hR
    obtain ⟨hmp, hmi⟩ := hmo
    have hst : szFile (l.take (i + 1)) = szFile (l.take i) + szMod mo := szL_take hq
    have hsl2 : szFile (l.take (i + 1)) ≤ szFile l := szL_le (i + 1)
    have hszm : szMod mo = 100 + mo.name.size + mo.clock.size + szStrs mo.params + szL (fun i => 10 + szItem i) mo.items := rfl
    have hcpi := hmi.cap
    refine step (Runs.indexAddr A rfl rfl SlC.h (by omega) (by omega)) A rfl ?_; clear A a; intro a A
    refine step (Runs.ldN A H rfl (vs := moC mo ap cp ai ci) (by simpa using hg)) A rfl ?_; clear A a; intro a A
    refine step_alloc A H rfl ?_; clear A a; intro b6 a w A H
    refine step_store A H rfl rfl rfl rfl rfl rfl ?_; intro w H
    refine wpList_nil ?_
    refine wp_seq ?_
    refine wp_region_lit ?_
    refine step (Runs.move A rfl) A rfl ?_; clear A a; intro a A
    refine step (Runs.nilCheck A rfl) A rfl ?_; clear A a; intro a A
    refine step (Runs.fa A rfl) A rfl ?_; clear A a; intro a A
    refine step_callPr A rfl rfl (c_WriteString 7 (by decide)) H (by omega) ?_
    clear A a; rintro v5_3 a w m hm rfl A H
    simp only [List.cons_append, List.nil_append] at H
    have hM := hM.trans hm
    have hl1 := hl1.trans hm
    have G := G.mono hm
    have hl := hl.mono hm
    have hmp := hmp.mono hm
    have hmi := hmi.mono hm
    refine wpList_nil ?_
    refine wp_seq ?_
    refine wp_region_lit ?_
    refine step (Runs.move A rfl) A rfl ?_; clear A a; intro a A
    refine step (Runs.fa A rfl) A rfl ?_; clear A a; intro a A
    refine step (Runs.ld1 A H rfl rfl) A rfl ?_; clear A a; intro a A
    refine step_callPr A rfl rfl (c_syntax_printer_name G (by omega)) H (by omega) ?_
    clear A a; rintro v6_3 a w m hm rfl A H
    simp only [List.cons_append, List.nil_append] at H
    have hM := hM.trans hm
    have hl1 := hl1.trans hm
    have G := G.mono hm
    have hl := hl.mono hm
    have hmp := hmp.mono hm
    have hmi := hmi.mono hm
    refine wpList_nil ?_
    refine wp_seq ?_
    refine wp_region_lit ?_
    refine step (Runs.move A rfl) A rfl ?_; clear A a; intro a A
    refine step (Runs.fa A rfl) A rfl ?_; clear A a; intro a A
    refine step (Runs.ld1 A H rfl rfl) A rfl ?_; clear A a; intro a A
    refine step (Runs.move A rfl) A rfl ?_; clear A a; intro a A
    refine step (Runs.makeFuncB A rfl rfl) A rfl ?_; clear A a; intro a A
    refine step_callPr A rfl rfl (c_listS G hmp) H (by omega) ?_
    clear A a; rintro v7_5 a w m hm rfl A H
    simp only [List.cons_append, List.nil_append] at H
    have hM := hM.trans hm
    have hl1 := hl1.trans hm
    have G := G.mono hm
    have hl := hl.mono hm
    have hmp := hmp.mono hm
    have hmi := hmi.mono hm
    refine wpList_nil ?_
    refine wp_seq ?_
    refine wp_region_lit ?_
    refine step (Runs.move A rfl) A rfl ?_; clear A a; intro a A
    refine step (Runs.nilCheck A rfl) A rfl ?_; clear A a; intro a A
    refine step (Runs.fa A rfl) A rfl ?_; clear A a; intro a A
    refine step_callPr A rfl rfl (c_WriteString 3 (by decide)) H (by omega) ?_
    clear A a; rintro v8_3 a w m hm rfl A H
    simp only [List.cons_append, List.nil_append] at H
    have hM := hM.trans hm
    have hl1 := hl1.trans hm
    have G := G.mono hm
    have hl := hl.mono hm
    have hmp := hmp.mono hm
    have hmi := hmi.mono hm
    refine wpList_nil ?_
    refine wp_seq ?_
    refine wp_region_lit ?_
    refine step (Runs.move A rfl) A rfl ?_; clear A a; intro a A
    refine step (Runs.fa A rfl) A rfl ?_; clear A a; intro a A
    refine step (Runs.ld1 A H rfl rfl) A rfl ?_; clear A a; intro a A
    refine step_callPr A rfl rfl (c_syntax_printer_name G (by omega)) H (by omega) ?_
    clear A a; rintro v9_3 a w m hm rfl A H
    simp only [List.cons_append, List.nil_append] at H
    have hM := hM.trans hm
    have hl1 := hl1.trans hm
    have G := G.mono hm
    have hl := hl.mono hm
    have hmp := hmp.mono hm
    have hmi := hmi.mono hm
    refine wpList_nil ?_
    refine wp_seq ?_
    refine wp_region_lit ?_
    refine step (Runs.move A rfl) A rfl ?_; clear A a; intro a A
    refine step (Runs.nilCheck A rfl) A rfl ?_; clear A a; intro a A
    refine step (Runs.fa A rfl) A rfl ?_; clear A a; intro a A
    refine step_callPr A rfl rfl (c_WriteString 3 (by decide)) H (by omega) ?_
    clear A a; rintro v10_3 a w m hm rfl A H
    simp only [List.cons_append, List.nil_append] at H
    have hM := hM.trans hm
    have hl1 := hl1.trans hm
    have G := G.mono hm
    have hl := hl.mono hm
    have hmp := hmp.mono hm
    have hmi := hmi.mono hm
    refine wpList_nil ?_
    refine wp_seq ?_
    refine wp_seq ?_
    have H := H.pr_at (b := b) (y := wr [32, 123, 10] (nameP mo.clock (wr [32, 64, 32] (listP nameP mo.params (nameP mo.name (wr [109, 111, 100, 117, 108, 101, 32] y)))))) rfl
    obtain ⟨y0, hy0⟩ : ∃ z, z = wr [32, 123, 10] (nameP mo.clock (wr [32, 64, 32] (listP nameP mo.params (nameP mo.name (wr [109, 111, 100, 117, 108, 101, 32] y))))) := ⟨_, rfl⟩
    rw [← hy0] at H
    refine wp_region_lit ?_
    refine step (Runs.fa A rfl) A rfl ?_; clear A a; intro a A
    refine step (Runs.ld1 A H rfl rfl) A rfl ?_; clear A a; intro a A
    refine step (Runs.lenL A rfl SlC.h) A rfl ?_; clear A a; intro a A
    refine step (Runs.move A rfl) A rfl ?_; clear A a; intro a A
    refine wpList_nil ?_
    refine wp_block ?_
    have H := H.pr_le (b := b) (B' := (szFile (l.take i) + 50 + mo.name.size + mo.clock.size + szStrs mo.params) + szL (fun i => 10 + szItem i) (mo.items.take 0)) (by simp [szL]; omega)
    refine wp_loop_ghost (fun q a w => ∃ (k : Nat) (zz : PS) (m' : Mem), q = mo.items.length - k ∧ (k ≤ mo.items.length ∧ zz = (mo.items.take k).foldl (fun y i => wr [59, 10] (itemP i (wr [32, 32] y))) y0) ∧ Le m m' ∧ Fr 84 a [(4, .pointer (some ⟨b, 0, none⟩)), (12, .slice (some ⟨bb, off, none⟩) l.length c), (13, .int .i64 l.length), (14, .int .i64 i), (45, .slice ai mo.items.length ci), (46, .int .i64 mo.items.length), (47, .int .i64 k)] [] ∧ St w0 w m' (prR b zz ((szFile (l.take i) + 50 + mo.name.size + mo.clock.size + szStrs mo.params) + szL (fun i => 10 + szItem i) (mo.items.take k)) :: pt b6 [.string mo.name, .string mo.clock, .slice ap mo.params.length cp, .slice ai mo.items.length ci] 83 :: pt b1 [.slice (some ⟨bb, off, none⟩) l.length c] 38 :: Lf)) _ ⟨0, y0, m, rfl, ⟨by omega, rfl⟩, Le.refl m, (Fr.cons A rfl (Fr.cons A rfl (Fr.cons A rfl (Fr.cons A rfl (Fr.cons A rfl (Fr.cons A rfl (Fr.cons A rfl (Fr.nil A)))))))), H.subH⟩ ?_
    clear A H; rintro q a w ⟨k, zz, m, rfl, hinv, hm, A, H⟩
    have hM := hM.trans hm
    have hl1 := hl1.trans hm
    have G := G.mono hm
    have hl := hl.mono hm
    have hmp := hmp.mono hm
    have hmi := hmi.mono hm
    have hl2 := hm
    obtain ⟨hk, hzz⟩ := hinv
    refine wp_seq ?_
    refine wp_region_lit ?_
    refine step (Runs.lss A rfl rfl) A rfl ?_; clear A a; intro a A
    refine wpList_nil ?_
    refine wp_seq ?_
    refine cond_split A rfl (fun h2 => ?_) (fun h2 => ?_)
    · have g2 := h2
      try simp only [decide_eq_true_eq, decide_eq_false_iff_not, Bool.not_eq_true', Bool.not_eq_false', ne_eq, Decidable.not_not, Int.not_lt, Int.not_le] at g2
      refine wp_skip ?_
      refine wp_seq ?_
      refine wp_block ?_
      refine wp_seq ?_
      refine wp_region_lit ?_
      obtain ⟨z, hz⟩ := ex_at (l := mo.items) (i := k) (by omega)
      obtain ⟨b7, off7, cs7, rfl, hfz7, hcs7⟩ := hmi.all_ (by decide) (by omega)
      obtain ⟨us7, hus7, hR7, hg7⟩ := hcs7 _ _ hz
      obtain ⟨pi, rfl, hI⟩ := hR7
      have hsti : szL (fun i => 10 + szItem i) (mo.items.take (k + 1)) = szL (fun i => 10 + szItem i) (mo.items.take k) + (10 + szItem z) := szL_take hz
      have hsli : szL (fun i => 10 + szItem i) (mo.items.take (k + 1)) ≤ szL (fun i => 10 + szItem i) mo.items := szL_le (k + 1)
      refine step (Runs.indexAddr A rfl rfl SlC.h (by omega) (by omega)) A rfl ?_; clear A a; intro a A
      refine step (Runs.ldN A H rfl (vs := itC z pi) (by simpa using hg7)) A rfl ?_; clear A a; intro a A
      refine step_alloc A H rfl ?_; clear A a; intro b8 a w A H
      refine step_store A H rfl rfl rfl rfl rfl rfl ?_; intro w H
      refine wpList_nil ?_
      refine wp_seq ?_
      refine wp_region_lit ?_
      refine step (Runs.move A rfl) A rfl ?_; clear A a; intro a A
      refine step (Runs.nilCheck A rfl) A rfl ?_; clear A a; intro a A
      refine step (Runs.fa A rfl) A rfl ?_; clear A a; intro a A
      refine step_callPr A rfl rfl (c_WriteString 2 (by decide)) H (by omega) ?_
      clear A a; rintro v14_3 a w m hm rfl A H
      simp only [List.cons_append, List.nil_append] at H
      have hM := hM.trans hm
      have hl1 := hl1.trans hm
      have hl2 := hl2.trans hm
      have G := G.mono hm
      have hl := hl.mono hm
      have hmp := hmp.mono hm
      have hmi := hmi.mono hm
      have hI := hI.mono hm
      refine wpList_nil ?_
      refine wp_seq ?_
      refine wp_region_lit ?_
      refine step (Runs.move A rfl) A rfl ?_; clear A a; intro a A
      refine step (Runs.ldN A H rfl rfl) A rfl ?_; clear A a; intro a A
      refine step_callPr A rfl rfl (c_printer_item (p := pi) G hI) H (by omega) ?_
      clear A a; rintro v15_2 a w m hm rfl A H
      simp only [List.cons_append, List.nil_append] at H
      have hM := hM.trans hm
      have hl1 := hl1.trans hm
      have hl2 := hl2.trans hm
      have G := G.mono hm
      have hl := hl.mono hm
      have hmp := hmp.mono hm
      have hmi := hmi.mono hm
      have hI := hI.mono hm
      refine wpList_nil ?_
      refine wp_region_lit ?_
      refine step (Runs.move A rfl) A rfl ?_; clear A a; intro a A
      refine step (Runs.nilCheck A rfl) A rfl ?_; clear A a; intro a A
      refine step (Runs.fa A rfl) A rfl ?_; clear A a; intro a A
      refine step_callPr A rfl rfl (c_WriteString 2 (by decide)) H (by omega) ?_
      clear A a; rintro v16_3 a w m hm rfl A H
      simp only [List.cons_append, List.nil_append] at H
      have hM := hM.trans hm
      have hl1 := hl1.trans hm
      have hl2 := hl2.trans hm
      have G := G.mono hm
      have hl := hl.mono hm
      have hmp := hmp.mono hm
      have hmi := hmi.mono hm
      have hI := hI.mono hm
      refine wpList_nil ?_
      refine wp_region_lit ?_
      refine step (Runs.add A rfl rfl (by omega)) A rfl ?_; clear A a; intro a A
      refine step (Runs.move A rfl) A rfl ?_; clear A a; intro a A
      refine wpList_nil ?_
      have H := H.pr_le (b := b) (B' := (szFile (l.take i) + 50 + mo.name.size + mo.clock.size + szStrs mo.params) + szL (fun i => 10 + szItem i) (mo.items.take (k + 1))) (by omega)
      exact ⟨_, by omega, k + 1, wr [59, 10] (itemP z (wr [32, 32] zz)), m, rfl, ⟨by omega, by rw [List.take_add_one, hz, List.foldl_append, ← hzz]; rfl⟩, hl2, (Fr.cons A rfl (Fr.cons A rfl (Fr.cons A rfl (Fr.cons A rfl (Fr.cons A rfl (Fr.cons A rfl (Fr.cons A rfl (Fr.nil A)))))))), H.subH⟩
    · have g2 := h2
      try simp only [decide_eq_true_eq, decide_eq_false_iff_not, Bool.not_eq_true', Bool.not_eq_false', ne_eq, Decidable.not_not, Int.not_lt, Int.not_le] at g2
      refine wp_exit ?_
      have hsl3 : szL (fun i => 10 + szItem i) (mo.items.take k) ≤ szL (fun i => 10 + szItem i) mo.items := szL_le k
      refine wp_region_lit ?_
      refine step (Runs.move A rfl) A rfl ?_; clear A a; intro a A
      refine step (Runs.nilCheck A rfl) A rfl ?_; clear A a; intro a A
      refine step (Runs.fa A rfl) A rfl ?_; clear A a; intro a A
      refine step_callPr A rfl rfl (c_WriteString 2 (by decide)) H (by omega) ?_
      clear A a; rintro v18_3 a w m hm rfl A H
      simp only [List.cons_append, List.nil_append] at H
      have hM := hM.trans hm
      have hl1 := hl1.trans hm
      have G := G.mono hm
      have hl := hl.mono hm
      have hmp := hmp.mono hm
      have hmi := hmi.mono hm
      refine wpList_nil ?_
      refine wp_region_lit ?_
      refine step (Runs.add A rfl rfl (by omega)) A rfl ?_; clear A a; intro a A
      refine step (Runs.move A rfl) A rfl ?_; clear A a; intro a A
      refine wpList_nil ?_
      have hkl : k = mo.items.length := by omega
      rw [hkl, List.take_length] at hzz
      have H := H.pr_le (b := b) (B' := szFile (l.take (i + 1))) (by have : szL (fun i => 10 + szItem i) (mo.items.take k) ≤ szL (fun i => 10 + szItem i) mo.items := szL_le k; omega)
      exact ⟨_, by omega, i + 1, wr [125, 10] zz, m, rfl, ⟨by omega, by rw [List.take_add_one, hq, List.foldl_append, ← hy, hzz, hy0]; rfl⟩, hl1, (Fr.cons A rfl (Fr.cons A rfl (Fr.cons A rfl (Fr.cons A rfl (Fr.nil A))))), H.subH⟩
  · have g1 := h1
    try simp only [decide_eq_true_eq, decide_eq_false_iff_not, Bool.not_eq_true', Bool.not_eq_false', ne_eq, Decidable.not_not, Int.not_lt, Int.not_le] at g1
    refine wp_exit ?_
    refine wp_seq ?_
    refine wp_seq ?_
    have hil : i = l.length := by omega
    have hyf : y = fileP l := by rw [hy, hil, List.take_length]; rfl
    obtain ⟨pa, ad0, c0, hpa, had, hlen, H⟩ := H.pr_open (b := b)
    refine wp_region_lit ?_
    refine step (Runs.move A rfl) A rfl ?_; clear A a; intro a A
    refine step (Runs.nilCheck A rfl) A rfl ?_; clear A a; intro a A
    refine step (Runs.fa A rfl) A rfl ?_; clear A a; intro a A
    refine step (Runs.ld1 A H rfl rfl) A rfl ?_; clear A a; intro a A
    refine step (Runs.not A rfl) A rfl ?_; clear A a; intro a A
    refine step (Runs.move A rfl) A rfl ?_; clear A a; intro a A
    refine onBool A (dj := 73) rfl (fun h3 => ?_) (fun h3 => ?_)
    · have g3 := h3
      try simp only [decide_eq_true_eq, decide_eq_false_iff_not, Bool.not_eq_true', Bool.not_eq_false', ne_eq, Decidable.not_not, Int.not_lt, Int.not_le] at g3
      refine stepSkip (dj := 73) rfl rfl h3 A rfl ?_; clear A a; intro a A
      refine stepSkip (dj := 73) rfl rfl h3 A rfl ?_; clear A a; intro a A
      refine stepSkip (dj := 73) rfl rfl h3 A rfl ?_; clear A a; intro a A
      refine stepSkip (dj := 73) rfl rfl h3 A rfl ?_; clear A a; intro a A
      refine stepSkip (dj := 73) rfl rfl h3 A rfl ?_; clear A a; intro a A
      refine step (Runs.pickT A rfl h3 rfl) A rfl ?_; clear A a; intro a A
      refine wpList_nil ?_
      refine cond_true A rfl rfl ?_
      refine wp_seq ?_
      refine wp_region_lit ?_
      refine step (Runs.assign A rfl) A rfl ?_; clear A a; intro a A
      refine step (Runs.assign A rfl) A rfl ?_; clear A a; intro a A
      refine wpList_nil ?_
      refine wp_ret ?_
      have hp : printP l = none := by
        rw [printP, ← hyf, if_neg]
        have : y.ok = false := by simpa using h3
        simp [this]
      exact retF2 A rfl rfl rfl hM H (by simp only [hp])
    · have g3 := h3
      try simp only [decide_eq_true_eq, decide_eq_false_iff_not, Bool.not_eq_true', Bool.not_eq_false', ne_eq, Decidable.not_not, Int.not_lt, Int.not_le] at g3
      refine stepG (dj := 73) rfl rfl h3 (Runs.move A rfl) A rfl ?_; clear A a; intro a A
      refine stepG (dj := 73) rfl rfl h3 (Runs.nilCheck A rfl) A rfl ?_; clear A a; intro a A
      refine stepG (dj := 73) rfl rfl h3 (Runs.fa A rfl) A rfl ?_; clear A a; intro a A
      have H := (H.pr_close hpa had hlen).pr_at (b := b) (y := y) rfl
      refine step_callSG (dj := 73) rfl rfl h3 A rfl rfl (c_BuilderLen (b := b) (x := y) (B := szFile (l.take i))) H ?_
      rintro v20_9 a w m L' hm ⟨rfl, rfl, hlen9⟩ A H
      simp only [List.cons_append, List.nil_append] at H
      have hM := hM.trans hm
      have G := G.mono hm
      have hl := hl.mono hm
      refine stepG (dj := 73) rfl rfl h3 (Runs.gtr A rfl rfl) A rfl ?_; clear A a; intro a A
      refine step (Runs.pickF A rfl h3 rfl) A rfl ?_; clear A a; intro a A
      refine wpList_nil ?_
      refine cond_split A rfl (fun h4 => ?_) (fun h4 => ?_)
      · have g4 := h4
        try simp only [decide_eq_true_eq, decide_eq_false_iff_not, Bool.not_eq_true', Bool.not_eq_false', ne_eq, Decidable.not_not, Int.not_lt, Int.not_le] at g4
        refine wp_seq ?_
        refine wp_region_lit ?_
        refine step (Runs.assign A rfl) A rfl ?_; clear A a; intro a A
        refine step (Runs.assign A rfl) A rfl ?_; clear A a; intro a A
        refine wpList_nil ?_
        refine wp_ret ?_
        have hp : printP l = none := by
          rw [printP, ← hyf, if_neg]
          simp only [Bool.and_eq_true, decide_eq_true_eq]; omega
        exact retF2 A rfl rfl rfl hM H (by simp only [hp])
      · have g4 := h4
        try simp only [decide_eq_true_eq, decide_eq_false_iff_not, Bool.not_eq_true', Bool.not_eq_false', ne_eq, Decidable.not_not, Int.not_lt, Int.not_le] at g4
        refine wp_skip ?_
        refine wp_seq ?_
        refine wp_region_lit ?_
        refine step (Runs.move A rfl) A rfl ?_; clear A a; intro a A
        refine step (Runs.nilCheck A rfl) A rfl ?_; clear A a; intro a A
        refine step (Runs.fa A rfl) A rfl ?_; clear A a; intro a A
        refine step_callS A rfl rfl (c_BuilderString (b := b) (x := y) (B := szFile (l.take i)) (by have : szFile (l.take i) ≤ szFile l := szL_le i; omega)) H ?_
        rintro v22_3 a w m L' hm ⟨rfl, rfl⟩ A H
        simp only [List.cons_append, List.nil_append] at H
        have hM := hM.trans hm
        have G := G.mono hm
        have hl := hl.mono hm
        refine step (Runs.assign A rfl) A rfl ?_; clear A a; intro a A
        refine step (Runs.assign A rfl) A rfl ?_; clear A a; intro a A
        refine wpList_nil ?_
        refine wp_ret ?_
        have hok : y.ok = true := by simpa using (by assumption : (!y.ok) = false)
        have hp : printP l = some y.t := by
          rw [printP, ← hyf, if_pos]
          simp only [Bool.and_eq_true, decide_eq_true_eq]; exact ⟨hok, by omega⟩
        exact retF2 A rfl rfl rfl hM H (by simp only [hp])
end Sl
end Go.Proofs.YtanhehbfbakdcaaGreatDoor
/- Strings and bytes turned to one another; results in cells. Own work. -/
set_option linter.unusedVariables false
set_option linter.unusedSimpArgs false
namespace Go.Proofs.YtanhehbfbakdcaaGreatDoor
namespace Sl
open Go Go.RowKit
section
variable {P : Program} {n : Nat} {a : Act} {F : List (Nat × Value)} {D : List Deferred} {w0 w : World} {m m0 : Mem} {L Lf : List Res} {ops : Array Oper} {Q : Exit → Act → World → Prop} {rest : List Oper}
variable {d t : Nat} {pos : String} {after : Array Edge} {x : Operand}
theorem str_nums (l : List UInt8) : strOfNums (l.map fun c => (c.toNat : Int)) = ⟨l.toArray⟩ := by
  unfold strOfNums
  simp [Function.comp_def]
theorem Runs.bytesStr {src dst e : Nat} {v : Value} {l : List UInt8} [hs : SlC P src e 1] [hd : StrC P dst] [he : IntC P e .u8] (A : Fr n a F D) (H : St w0 w m L) (hx : ev F x = some v) (hv : Dat m v l) : Runs P a w (.convert src dst x) (.string ⟨l.toArray⟩) := by
  intro _ _ _ _ _
  obtain ⟨ad, k, c, rfl, hS, hk⟩ := hv
  obtain ⟨q, g1, g2, g3⟩ := slEl_spec hs.h
  have hl : l.length = k := hS.len8
  rcases Nat.eq_zero_or_pos k with h0 | h0
  · have hnil : l = [] := List.eq_nil_of_length_eq_zero (by omega)
    subst hnil; subst h0
    have : (convert src dst (.slice ad 0 c)).run P w = .ok (.string ⟨#[]⟩) w := by
      rw [run_convert_bytes_string w src dst e ad 0 c g1 he.h hd.h]
      cases ad with
      | none => rfl
      | some ad => rw [run_bytesToString w ad 0 c [] (by simp [loadCells, loadCellsFrom])]; rfl
    simp only [execOp, A.ev hx, Sem.run_bind, this, Result.andThen_ok, Sem.run_pure]
  · obtain ⟨b, off, cs, rfl, hf, hcs⟩ := hS.all8 h0
    have := run_convert_bytes_arg (P := P) w src e g1 he.h b off k c (l.map fun c => (c.toNat : Int)) (by simpa using hl) (fun i hi => by
      obtain ⟨o, ho⟩ := ex_at (l := l) (i := i) (by omega)
      rw [H.cell (Blk.fz hf.h), hcs i o ho, List.getD_eq_getElem?_getD, List.getElem?_map, ho]; rfl) dst hd.h
    rw [str_nums] at this
    simp only [execOp, A.ev hx, Sem.run_bind, this, Result.andThen_ok, Sem.run_pure]
theorem step_strBytes {src dst e ts : Nat} {s : ByteArray} [hs : StrC P src] [hd : SlC P dst e 1] [he : IntC P e .u8] (A : Fr n a F D) (H : St w0 w m L) (hx : ev F x = some (.string s)) (hn : s.size ≤ 1000000000) (hdn : Nat.blt d n = true)
    (K : ∀ v a' w' m', Le m m' → Dat m' v s.data.toList → Fr n a' ((d, v) :: F) D → St w0 w' m' L → wpList P ops Q rest a' w') :
    wpList P ops Q (⟨some d, .convert src dst x, ts, pos, after, none⟩ :: rest) a w := by
  obtain ⟨q, g1, g2, g3⟩ := slEl_spec hd.h
  have hr := Lib.run_convert_string_bytes (P := P) w src dst e s hs.h g1 he.h
  have hb := Lib.bytesWorld_below w e s
  have hnew := Lib.bytesWorld_at_new w e s
  have H1 : St w0 (Lib.bytesWorld w e s) m (ob w.heap.size (.cells (Lib.bytesCells w e s) e ((Lib.bytesCells w e s).size, (Lib.bytesCells w e s).size + 1)) :: L) :=
    H.new ⟨by simp [Lib.bytesWorld, World.freeze, World.alloc, World.drew, -World.alloc_eq, -World.drew_eq], by simp [Lib.bytesWorld, World.freeze, World.alloc, World.drew, -World.alloc_eq, -World.drew_eq], by simp [Lib.bytesWorld, World.freeze, World.alloc, World.drew, -World.alloc_eq, -World.drew_eq], by rw [Lib.bytesWorld_size]; omega⟩ hnew (Nat.le_refl _) fun k hk => Lib.bytesWorld_at_old w e s k hk
  obtain ⟨m', hm, hf, H2⟩ := H1.freezeO
  have hcap := grownCap_ge w s.size 0 e
  have hcm : grownCap w s.size 0 e ≤ maxLen := grownCap_le_maxLen w s.size 0 e (by simp only [maxLen]; omega)
  refine wpList_plain rfl fun K' hK => ?_
  unfold Oper.wp
  simp only [execOp, A.ev hx, Sem.run_bind, hr, Result.andThen_ok, Sem.run_pure]
  refine hK _ _ (K _ _ _ m' hm ⟨_, _, _, rfl, ⟨by simp, hcap, hcm, fun _ => ⟨w.heap.size, 0, (Lib.bytesCells w e s).toList, rfl, ⟨_, _, by simpa using hf⟩, ?_⟩⟩, hn⟩ (A.put hdn _) H2)
  rw [List.drop_zero, Nat.mul_one]
  have e1 : (Lib.bytesCells w e s).toList = s.data.toList.map u8 ++ List.replicate (grownCap w s.size 0 e - s.size) (.int .u8 0) := by simp [Lib.bytesCells, u8]
  rw [e1, show s.size = (s.data.toList.map u8).length by simp, List.take_left]
/-- what a function hands back: a slot, or the variable that a slot leads to -/
def rvR (P : Program) (w : World) (F : List (Nat × Value)) : ResultVar → Value → Prop
  | .tmp t, v => lk F t = some v
  | .cell s ty, v => ∃ p, lk F s = some (.pointer (some p)) ∧ (loadVar ty p).run P w = .ok v w
theorem rv1 {s ty bytes b off : Nat} {zs cs : List Value} {v : Value} (H : St w0 w m L) (hp : lk F s = some (.pointer (some ⟨b, off, none⟩))) [T : TyC P ty false 1 bytes zs] [hb : BlkC m L b cs] (hv : cs[off]? = some v) : rvR P w F (.cell s ty) v := by
  refine ⟨_, hp, ?_⟩
  have hc : w.cell? ⟨b, off, none⟩ = some v := (H.cell hb.h off).trans hv
  simp [loadVar, Sem.run_bind, T.h.runAgg, load, Sem.run, hc]
theorem rvN {s ty k bytes b off : Nat} {zs cs vs : List Value} (H : St w0 w m L) (hp : lk F s = some (.pointer (some ⟨b, off, none⟩))) [T : TyC P ty true k bytes zs] [hb : BlkC m L b cs] (hv : getN cs off k = some vs) : rvR P w F (.cell s ty) (.agg vs.toArray) := by
  refine ⟨_, hp, ?_⟩
  obtain ⟨h1, h2⟩ := getN_some hv
  have hl : vs.length = k := by rw [h2]; simp; omega
  have hc : (loadCells ⟨b, off, none⟩ vs.length).run P w = .ok vs.toArray w := run_loadCells_list w ⟨b, off, none⟩ vs fun j v hj => by
    rw [addr_add, H.cell hb.h]
    rw [h2] at hj
    have hlt : j < k := by
      have := (List.getElem?_eq_some_iff.1 hj).1
      simp at this; omega
    rw [List.getElem?_take_of_lt hlt, List.getElem?_drop] at hj
    exact hj
  rw [hl] at hc
  simp [loadVar, Sem.run_bind, T.h.runAgg, T.h.runSize, hc]
theorem mapM3 {g : ResultVar → Sem Value} {r1 r2 r3 : ResultVar} {v1 v2 v3 : Value} (h1 : (g r1).run P w = .ok v1 w) (h2 : (g r2).run P w = .ok v2 w) (h3 : (g r3).run P w = .ok v3 w) : (#[r1, r2, r3].mapM g).run P w = .ok #[v1, v2, v3] w := by
  rw [Array.mapM_eq_mapM_toList]
  simp only [List.mapM_cons, List.mapM_nil, Sem.run_bind, Sem.run_map, h1, h2, h3, Result.andThen_ok, Sem.run_pure]
theorem mapM2 {g : ResultVar → Sem Value} {r1 r2 : ResultVar} {v1 v2 : Value} (h1 : (g r1).run P w = .ok v1 w) (h2 : (g r2).run P w = .ok v2 w) : (#[r1, r2].mapM g).run P w = .ok #[v1, v2] w := by
  rw [Array.mapM_eq_mapM_toList]
  simp only [List.mapM_cons, List.mapM_nil, Sem.run_bind, Sem.run_map, h1, h2, Result.andThen_ok, Sem.run_pure]
theorem rv_tmp {A' : Act} {t : Nat} {v : Value} (A : Fr n A' F D) (h : rvR P w F (.tmp t) v) : (Pure.pure (A'.tmps.getD t undef) : Sem Value).run P w = .ok v w := by
  simp [Array.getD_eq_getD_getElem?, A.at_ t v h]
theorem rv_cell {A' : Act} {s ty : Nat} {v : Value} (A : Fr n A' F D) (h : rvR P w F (.cell s ty) v) : (do loadVar ty (← asAddr (A'.tmps.getD s undef)) : Sem Value).run P w = .ok v w := by
  obtain ⟨p, hp, hl⟩ := h
  have : A'.tmps.getD s undef = .pointer (some p) := by rw [Array.getD_eq_getD_getElem?, A.at_ s _ hp]; rfl
  simp only [this, asAddr, Sem.run_bind, Sem.run_pure, Result.andThen_ok, hl]
theorem results3 {fn : Func} {r1 r2 r3 : ResultVar} {v1 v2 v3 : Value} (A : Fr n a F D) (hr : fn.results = #[r1, r2, r3]) (h1 : rvR P w F r1 v1) (h2 : rvR P w F r2 v2) (h3 : rvR P w F r3 v3) : (results fn a.tmps).run P w = .ok (.tuple #[v1, v2, v3]) w := by
  unfold results
  rw [hr, Sem.run_bind, mapM3 (v1 := v1) (v2 := v2) (v3 := v3)]
  · rfl
  · cases r1 with
    | tmp t => exact rv_tmp A h1
    | cell s ty => exact rv_cell A h1
  · cases r2 with
    | tmp t => exact rv_tmp A h2
    | cell s ty => exact rv_cell A h2
  · cases r3 with
    | tmp t => exact rv_tmp A h3
    | cell s ty => exact rv_cell A h3
theorem results2 {fn : Func} {r1 r2 : ResultVar} {v1 v2 : Value} (A : Fr n a F D) (hr : fn.results = #[r1, r2]) (h1 : rvR P w F r1 v1) (h2 : rvR P w F r2 v2) : (results fn a.tmps).run P w = .ok (.tuple #[v1, v2]) w := by
  unfold results
  rw [hr, Sem.run_bind, mapM2 (v1 := v1) (v2 := v2)]
  · rfl
  · cases r1 with
    | tmp t => exact rv_tmp A h1
    | cell s ty => exact rv_cell A h1
  · cases r2 with
    | tmp t => exact rv_tmp A h2
    | cell s ty => exact rv_cell A h2
theorem retR3 {fn : Func} {r1 r2 r3 : ResultVar} {v1 v2 v3 : Value} {R : Mem → Value → Prop} (A : Fr n a F []) (hr : fn.results = #[r1, r2, r3]) (h1 : rvR P w F r1 v1) (h2 : rvR P w F r2 v2) (h3 : rvR P w F r3 v3) (hM : Le m0 m) (H : St w0 w m L) [SubH Lf L] (h : R m (.tuple #[v1, v2, v3])) :
    bodyPost P fn (fun e w' => ∃ m' L', Le m0 m' ∧ RetF R m' e L' ∧ St w0 w' m' (L' ++ Lf)) .ret a w :=
  ⟨A.defers, _, results3 A hr h1 h2 h3, m, [], hM, ⟨rfl, h⟩, St.sub (L' := Lf) H⟩
theorem retR2 {fn : Func} {r1 r2 : ResultVar} {v1 v2 : Value} {R : Mem → Value → Prop} (A : Fr n a F []) (hr : fn.results = #[r1, r2]) (h1 : rvR P w F r1 v1) (h2 : rvR P w F r2 v2) (hM : Le m0 m) (H : St w0 w m L) [SubH Lf L] (h : R m (.tuple #[v1, v2])) :
    bodyPost P fn (fun e w' => ∃ m' L', Le m0 m' ∧ RetF R m' e L' ∧ St w0 w' m' (L' ++ Lf)) .ret a w :=
  ⟨A.defers, _, results2 A hr h1 h2, m, [], hM, ⟨rfl, h⟩, St.sub (L' := Lf) H⟩
end
end Sl
end Go.Proofs.YtanhehbfbakdcaaGreatDoor
/- Save; Parse and Load where the text has no tokens: walks, printed by my gen.py out of annotations. -/
set_option linter.unusedSimpArgs false
set_option linter.unusedVariables false
namespace Go.Proofs.YtanhehbfbakdcaaGreatDoor
namespace Sl
open Go

def saveP (l : List Obj) (f : List PMod) : List Obj × UInt64 × Int := match printP f with
  | some t => (putP l t, dig t, 0)
  | none => ([], 0, 90)
theorem printP_len {f : List PMod} {t : List UInt8} (h : printP f = some t) : t.length ≤ 8000 := by
  unfold printP at h
  split at h
  · rename_i hh
    simp only [Bool.and_eq_true, decide_eq_true_eq] at hh
    cases h; exact hh.2
  · cases h
theorem lexAll_err {s : ByteArray} {pe : Nat × Int} (h : lexAll s = .error pe) : ¬ pe.2 = 0 := by
  unfold lexAll at h
  split at h
  · cases h; decide
  · split at h
    · cases h; show ¬ (5 : Int) = 0; decide
    · cases h

theorem c_objects_Save {ad : Option Addr} {n c : Nat} {l : List Obj} {adf : Option Addr} {cf : Nat} {lf : List PMod} {m : Mem} (hl : Objs m ad n c l) (hb : n ≤ 1100000) (hs : Srt l) (G : Glob m) (hlf : Lst MoR 4 m adf cf lf) (hsz : szFile lf ≤ 100000000000) : Spec Tryz.prog 48 #[.slice ad n c, .agg #[.slice adf lf.length cf]] m [] (RetF fun m' v => ∃ ad' c', v = .tuple #[.slice ad' (saveP l lf).1.length c', u64 (saveP l lf).2.1, .int .i64 (saveP l lf).2.2] ∧ Objs m' ad' (saveP l lf).1.length c' (saveP l lf).1) := by
  refine Spec.enter0 Tryz.func48 rfl 27 Tryz.ntmps48 rfl fun a w0 Lf A H => ?_
  have hM := Le.refl m
  refine wp_seq ?_
  refine wp_region_lit ?_
  refine step_box A H rfl (by simp only [Value.cells, List.toList_toArray]; rfl) rfl ?_; intro b1 a w A H
  refine step (Runs.assign A rfl) A rfl ?_; clear A a; intro a A
  refine step (Runs.assign A rfl) A rfl ?_; clear A a; intro a A
  refine step (Runs.assign A rfl) A rfl ?_; clear A a; intro a A
  refine wpList_nil ?_
  refine wp_seq ?_
  refine wp_region_lit ?_
  refine step (Runs.ldN A H rfl rfl) A rfl ?_; clear A a; intro a A
  refine step_callF A rfl rfl (c_Print G hlf (by omega)) H ?_
  rintro v1_1 a w m hm hprint A H
  have hM := hM.trans hm
  have hl := hl.mono hm
  have G := G.mono hm
  have hlf := hlf.mono hm
  rcases hpp : printP lf with _ | t <;> simp only [hpp] at hprint
  · subst hprint
    refine step (Runs.move A rfl) A rfl ?_; clear A a; intro a A
    refine step (Runs.extract A rfl rfl) A rfl ?_; clear A a; intro a A
    refine step (Runs.extract A rfl rfl) A rfl ?_; clear A a; intro a A
    refine step (Runs.assign A rfl) A rfl ?_; clear A a; intro a A
    refine step (Runs.assign A rfl) A rfl ?_; clear A a; intro a A
    refine wpList_nil ?_
    refine wp_seq ?_
    refine wp_seq ?_
    refine wp_region_lit ?_
    refine step (Runs.move A rfl) A rfl ?_; clear A a; intro a A
    refine step (Runs.neq A rfl rfl) A rfl ?_; clear A a; intro a A
    refine wpList_nil ?_
    refine cond_true A rfl rfl ?_
    refine wp_seq ?_
    refine wp_region_lit ?_
    refine step (Runs.move A rfl) A rfl ?_; clear A a; intro a A
    refine step (Runs.assign A rfl) A rfl ?_; clear A a; intro a A
    refine step (Runs.assign A rfl) A rfl ?_; clear A a; intro a A
    refine step (Runs.assign A rfl) A rfl ?_; clear A a; intro a A
    refine wpList_nil ?_
    refine wp_ret ?_
    have e : saveP l lf = ([], 0, 90) := by rw [saveP, hpp]
    exact retF3 A rfl rfl rfl rfl hM H ⟨none, 0, by rw [e]; rfl, by rw [e]; exact Objs.nil m⟩
  · subst hprint
    have htl := printP_len hpp
    refine step (Runs.move A rfl) A rfl ?_; clear A a; intro a A
    refine step (Runs.extract A rfl rfl) A rfl ?_; clear A a; intro a A
    refine step (Runs.extract A rfl rfl) A rfl ?_; clear A a; intro a A
    refine step (Runs.assign A rfl) A rfl ?_; clear A a; intro a A
    refine step (Runs.assign A rfl) A rfl ?_; clear A a; intro a A
    refine wpList_nil ?_
    refine wp_seq ?_
    refine wp_seq ?_
    refine wp_region_lit ?_
    refine step (Runs.move A rfl) A rfl ?_; clear A a; intro a A
    refine step (Runs.neq A rfl rfl) A rfl ?_; clear A a; intro a A
    refine wpList_nil ?_
    refine cond_false A rfl rfl ?_
    refine wp_skip ?_
    refine wp_seq ?_
    refine wp_region_lit ?_
    refine step (Runs.move A rfl) A rfl ?_; clear A a; intro a A
    refine step (Runs.move A rfl) A rfl ?_; clear A a; intro a A
    refine step_strBytes A H rfl (by first | omega | (show Array.size _ ≤ _; rw [List.size_toArray]; omega)) rfl ?_; clear A a; intro vd a w m hm hvd A H
    have hM := hM.trans hm
    have hl := hl.mono hm
    have G := G.mono hm
    have hlf := hlf.mono hm
    simp only [] at hvd
    refine step_callF A rfl rfl (c_objects_Put hl (by omega) hs hvd) H ?_
    rintro v4_3 a w m hm ⟨adp, cp, rfl, hput⟩ A H
    have hM := hM.trans hm
    have hl := hl.mono hm
    have G := G.mono hm
    have hlf := hlf.mono hm
    have hvd := hvd.mono hm
    refine step (Runs.move A rfl) A rfl ?_; clear A a; intro a A
    refine step (Runs.extract A rfl rfl) A rfl ?_; clear A a; intro a A
    refine step (Runs.extract A rfl rfl) A rfl ?_; clear A a; intro a A
    refine step (Runs.assign A rfl) A rfl ?_; clear A a; intro a A
    refine step (Runs.assign A rfl) A rfl ?_; clear A a; intro a A
    refine wpList_nil ?_
    refine wp_seq ?_
    refine wp_region_lit ?_
    refine step (Runs.move A rfl) A rfl ?_; clear A a; intro a A
    refine step (Runs.move A rfl) A rfl ?_; clear A a; intro a A
    refine step (Runs.assign A rfl) A rfl ?_; clear A a; intro a A
    refine step (Runs.assign A rfl) A rfl ?_; clear A a; intro a A
    refine step (Runs.assign A rfl) A rfl ?_; clear A a; intro a A
    refine wpList_nil ?_
    refine wp_ret ?_
    have e : saveP l lf = (putP l t, dig t, 0) := by rw [saveP, hpp]
    exact retF3 A rfl rfl rfl rfl hM H ⟨adp, cp, by rw [e], by rw [e]; exact hput⟩

theorem c_wireloomlaw18_save {ad : Option Addr} {n c : Nat} {l : List Obj} {adf : Option Addr} {cf : Nat} {lf : List PMod} {m : Mem} (hl : Objs m ad n c l) (hb : n ≤ 1100000) (hs : Srt l) (G : Glob m) (hlf : Lst MoR 4 m adf cf lf) (hsz : szFile lf ≤ 100000000000) : Spec Tryz.prog 18 #[.slice ad n c, .agg #[.slice adf lf.length cf]] m [] (RetF fun m' v => ∃ ad' c', v = .agg #[.slice ad' (saveP l lf).1.length c', u64 (saveP l lf).2.1, .int .i64 (saveP l lf).2.2] ∧ Objs m' ad' (saveP l lf).1.length c' (saveP l lf).1) := by
  refine Spec.enter0 Tryz.func18 rfl 19 Tryz.ntmps18 rfl fun a w0 Lf A H => ?_
  have hM := Le.refl m
  refine wp_seq ?_
  refine wp_region_lit ?_
  refine step_box A H rfl (by simp only [Value.cells, List.toList_toArray]; rfl) rfl ?_; intro b1 a w A H
  refine step_alloc A H rfl ?_; clear A a; intro b2 a w A H
  refine wpList_nil ?_
  refine wp_seq ?_
  refine wp_region_lit ?_
  refine step (Runs.move A rfl) A rfl ?_; clear A a; intro a A
  refine step (Runs.ldN A H rfl rfl) A rfl ?_; clear A a; intro a A
  refine step_callF A rfl rfl (c_objects_Save hl (by omega) hs G hlf (by omega)) H ?_
  rintro v1_2 a w m hm ⟨adp, cp, rfl, hput⟩ A H
  have hM := hM.trans hm
  have hl := hl.mono hm
  have G := G.mono hm
  have hlf := hlf.mono hm
  refine step (Runs.move A rfl) A rfl ?_; clear A a; intro a A
  refine step (Runs.extract A rfl rfl) A rfl ?_; clear A a; intro a A
  refine step (Runs.extract A rfl rfl) A rfl ?_; clear A a; intro a A
  refine step (Runs.extract A rfl rfl) A rfl ?_; clear A a; intro a A
  refine step (Runs.assign A rfl) A rfl ?_; clear A a; intro a A
  refine step (Runs.assign A rfl) A rfl ?_; clear A a; intro a A
  refine step (Runs.assign A rfl) A rfl ?_; clear A a; intro a A
  refine wpList_nil ?_
  refine wp_seq ?_
  refine wp_region_lit ?_
  refine step (Runs.move A rfl) A rfl ?_; clear A a; intro a A
  refine step (Runs.move A rfl) A rfl ?_; clear A a; intro a A
  refine step (Runs.move A rfl) A rfl ?_; clear A a; intro a A
  refine step (Runs.build A rfl rfl rfl) A rfl ?_; clear A a; intro a A
  refine step_store A H rfl rfl rfl rfl rfl rfl ?_; intro w H
  refine wpList_nil ?_
  refine wp_ret ?_
  exact retFc A rfl rfl hM H rfl ⟨_, _, rfl, hput⟩

theorem c_Parse_lex {s : ByteArray} {pe : Nat × Int} {m : Mem} (G : Glob m) (hs : s.size ≤ 140737488355328) (h : lexAll s = .error pe) : Spec Tryz.prog 81 #[.string s] m [] (RetE (.tuple #[.agg #[.slice none 0 0], .int .i64 pe.1, .int .i64 pe.2])) := by
  refine Spec.enter0 Tryz.func81 rfl 42 Tryz.ntmps81 rfl fun a w0 Lf A H => ?_
  have hM := Le.refl m
  have hne := lexAll_err h
  refine wp_seq ?_
  refine wp_region_lit ?_
  refine step_alloc A H rfl ?_; clear A a; intro b1 a w A H
  refine step_alloc A H rfl ?_; clear A a; intro b2 a w A H
  refine step_alloc A H rfl ?_; clear A a; intro b3 a w A H
  refine wpList_nil ?_
  refine wp_seq ?_
  refine wp_region_lit ?_
  refine step (Runs.move A rfl) A rfl ?_; clear A a; intro a A
  refine step_callF A rfl rfl (c_lexer_Lex G (by omega)) H ?_
  rintro v1_1 a w m hm hlex A H
  have hM := hM.trans hm
  have G := G.mono hm
  simp only [h] at hlex
  · subst hlex
    refine step (Runs.move A rfl) A rfl ?_; clear A a; intro a A
    refine step (Runs.extract A rfl rfl) A rfl ?_; clear A a; intro a A
    refine step (Runs.extract A rfl rfl) A rfl ?_; clear A a; intro a A
    refine step (Runs.extract A rfl rfl) A rfl ?_; clear A a; intro a A
    refine step_alloc A H rfl ?_; clear A a; intro b4 a w A H
    refine step_store A H rfl rfl rfl rfl rfl rfl ?_; intro w H
    refine step_store A H rfl rfl rfl rfl rfl rfl ?_; intro w H
    refine step_store A H rfl rfl rfl rfl rfl rfl ?_; intro w H
    refine wpList_nil ?_
    refine wp_seq ?_
    refine wp_seq ?_
    refine wp_region_lit ?_
    refine step (Runs.ld1 A H rfl rfl) A rfl ?_; clear A a; intro a A
    refine step (Runs.neq A rfl rfl) A rfl ?_; clear A a; intro a A
    refine wpList_nil ?_
    refine cond_true A rfl (decide_eq_true hne) ?_
    refine wp_seq ?_
    refine draw_begin (ms := m) (Ls := []) (by kernel_rfl) (N := 6) rfl (by kernel_rfl) H ?_; clear H; intro w H hR
    have hS : SW m [] w := H.sw (Le.refl m)
    have hL := Le.refl m
    refine dstep hR (i := 0) rfl (by kernel_rfl) (fun _ _ _ h => h) (fun _ _ H' => (Runs.build A rfl rfl rfl)) A rfl hS ?_; clear A a hR; intro a A hR
    refine draws_all hR (rs := [1, 2, 3]) (by kernel_rfl) (by decide) ?_
    simp only [List.mem_cons, List.not_mem_nil, or_false, forall_eq_or_imp, forall_eq]
    refine ⟨?_, ?_, ?_⟩
    · refine dalt (i := 1) rfl ?_
      have hR := hR.next (i := 1) (by kernel_rfl)
      refine step (Runs.ld1 A H rfl rfl) A rfl ?_; clear A a; intro a A
      refine wpList_nil ?_
      clear hS; refine and_keep (H.sw hL) fun hS => ?_
      refine draws_all hR (rs := [2, 3]) (by kernel_rfl) (by decide) ?_
      simp only [List.mem_cons, List.not_mem_nil, or_false, forall_eq_or_imp, forall_eq]
      refine ⟨?_, ?_⟩
      · refine dalt (i := 2) rfl ?_
        have hR := hR.next (i := 2) (by kernel_rfl)
        refine step (Runs.ld1 A H rfl rfl) A rfl ?_; clear A a; intro a A
        refine wpList_nil ?_
        clear hS; refine and_keep (H.sw hL) fun hS => ?_
        refine dlist hR (i := 3) rfl (by kernel_rfl) ?_
        have hR := hR.next (i := 3) (by kernel_rfl)
        refine step_store A H rfl rfl rfl rfl rfl rfl ?_; intro w H
        refine wpList_nil ?_
        clear hS; refine and_keep (H.sw hL) fun hS => ?_
        refine dlist hR (i := 4) rfl (by kernel_rfl) ?_
        have hR := hR.next (i := 4) (by kernel_rfl)
        refine step_store A H rfl rfl rfl rfl rfl rfl ?_; intro w H
        refine wpList_nil ?_
        clear hS; refine and_keep (H.sw hL) fun hS => ?_
        refine dlist hR (i := 5) rfl (by kernel_rfl) ?_
        have hR := hR.next (i := 5) (by kernel_rfl)
        refine step_store A H rfl rfl rfl rfl rfl rfl ?_; intro w H
        refine wpList_nil ?_
        refine and_last (by kernel_rfl) ?_
        refine draw_done hR (by kernel_rfl) ?_
        clear hS hL hR
        refine wp_ret ?_
        exact retR3 A rfl (rvN H rfl rfl) (rv1 H rfl rfl) (rv1 H rfl rfl) hM H rfl
      · refine dalt (i := 3) rfl ?_
        have hR := hR.next (i := 3) (by kernel_rfl)
        refine step_store A H rfl rfl rfl rfl rfl rfl ?_; intro w H
        refine wpList_nil ?_
        clear hS; refine and_keep (H.sw hL) fun hS => ?_
        refine draws_all hR (rs := [2, 4]) (by kernel_rfl) (by decide) ?_
        simp only [List.mem_cons, List.not_mem_nil, or_false, forall_eq_or_imp, forall_eq]
        refine ⟨?_, ?_⟩
        · refine dalt (i := 2) rfl ?_
          have hR := hR.next (i := 2) (by kernel_rfl)
          refine step (Runs.ld1 A H rfl rfl) A rfl ?_; clear A a; intro a A
          refine wpList_nil ?_
          clear hS; refine and_keep (H.sw hL) fun hS => ?_
          refine dlist hR (i := 4) rfl (by kernel_rfl) ?_
          have hR := hR.next (i := 4) (by kernel_rfl)
          refine step_store A H rfl rfl rfl rfl rfl rfl ?_; intro w H
          refine wpList_nil ?_
          clear hS; refine and_keep (H.sw hL) fun hS => ?_
          refine dlist hR (i := 5) rfl (by kernel_rfl) ?_
          have hR := hR.next (i := 5) (by kernel_rfl)
          refine step_store A H rfl rfl rfl rfl rfl rfl ?_; intro w H
          refine wpList_nil ?_
          refine and_last (by kernel_rfl) ?_
          refine draw_done hR (by kernel_rfl) ?_
          clear hS hL hR
          refine wp_ret ?_
          exact retR3 A rfl (rvN H rfl rfl) (rv1 H rfl rfl) (rv1 H rfl rfl) hM H rfl
        · refine dalt (i := 4) rfl ?_
          have hR := hR.next (i := 4) (by kernel_rfl)
          refine step_store A H rfl rfl rfl rfl rfl rfl ?_; intro w H
          refine wpList_nil ?_
          clear hS; refine and_keep (H.sw hL) fun hS => ?_
          refine dlist hR (i := 2) rfl (by kernel_rfl) ?_
          have hR := hR.next (i := 2) (by kernel_rfl)
          refine step (Runs.ld1 A H rfl rfl) A rfl ?_; clear A a; intro a A
          refine wpList_nil ?_
          clear hS; refine and_keep (H.sw hL) fun hS => ?_
          refine dlist hR (i := 5) rfl (by kernel_rfl) ?_
          have hR := hR.next (i := 5) (by kernel_rfl)
          refine step_store A H rfl rfl rfl rfl rfl rfl ?_; intro w H
          refine wpList_nil ?_
          refine and_last (by kernel_rfl) ?_
          refine draw_done hR (by kernel_rfl) ?_
          clear hS hL hR
          refine wp_ret ?_
          exact retR3 A rfl (rvN H rfl rfl) (rv1 H rfl rfl) (rv1 H rfl rfl) hM H rfl
    · refine dalt (i := 2) rfl ?_
      have hR := hR.next (i := 2) (by kernel_rfl)
      refine step (Runs.ld1 A H rfl rfl) A rfl ?_; clear A a; intro a A
      refine wpList_nil ?_
      clear hS; refine and_keep (H.sw hL) fun hS => ?_
      refine draws_all hR (rs := [1, 3]) (by kernel_rfl) (by decide) ?_
      simp only [List.mem_cons, List.not_mem_nil, or_false, forall_eq_or_imp, forall_eq]
      refine ⟨?_, ?_⟩
      · refine dalt (i := 1) rfl ?_
        have hR := hR.next (i := 1) (by kernel_rfl)
        refine step (Runs.ld1 A H rfl rfl) A rfl ?_; clear A a; intro a A
        refine wpList_nil ?_
        clear hS; refine and_keep (H.sw hL) fun hS => ?_
        refine dlist hR (i := 3) rfl (by kernel_rfl) ?_
        have hR := hR.next (i := 3) (by kernel_rfl)
        refine step_store A H rfl rfl rfl rfl rfl rfl ?_; intro w H
        refine wpList_nil ?_
        clear hS; refine and_keep (H.sw hL) fun hS => ?_
        refine dlist hR (i := 4) rfl (by kernel_rfl) ?_
        have hR := hR.next (i := 4) (by kernel_rfl)
        refine step_store A H rfl rfl rfl rfl rfl rfl ?_; intro w H
        refine wpList_nil ?_
        clear hS; refine and_keep (H.sw hL) fun hS => ?_
        refine dlist hR (i := 5) rfl (by kernel_rfl) ?_
        have hR := hR.next (i := 5) (by kernel_rfl)
        refine step_store A H rfl rfl rfl rfl rfl rfl ?_; intro w H
        refine wpList_nil ?_
        refine and_last (by kernel_rfl) ?_
        refine draw_done hR (by kernel_rfl) ?_
        clear hS hL hR
        refine wp_ret ?_
        exact retR3 A rfl (rvN H rfl rfl) (rv1 H rfl rfl) (rv1 H rfl rfl) hM H rfl
      · refine dalt (i := 3) rfl ?_
        have hR := hR.next (i := 3) (by kernel_rfl)
        refine step_store A H rfl rfl rfl rfl rfl rfl ?_; intro w H
        refine wpList_nil ?_
        clear hS; refine and_keep (H.sw hL) fun hS => ?_
        refine dlist hR (i := 1) rfl (by kernel_rfl) ?_
        have hR := hR.next (i := 1) (by kernel_rfl)
        refine step (Runs.ld1 A H rfl rfl) A rfl ?_; clear A a; intro a A
        refine wpList_nil ?_
        clear hS; refine and_keep (H.sw hL) fun hS => ?_
        refine dlist hR (i := 4) rfl (by kernel_rfl) ?_
        have hR := hR.next (i := 4) (by kernel_rfl)
        refine step_store A H rfl rfl rfl rfl rfl rfl ?_; intro w H
        refine wpList_nil ?_
        clear hS; refine and_keep (H.sw hL) fun hS => ?_
        refine dlist hR (i := 5) rfl (by kernel_rfl) ?_
        have hR := hR.next (i := 5) (by kernel_rfl)
        refine step_store A H rfl rfl rfl rfl rfl rfl ?_; intro w H
        refine wpList_nil ?_
        refine and_last (by kernel_rfl) ?_
        refine draw_done hR (by kernel_rfl) ?_
        clear hS hL hR
        refine wp_ret ?_
        exact retR3 A rfl (rvN H rfl rfl) (rv1 H rfl rfl) (rv1 H rfl rfl) hM H rfl
    · refine dalt (i := 3) rfl ?_
      have hR := hR.next (i := 3) (by kernel_rfl)
      refine step_store A H rfl rfl rfl rfl rfl rfl ?_; intro w H
      refine wpList_nil ?_
      clear hS; refine and_keep (H.sw hL) fun hS => ?_
      refine draws_all hR (rs := [1, 2]) (by kernel_rfl) (by decide) ?_
      simp only [List.mem_cons, List.not_mem_nil, or_false, forall_eq_or_imp, forall_eq]
      refine ⟨?_, ?_⟩
      · refine dalt (i := 1) rfl ?_
        have hR := hR.next (i := 1) (by kernel_rfl)
        refine step (Runs.ld1 A H rfl rfl) A rfl ?_; clear A a; intro a A
        refine wpList_nil ?_
        clear hS; refine and_keep (H.sw hL) fun hS => ?_
        refine draws_all hR (rs := [2, 4]) (by kernel_rfl) (by decide) ?_
        simp only [List.mem_cons, List.not_mem_nil, or_false, forall_eq_or_imp, forall_eq]
        refine ⟨?_, ?_⟩
        · refine dalt (i := 2) rfl ?_
          have hR := hR.next (i := 2) (by kernel_rfl)
          refine step (Runs.ld1 A H rfl rfl) A rfl ?_; clear A a; intro a A
          refine wpList_nil ?_
          clear hS; refine and_keep (H.sw hL) fun hS => ?_
          refine dlist hR (i := 4) rfl (by kernel_rfl) ?_
          have hR := hR.next (i := 4) (by kernel_rfl)
          refine step_store A H rfl rfl rfl rfl rfl rfl ?_; intro w H
          refine wpList_nil ?_
          clear hS; refine and_keep (H.sw hL) fun hS => ?_
          refine dlist hR (i := 5) rfl (by kernel_rfl) ?_
          have hR := hR.next (i := 5) (by kernel_rfl)
          refine step_store A H rfl rfl rfl rfl rfl rfl ?_; intro w H
          refine wpList_nil ?_
          refine and_last (by kernel_rfl) ?_
          refine draw_done hR (by kernel_rfl) ?_
          clear hS hL hR
          refine wp_ret ?_
          exact retR3 A rfl (rvN H rfl rfl) (rv1 H rfl rfl) (rv1 H rfl rfl) hM H rfl
        · refine dalt (i := 4) rfl ?_
          have hR := hR.next (i := 4) (by kernel_rfl)
          refine step_store A H rfl rfl rfl rfl rfl rfl ?_; intro w H
          refine wpList_nil ?_
          clear hS; refine and_keep (H.sw hL) fun hS => ?_
          refine dlist hR (i := 2) rfl (by kernel_rfl) ?_
          have hR := hR.next (i := 2) (by kernel_rfl)
          refine step (Runs.ld1 A H rfl rfl) A rfl ?_; clear A a; intro a A
          refine wpList_nil ?_
          clear hS; refine and_keep (H.sw hL) fun hS => ?_
          refine dlist hR (i := 5) rfl (by kernel_rfl) ?_
          have hR := hR.next (i := 5) (by kernel_rfl)
          refine step_store A H rfl rfl rfl rfl rfl rfl ?_; intro w H
          refine wpList_nil ?_
          refine and_last (by kernel_rfl) ?_
          refine draw_done hR (by kernel_rfl) ?_
          clear hS hL hR
          refine wp_ret ?_
          exact retR3 A rfl (rvN H rfl rfl) (rv1 H rfl rfl) (rv1 H rfl rfl) hM H rfl
      · refine dalt (i := 2) rfl ?_
        have hR := hR.next (i := 2) (by kernel_rfl)
        refine step (Runs.ld1 A H rfl rfl) A rfl ?_; clear A a; intro a A
        refine wpList_nil ?_
        clear hS; refine and_keep (H.sw hL) fun hS => ?_
        refine dlist hR (i := 1) rfl (by kernel_rfl) ?_
        have hR := hR.next (i := 1) (by kernel_rfl)
        refine step (Runs.ld1 A H rfl rfl) A rfl ?_; clear A a; intro a A
        refine wpList_nil ?_
        clear hS; refine and_keep (H.sw hL) fun hS => ?_
        refine dlist hR (i := 4) rfl (by kernel_rfl) ?_
        have hR := hR.next (i := 4) (by kernel_rfl)
        refine step_store A H rfl rfl rfl rfl rfl rfl ?_; intro w H
        refine wpList_nil ?_
        clear hS; refine and_keep (H.sw hL) fun hS => ?_
        refine dlist hR (i := 5) rfl (by kernel_rfl) ?_
        have hR := hR.next (i := 5) (by kernel_rfl)
        refine step_store A H rfl rfl rfl rfl rfl rfl ?_; intro w H
        refine wpList_nil ?_
        refine and_last (by kernel_rfl) ?_
        refine draw_done hR (by kernel_rfl) ?_
        clear hS hL hR
        refine wp_ret ?_
        exact retR3 A rfl (rvN H rfl rfl) (rv1 H rfl rfl) (rv1 H rfl rfl) hM H rfl

theorem c_Load_lex {ad : Option Addr} {n c : Nat} {l : List Obj} {id : UInt64} {m : Mem} (G : Glob m) (hl : Objs m ad n c l) (hb : n ≤ 1100000) (hs : Srt l) (hnl : ∀ d, getP l id = some d → ∃ pe, lexAll ⟨d.toArray⟩ = .error pe) : Spec Tryz.prog 54 #[.slice ad n c, u64 id] m [] (RetE (.tuple #[.agg #[.slice none 0 0], .int .i64 180])) := by
  refine Spec.enter0 Tryz.func54 rfl 47 Tryz.ntmps54 rfl fun a w0 Lf A H => ?_
  have hM := Le.refl m
  refine wp_seq ?_
  refine wp_region_lit ?_
  refine step_alloc A H rfl ?_; clear A a; intro b1 a w A H
  refine step (Runs.assign A rfl) A rfl ?_; clear A a; intro a A
  refine wpList_nil ?_
  refine wp_seq ?_
  refine wp_region_lit ?_
  refine step (Runs.move A rfl) A rfl ?_; clear A a; intro a A
  refine step (Runs.move A rfl) A rfl ?_; clear A a; intro a A
  refine step_callF A rfl rfl (c_objects_Get hl (by omega) hs) H ?_
  rintro v1_2 a w m hm hget A H
  have hM := hM.trans hm
  have hl := hl.mono hm
  have G := G.mono hm
  rcases hgp : getP l id with _ | d <;> simp only [hgp] at hget
  · subst hget
    refine step (Runs.move A rfl) A rfl ?_; clear A a; intro a A
    refine step (Runs.extract A rfl rfl) A rfl ?_; clear A a; intro a A
    refine step (Runs.extract A rfl rfl) A rfl ?_; clear A a; intro a A
    refine step (Runs.assign A rfl) A rfl ?_; clear A a; intro a A
    refine step (Runs.assign A rfl) A rfl ?_; clear A a; intro a A
    refine wpList_nil ?_
    refine wp_seq ?_
    refine wp_seq ?_
    refine wp_region_lit ?_
    refine step (Runs.move A rfl) A rfl ?_; clear A a; intro a A
    refine step (Runs.neq A rfl rfl) A rfl ?_; clear A a; intro a A
    refine wpList_nil ?_
    refine cond_true A rfl rfl ?_
    refine wp_seq ?_
    refine wp_region_lit ?_
    refine step (Runs.build A rfl rfl rfl) A rfl ?_; clear A a; intro a A
    refine step (Runs.move A rfl) A rfl ?_; clear A a; intro a A
    refine step_store A H rfl rfl rfl rfl rfl rfl ?_; intro w H
    refine step (Runs.assign A rfl) A rfl ?_; clear A a; intro a A
    refine wpList_nil ?_
    refine wp_ret ?_
    exact retR2 A rfl (rvN H rfl rfl) rfl hM H rfl
  · obtain ⟨u, rfl, hdu⟩ := hget
    obtain ⟨pe, hlx⟩ := hnl _ hgp
    have hne := lexAll_err hlx
    have hdl : d.length ≤ 1000000000 := by obtain ⟨_, _, _, _, hS, hh⟩ := hdu; rw [hS.len8]; exact hh
    refine step (Runs.move A rfl) A rfl ?_; clear A a; intro a A
    refine step (Runs.extract A rfl rfl) A rfl ?_; clear A a; intro a A
    refine step (Runs.extract A rfl rfl) A rfl ?_; clear A a; intro a A
    refine step (Runs.assign A rfl) A rfl ?_; clear A a; intro a A
    refine step (Runs.assign A rfl) A rfl ?_; clear A a; intro a A
    refine wpList_nil ?_
    refine wp_seq ?_
    refine wp_seq ?_
    refine wp_region_lit ?_
    refine step (Runs.move A rfl) A rfl ?_; clear A a; intro a A
    refine step (Runs.neq A rfl rfl) A rfl ?_; clear A a; intro a A
    refine wpList_nil ?_
    refine cond_false A rfl rfl ?_
    refine wp_skip ?_
    refine wp_seq ?_
    refine wp_region_lit ?_
    refine step (Runs.move A rfl) A rfl ?_; clear A a; intro a A
    refine step (Runs.bytesStr A H rfl hdu) A rfl ?_; clear A a; intro a A
    refine step_callF A rfl rfl (c_Parse_lex G (by show Array.size _ ≤ _; rw [List.size_toArray]; omega) hlx) H ?_
    rintro v4_2 a w m hm rfl A H
    have hM := hM.trans hm
    have hl := hl.mono hm
    have G := G.mono hm
    refine step (Runs.move A rfl) A rfl ?_; clear A a; intro a A
    refine step (Runs.extract A rfl rfl) A rfl ?_; clear A a; intro a A
    refine step (Runs.extract A rfl rfl) A rfl ?_; clear A a; intro a A
    refine step (Runs.extract A rfl rfl) A rfl ?_; clear A a; intro a A
    refine step_alloc A H rfl ?_; clear A a; intro b2 a w A H
    refine step_store A H rfl rfl rfl rfl rfl rfl ?_; intro w H
    refine step (Runs.assign A rfl) A rfl ?_; clear A a; intro a A
    refine step (Runs.assign A rfl) A rfl ?_; clear A a; intro a A
    refine wpList_nil ?_
    refine wp_seq ?_
    refine wp_seq ?_
    refine wp_region_lit ?_
    refine step (Runs.move A rfl) A rfl ?_; clear A a; intro a A
    refine step (Runs.neq A rfl rfl) A rfl ?_; clear A a; intro a A
    refine wpList_nil ?_
    refine cond_true A rfl (decide_eq_true hne) ?_
    refine wp_seq ?_
    refine wp_region_lit ?_
    refine step (Runs.build A rfl rfl rfl) A rfl ?_; clear A a; intro a A
    refine step_store A H rfl rfl rfl rfl rfl rfl ?_; intro w H
    refine step (Runs.assign A rfl) A rfl ?_; clear A a; intro a A
    refine wpList_nil ?_
    refine wp_ret ?_
    exact retR2 A rfl (rvN H rfl rfl) rfl hM H rfl

theorem c_load_lex {ad : Option Addr} {n c : Nat} {l : List Obj} {id : UInt64} {m : Mem} (G : Glob m) (hl : Objs m ad n c l) (hb : n ≤ 1100000) (hs : Srt l) (hnl : ∀ d, getP l id = some d → ∃ pe, lexAll ⟨d.toArray⟩ = .error pe) : Spec Tryz.prog 29 #[.slice ad n c, u64 id] m [] (RetE (.agg #[.slice none 0 0, .int .i64 180])) := by
  refine Spec.enter0 Tryz.func29 rfl 16 Tryz.ntmps29 rfl fun a w0 Lf A H => ?_
  have hM := Le.refl m
  refine wp_seq ?_
  refine wp_region_lit ?_
  refine step_alloc A H rfl ?_; clear A a; intro b1 a w A H
  refine wpList_nil ?_
  refine wp_seq ?_
  refine wp_region_lit ?_
  refine step (Runs.move A rfl) A rfl ?_; clear A a; intro a A
  refine step (Runs.move A rfl) A rfl ?_; clear A a; intro a A
  refine step_callF A rfl rfl (c_Load_lex G hl (by omega) hs hnl) H ?_
  rintro v1_2 a w m hm rfl A H
  have hM := hM.trans hm
  have hl := hl.mono hm
  have G := G.mono hm
  refine step (Runs.move A rfl) A rfl ?_; clear A a; intro a A
  refine step (Runs.extract A rfl rfl) A rfl ?_; clear A a; intro a A
  refine step (Runs.extract A rfl rfl) A rfl ?_; clear A a; intro a A
  refine step_alloc A H rfl ?_; clear A a; intro b2 a w A H
  refine step_store A H rfl rfl rfl rfl rfl rfl ?_; intro w H
  refine step (Runs.assign A rfl) A rfl ?_; clear A a; intro a A
  refine wpList_nil ?_
  refine wp_seq ?_
  refine wp_region_lit ?_
  refine step (Runs.ldN A H rfl rfl) A rfl ?_; clear A a; intro a A
  refine step (Runs.move A rfl) A rfl ?_; clear A a; intro a A
  refine step (Runs.build A rfl rfl rfl) A rfl ?_; clear A a; intro a A
  refine step_store A H rfl rfl rfl rfl rfl rfl ?_; intro w H
  refine wpList_nil ?_
  refine wp_ret ?_
  exact retFc A rfl rfl hM H rfl rfl
end Sl
end Go.Proofs.YtanhehbfbakdcaaGreatDoor
/- The law's own examples: walk, printed by my gen.py out of annotations. -/
set_option linter.unusedSimpArgs false
set_option linter.unusedVariables false
namespace Go.Proofs.YtanhehbfbakdcaaGreatDoor
namespace Sl
open Go

abbrev d12 : UInt64 := dig [1, 2]
def zMod : PMod := ⟨⟨#[]⟩, ⟨#[]⟩, [], []⟩
theorem srt_nil : Srt [] := List.Pairwise.nil
theorem srt_one (o : Obj) : Srt [o] := List.pairwise_singleton _ _
theorem ex_put : putP [] [1, 2] = [⟨d12, [1, 2]⟩] := by decide +kernel
theorem ex_get : getP [⟨d12, [1, 2]⟩] d12 = some [1, 2] := by decide +kernel
theorem ex_get0 : getP [] d12 = none := by decide +kernel
theorem ex_getb : getP [⟨d12, [1, 3]⟩] d12 = none := by decide +kernel
theorem ex_dmg : dmgP [⟨d12, [1, 3]⟩] = [d12] := by decide +kernel
theorem ex_dmg0 : dmgP [⟨d12, [1, 2]⟩] = [] := by decide +kernel
theorem ex_merge : mergeP [⟨d12, [1, 3]⟩] [⟨d12, [1, 2]⟩] = [⟨d12, [1, 2]⟩] := by decide +kernel
theorem ex_keep : keepP [⟨d12, [1, 2]⟩] [] = [] := by decide +kernel
theorem ex_lex : lexAll ⟨#[1, 2]⟩ = .error (0, 5) := by kernel_rfl
theorem ex_nl : ∀ d, getP [⟨d12, [1, 2]⟩] d12 = some d → ∃ pe, lexAll ⟨d.toArray⟩ = .error pe := fun d h => by
  rw [ex_get] at h; cases h; exact ⟨_, ex_lex⟩
theorem ex_print : printP [zMod] = none := by decide +kernel
theorem ex_sz : szFile [zMod] ≤ 100000000000 := by
  have : szFile [zMod] = 100 := by decide +kernel
  omega
theorem ex_save : saveP [] [zMod] = ([], 0, 90) := by rw [saveP, ex_print]

set_option maxHeartbeats 1100000 in
theorem c_law18_examples {m : Mem} (G : Glob m) : Spec Tryz.prog 9 #[] m [] (RetE (.bool true)) := by
  refine Spec.enter0 Tryz.func9 rfl 104 Tryz.ntmps9 rfl fun a w0 Lf A H => ?_
  have hM := Le.refl m
  refine wp_seq ?_
  refine wp_region_lit ?_
  refine step (Runs.assign A rfl) A rfl ?_; clear A a; intro a A
  refine wpList_nil ?_
  refine wp_seq ?_
  refine wp_region_lit ?_
  refine step_slice A H rfl rfl rfl rfl rfl rfl ?_; intro b1 a w A H
  obtain ⟨m, hm, hS1, H⟩ := (H.row_pt (n := 2) (size := 1) rfl (by decide)).row_freeze
  have hS1 : Slc m 1 (some ⟨b1, 0, none⟩) 2 2 (([1, 2] : List UInt8).map u8) := hS1
  have hM := hM.trans hm
  have G := G.mono hm
  refine step_callF A rfl rfl (c_digest_Bytes hS1 (by decide)) H ?_
  rintro v1_1 a w m hm rfl A H
  have hM := hM.trans hm
  have G := G.mono hm
  have hS1 := hS1.mono hm
  refine step (Runs.assign A rfl) A rfl ?_; clear A a; intro a A
  refine wpList_nil ?_
  refine wp_seq ?_
  refine wp_region_lit ?_
  refine step_slice A H rfl rfl rfl rfl rfl rfl ?_; intro b2 a w A H
  obtain ⟨m, hm, hS2, H⟩ := (H.row_pt (n := 2) (size := 1) rfl (by decide)).row_freeze
  have hS2 : Slc m 1 (some ⟨b2, 0, none⟩) 2 2 (([1, 2] : List UInt8).map u8) := hS2
  have hM := hM.trans hm
  have G := G.mono hm
  have hS1 := hS1.mono hm
  refine step_callF A rfl rfl (c_wireloomlaw18_put (Objs.nil m) (by decide) srt_nil ⟨_, _, _, rfl, hS2, by decide⟩) H ?_
  rintro v2_1 a w m hm ⟨adp, cp, rfl, hput⟩ A H
  have hM := hM.trans hm
  have G := G.mono hm
  have hS1 := hS1.mono hm
  have hS2 := hS2.mono hm
  rw [ex_put] at hput A
  refine step_alloc A H rfl ?_; clear A a; intro bs a w A H
  refine step_store A H rfl rfl rfl rfl rfl rfl ?_; intro w H
  refine wpList_nil ?_
  refine wp_seq ?_
  refine wp_seq ?_
  refine wp_region_lit ?_
  refine step (Runs.fa A rfl) A rfl ?_; clear A a; intro a A
  refine step (Runs.ld1 A H rfl rfl) A rfl ?_; clear A a; intro a A
  refine step (Runs.move A rfl) A rfl ?_; clear A a; intro a A
  refine step (Runs.neq A rfl rfl) A rfl ?_; clear A a; intro a A
  refine step (Runs.move A rfl) A rfl ?_; clear A a; intro a A
  refine stepG (dj := 12) rfl rfl (decide_eq_false fun h => h rfl) (Runs.fa A rfl) A rfl ?_; clear A a; intro a A
  refine stepG (dj := 12) rfl rfl (decide_eq_false fun h => h rfl) (Runs.ld1 A H rfl rfl) A rfl ?_; clear A a; intro a A
  refine stepG (dj := 12) rfl rfl (decide_eq_false fun h => h rfl) (Runs.move A rfl) A rfl ?_; clear A a; intro a A
  refine unguard (dj := 12) rfl rfl (decide_eq_false fun h => h rfl) A ?_
  refine step_slice A H rfl rfl rfl rfl rfl rfl ?_; intro b3 a w A H
  obtain ⟨m, hm, hS3, H⟩ := (H.row_pt (n := 2) (size := 1) rfl (by decide)).row_freeze
  have hS3 : Slc m 1 (some ⟨b3, 0, none⟩) 2 2 (([1, 2] : List UInt8).map u8) := hS3
  have hM := hM.trans hm
  have G := G.mono hm
  have hS1 := hS1.mono hm
  have hS2 := hS2.mono hm
  have hput := hput.mono hm
  refine stepG (dj := 12) rfl rfl (decide_eq_false fun h => h rfl) (Runs.build A rfl rfl rfl) A rfl ?_; clear A a; intro a A
  refine unguard (dj := 12) rfl rfl (decide_eq_false fun h => h rfl) A ?_
  refine step_slice A H rfl rfl rfl rfl rfl rfl ?_; intro b4 a w A H
  obtain ⟨m, hm, hSx, H⟩ := (H.row_pt (n := 1) (size := 2) rfl (by decide)).row_freeze
  have hM := hM.trans hm
  have G := G.mono hm
  have hS1 := hS1.mono hm
  have hS2 := hS2.mono hm
  have hput := hput.mono hm
  have hS3 := hS3.mono hm
  have hO4 : Objs m (some ⟨b4, 0, none⟩) 1 1 [⟨d12, [1, 2]⟩] := ⟨rfl, _, hSx, rfl, ⟨_, _, _, rfl, hS3, by decide⟩, trivial⟩
  refine step_callFG (dj := 12) rfl rfl (decide_eq_false fun h => h rfl) A rfl rfl (c_wireloomref18_Same hput hO4) H ?_
  rintro v3_11 a w m hm rfl A H
  have hM := hM.trans hm
  have G := G.mono hm
  have hS1 := hS1.mono hm
  have hS2 := hS2.mono hm
  have hput := hput.mono hm
  have hS3 := hS3.mono hm
  have hO4 := hO4.mono hm
  refine stepG (dj := 12) rfl rfl (decide_eq_false fun h => h rfl) (Runs.not A rfl) A rfl ?_; clear A a; intro a A
  refine step (Runs.pickF A rfl (decide_eq_false fun h => h rfl) rfl) A rfl ?_; clear A a; intro a A
  refine step (Runs.move A rfl) A rfl ?_; clear A a; intro a A
  refine stepG (dj := 22) rfl rfl (notT (decide_eq_true rfl)) (Runs.fa A rfl) A rfl ?_; clear A a; intro a A
  refine stepG (dj := 22) rfl rfl (notT (decide_eq_true rfl)) (Runs.ld1 A H rfl rfl) A rfl ?_; clear A a; intro a A
  refine stepG (dj := 22) rfl rfl (notT (decide_eq_true rfl)) (Runs.move A rfl) A rfl ?_; clear A a; intro a A
  refine step_callFG (dj := 22) rfl rfl (notT (decide_eq_true rfl)) A rfl rfl (c_wireloomlaw18_get hput (by decide) (srt_one _)) H ?_
  rintro v3_18 a w m hm hget A H
  have hM := hM.trans hm
  have G := G.mono hm
  have hS1 := hS1.mono hm
  have hS2 := hS2.mono hm
  have hput := hput.mono hm
  have hS3 := hS3.mono hm
  have hO4 := hO4.mono hm
  simp only [ex_get] at hget
  obtain ⟨u1, rfl, hdu⟩ := hget
  refine unguard (dj := 22) rfl rfl (notT (decide_eq_true rfl)) A ?_
  refine step_slice A H rfl rfl rfl rfl rfl rfl ?_; intro b5 a w A H
  obtain ⟨m, hm, hS5, H⟩ := (H.row_pt (n := 2) (size := 1) rfl (by decide)).row_freeze
  have hS5 : Slc m 1 (some ⟨b5, 0, none⟩) 2 2 (([1, 2] : List UInt8).map u8) := hS5
  have hM := hM.trans hm
  have G := G.mono hm
  have hS1 := hS1.mono hm
  have hS2 := hS2.mono hm
  have hput := hput.mono hm
  have hS3 := hS3.mono hm
  have hO4 := hO4.mono hm
  have hdu := hdu.mono hm
  refine stepG (dj := 22) rfl rfl (notT (decide_eq_true rfl)) (Runs.build A rfl rfl rfl) A rfl ?_; clear A a; intro a A
  refine step_callFG (dj := 22) rfl rfl (notT (decide_eq_true rfl)) A rfl rfl (c_law18_same hdu ⟨_, _, _, rfl, hS5, by decide⟩) H ?_
  rintro v3_21 a w m hm rfl A H
  have hM := hM.trans hm
  have G := G.mono hm
  have hS1 := hS1.mono hm
  have hS2 := hS2.mono hm
  have hput := hput.mono hm
  have hS3 := hS3.mono hm
  have hO4 := hO4.mono hm
  have hdu := hdu.mono hm
  have hS5 := hS5.mono hm
  refine stepG (dj := 22) rfl rfl (notT (decide_eq_true rfl)) (Runs.not A rfl) A rfl ?_; clear A a; intro a A
  refine step (Runs.pickF A rfl (notT (decide_eq_true rfl)) rfl) A rfl ?_; clear A a; intro a A
  refine step (Runs.move A rfl) A rfl ?_; clear A a; intro a A
  refine stepG (dj := 32) rfl rfl (notT (decide_eq_true ⟨rfl, rfl⟩)) (Runs.move A rfl) A rfl ?_; clear A a; intro a A
  refine step_callFG (dj := 32) rfl rfl (notT (decide_eq_true ⟨rfl, rfl⟩)) A rfl rfl (c_wireloomlaw18_get (Objs.nil m) (by decide) srt_nil) H ?_
  rintro v3_26 a w m hm hget A H
  have hM := hM.trans hm
  have G := G.mono hm
  have hS1 := hS1.mono hm
  have hS2 := hS2.mono hm
  have hput := hput.mono hm
  have hS3 := hS3.mono hm
  have hO4 := hO4.mono hm
  have hdu := hdu.mono hm
  have hS5 := hS5.mono hm
  simp only [ex_get0] at hget
  subst hget
  refine stepG (dj := 32) rfl rfl (notT (decide_eq_true ⟨rfl, rfl⟩)) (Runs.field1 (ty := 40) A rfl FldC.h (by kernel_rfl) TyC.h rfl) A rfl ?_; clear A a; intro a A
  refine stepG (dj := 32) rfl rfl (notT (decide_eq_true ⟨rfl, rfl⟩)) (Runs.neq A rfl rfl) A rfl ?_; clear A a; intro a A
  refine step (Runs.pickF A rfl (notT (decide_eq_true ⟨rfl, rfl⟩)) rfl) A rfl ?_; clear A a; intro a A
  refine wpList_nil ?_
  refine cond_false A rfl (decide_eq_false fun h => h rfl) ?_
  refine wp_skip ?_
  refine wp_seq ?_
  refine wp_region_lit ?_
  refine step (Runs.move A rfl) A rfl ?_; clear A a; intro a A
  refine step_slice A H rfl rfl rfl rfl rfl rfl ?_; intro b6 a w A H
  obtain ⟨m, hm, hS6, H⟩ := (H.row_pt (n := 2) (size := 1) rfl (by decide)).row_freeze
  have hS6 : Slc m 1 (some ⟨b6, 0, none⟩) 2 2 (([1, 3] : List UInt8).map u8) := hS6
  have hM := hM.trans hm
  have G := G.mono hm
  have hS1 := hS1.mono hm
  have hS2 := hS2.mono hm
  have hput := hput.mono hm
  have hS3 := hS3.mono hm
  have hO4 := hO4.mono hm
  have hdu := hdu.mono hm
  have hS5 := hS5.mono hm
  refine step (Runs.build A rfl rfl rfl) A rfl ?_; clear A a; intro a A
  refine step_slice A H rfl rfl rfl rfl rfl rfl ?_; intro b7 a w A H
  obtain ⟨m, hm, hSx, H⟩ := (H.row_pt (n := 1) (size := 2) rfl (by decide)).row_freeze
  have hM := hM.trans hm
  have G := G.mono hm
  have hS1 := hS1.mono hm
  have hS2 := hS2.mono hm
  have hput := hput.mono hm
  have hS3 := hS3.mono hm
  have hO4 := hO4.mono hm
  have hdu := hdu.mono hm
  have hS5 := hS5.mono hm
  have hS6 := hS6.mono hm
  have hO7 : Objs m (some ⟨b7, 0, none⟩) 1 1 [⟨d12, [1, 3]⟩] := ⟨rfl, _, hSx, rfl, ⟨_, _, _, rfl, hS6, by decide⟩, trivial⟩
  refine step (Runs.assign A rfl) A rfl ?_; clear A a; intro a A
  refine wpList_nil ?_
  refine wp_seq ?_
  refine draw_begin (ms := m) (Ls := [pt bs [.slice adp ([⟨d12, [1, 2]⟩] : List Obj).length cp, u64 d12, .int .i64 0] 42]) (by kernel_rfl) (N := 63) rfl (by kernel_rfl) H ?_; clear H; intro w H hR
  have hS : SW m [pt bs [.slice adp ([⟨d12, [1, 2]⟩] : List Obj).length cp, u64 d12, .int .i64 0] 42] w := H.sw (Le.refl m)
  have hL := Le.refl m
  refine dstep hR (i := 0) rfl (by kernel_rfl) (fun _ _ _ h => h) (fun _ _ H' => (Runs.move A rfl)) A rfl hS ?_; clear A a hR; intro a A hR
  refine dstep hR (i := 1) rfl (by kernel_rfl) (fun _ _ _ h => h) (fun _ _ H' => (Runs.move A rfl)) A rfl hS ?_; clear A a hR; intro a A hR
  refine dlist hR (i := 2) rfl (by kernel_rfl) ?_
  have hR := hR.next (i := 2) (by kernel_rfl)
  refine step_callF A rfl rfl (c_wireloomlaw18_get hO7 (by decide) (srt_one _)) H ?_
  rintro v6_2 a w m hm hget A H
  have hM := hM.trans hm
  have G := G.mono hm
  have hS1 := hS1.mono hm
  have hS2 := hS2.mono hm
  have hput := hput.mono hm
  have hS3 := hS3.mono hm
  have hO4 := hO4.mono hm
  have hdu := hdu.mono hm
  have hS5 := hS5.mono hm
  have hS6 := hS6.mono hm
  have hO7 := hO7.mono hm
  simp only [ex_getb] at hget
  subst hget
  have hL := hL.trans hm
  refine wpList_nil ?_
  clear hS; refine and_keep (H.sw hL) fun hS => ?_
  refine dstep hR (i := 3) rfl (by kernel_rfl) (fun _ _ _ h => h) (fun _ _ H' => (Runs.field1 (ty := 40) A rfl FldC.h (by kernel_rfl) TyC.h rfl)) A rfl hS ?_; clear A a hR; intro a A hR
  refine dstep hR (i := 4) rfl (by kernel_rfl) (fun _ _ _ h => h) (fun _ _ H' => (Runs.eql A rfl rfl)) A rfl hS ?_; clear A a hR; intro a A hR
  refine dstep hR (i := 5) rfl (by kernel_rfl) (fun _ _ _ h => h) (fun _ _ H' => (Runs.move A rfl)) A rfl hS ?_; clear A a hR; intro a A hR
  refine dstepG hR (i := 6) (dj := 47) rfl (by kernel_rfl) (fun _ _ _ h => h) rfl rfl (decide_eq_true rfl) (fun _ _ H' => (Runs.move A rfl)) A rfl hS ?_; clear A a hR; intro a A hR
  refine dstepG hR (i := 8) (dj := 47) rfl (by kernel_rfl) (fun _ _ _ h => h) rfl rfl (decide_eq_true rfl) (fun _ _ H' => (Runs.move A rfl)) A rfl hS ?_; clear A a hR; intro a A hR
  refine draws_all hR (rs := [7, 9]) (by kernel_rfl) (by decide) ?_
  simp only [List.mem_cons, List.not_mem_nil, or_false, forall_eq_or_imp, forall_eq]
  refine ⟨?_, ?_⟩
  · refine dalt (i := 7) rfl ?_
    have hR := hR.next (i := 7) (by kernel_rfl)
    refine step_callFG (dj := 47) rfl rfl (decide_eq_true rfl) A rfl rfl (c_objects_Damaged hO7 (by decide)) H ?_
    rintro v6_7 a w m hm ⟨adw, cw, rfl, hw⟩ A H
    have hM := hM.trans hm
    have G := G.mono hm
    have hS1 := hS1.mono hm
    have hS2 := hS2.mono hm
    have hput := hput.mono hm
    have hS3 := hS3.mono hm
    have hO4 := hO4.mono hm
    have hdu := hdu.mono hm
    have hS5 := hS5.mono hm
    have hS6 := hS6.mono hm
    have hO7 := hO7.mono hm
    rw [ex_dmg] at hw A
    have hL := hL.trans hm
    refine wpList_nil ?_
    clear hS; refine and_keep (H.sw hL) fun hS => ?_
    refine dlist hR (i := 9) rfl (by kernel_rfl) ?_
    have hR := hR.next (i := 9) (by kernel_rfl)
    refine unguard (dj := 47) rfl rfl (decide_eq_true rfl) A ?_
    refine step_slice A H rfl rfl rfl rfl rfl rfl ?_; intro b8 a w A H
    obtain ⟨m, hm, hW8, H⟩ := (H.row_pt (n := 1) (size := 1) rfl (by decide)).row_freeze
    have hW8 : Ws m (some ⟨b8, 0, none⟩) 1 1 [d12] := hW8
    have hM := hM.trans hm
    have G := G.mono hm
    have hS1 := hS1.mono hm
    have hS2 := hS2.mono hm
    have hput := hput.mono hm
    have hS3 := hS3.mono hm
    have hO4 := hO4.mono hm
    have hdu := hdu.mono hm
    have hS5 := hS5.mono hm
    have hS6 := hS6.mono hm
    have hO7 := hO7.mono hm
    have hw := hw.mono hm
    have hL := hL.trans hm
    refine wpList_nil ?_
    clear hS; refine and_keep (H.sw hL) fun hS => ?_
    refine dlist hR (i := 10) rfl (by kernel_rfl) ?_
    have hR := hR.next (i := 10) (by kernel_rfl)
    refine step_callFG (dj := 47) rfl rfl (decide_eq_true rfl) A rfl rfl (c_wireloomref01_Same hw hW8) H ?_
    rintro v6_10 a w m hm rfl A H
    have hM := hM.trans hm
    have G := G.mono hm
    have hS1 := hS1.mono hm
    have hS2 := hS2.mono hm
    have hput := hput.mono hm
    have hS3 := hS3.mono hm
    have hO4 := hO4.mono hm
    have hdu := hdu.mono hm
    have hS5 := hS5.mono hm
    have hS6 := hS6.mono hm
    have hO7 := hO7.mono hm
    have hw := hw.mono hm
    have hW8 := hW8.mono hm
    have hL := hL.trans hm
    refine wpList_nil ?_
    clear hS; refine and_keep (H.sw hL) fun hS => ?_
    refine dstep hR (i := 11) rfl (by kernel_rfl) (fun _ _ _ h => h) (fun _ _ H' => (Runs.pickT A rfl (decide_eq_true rfl) rfl)) A rfl hS ?_; clear A a hR; intro a A hR
    refine dstep hR (i := 12) rfl (by kernel_rfl) (fun _ _ _ h => h) (fun _ _ H' => (Runs.move A rfl)) A rfl hS ?_; clear A a hR; intro a A hR
    refine dstepG hR (i := 13) (dj := 54) rfl (by kernel_rfl) (fun _ _ _ h => h) rfl rfl (decide_eq_true rfl) (fun _ _ H' => (Runs.fa A rfl)) A rfl hS ?_; clear A a hR; intro a A hR
    refine dstepG hR (i := 14) (dj := 54) rfl (by kernel_rfl) (fun _ _ _ h => h) rfl rfl (decide_eq_true rfl) (fun _ _ H' => (Runs.ld1 A H' rfl rfl)) A rfl hS ?_; clear A a hR; intro a A hR
    refine dlist hR (i := 15) rfl (by kernel_rfl) ?_
    have hR := hR.next (i := 15) (by kernel_rfl)
    refine step_callFG (dj := 54) rfl rfl (decide_eq_true rfl) A rfl rfl (c_objects_Damaged hput (by decide)) H ?_
    rintro v6_15 a w m hm ⟨adw0, cw0, rfl, hw0⟩ A H
    have hM := hM.trans hm
    have G := G.mono hm
    have hS1 := hS1.mono hm
    have hS2 := hS2.mono hm
    have hput := hput.mono hm
    have hS3 := hS3.mono hm
    have hO4 := hO4.mono hm
    have hdu := hdu.mono hm
    have hS5 := hS5.mono hm
    have hS6 := hS6.mono hm
    have hO7 := hO7.mono hm
    have hw := hw.mono hm
    have hW8 := hW8.mono hm
    rw [ex_dmg0] at hw0 A
    have hL := hL.trans hm
    refine wpList_nil ?_
    clear hS; refine and_keep (H.sw hL) fun hS => ?_
    refine dstepG hR (i := 16) (dj := 54) rfl (by kernel_rfl) (fun _ _ _ h => h) rfl rfl (decide_eq_true rfl) (fun _ _ H' => (Runs.lenL A rfl SlC.h)) A rfl hS ?_; clear A a hR; intro a A hR
    refine dstepG hR (i := 17) (dj := 54) rfl (by kernel_rfl) (fun _ _ _ h => h) rfl rfl (decide_eq_true rfl) (fun _ _ H' => (Runs.eql A rfl rfl)) A rfl hS ?_; clear A a hR; intro a A hR
    refine dstep hR (i := 18) rfl (by kernel_rfl) (fun _ _ _ h => h) (fun _ _ H' => (Runs.pickT A rfl (decide_eq_true rfl) rfl)) A rfl hS ?_; clear A a hR; intro a A hR
    refine dstep hR (i := 19) rfl (by kernel_rfl) (fun _ _ _ h => h) (fun _ _ H' => (Runs.move A rfl)) A rfl hS ?_; clear A a hR; intro a A hR
    refine dstepG hR (i := 20) (dj := 61) rfl (by kernel_rfl) (fun _ _ _ h => h) rfl rfl (decide_eq_true rfl) (fun _ _ H' => (Runs.move A rfl)) A rfl hS ?_; clear A a hR; intro a A hR
    refine dstepG hR (i := 21) (dj := 61) rfl (by kernel_rfl) (fun _ _ _ h => h) rfl rfl (decide_eq_true rfl) (fun _ _ H' => (Runs.fa A rfl)) A rfl hS ?_; clear A a hR; intro a A hR
    refine dstepG hR (i := 22) (dj := 61) rfl (by kernel_rfl) (fun _ _ _ h => h) rfl rfl (decide_eq_true rfl) (fun _ _ H' => (Runs.ld1 A H' rfl rfl)) A rfl hS ?_; clear A a hR; intro a A hR
    refine dstepG hR (i := 24) (dj := 61) rfl (by kernel_rfl) (fun _ _ _ h => h) rfl rfl (decide_eq_true rfl) (fun _ _ H' => (Runs.fa A rfl)) A rfl hS ?_; clear A a hR; intro a A hR
    refine dstepG hR (i := 25) (dj := 61) rfl (by kernel_rfl) (fun _ _ _ h => h) rfl rfl (decide_eq_true rfl) (fun _ _ H' => (Runs.ld1 A H' rfl rfl)) A rfl hS ?_; clear A a hR; intro a A hR
    refine dlist hR (i := 23) rfl (by kernel_rfl) ?_
    have hR := hR.next (i := 23) (by kernel_rfl)
    refine step_callFG (dj := 61) rfl rfl (decide_eq_true rfl) A rfl rfl (c_objects_Union hO7 hput (by decide) (by decide)) H ?_
    rintro v6_23 a w m hm ⟨adm, cm, rfl, hmg⟩ A H
    have hM := hM.trans hm
    have G := G.mono hm
    have hS1 := hS1.mono hm
    have hS2 := hS2.mono hm
    have hput := hput.mono hm
    have hS3 := hS3.mono hm
    have hO4 := hO4.mono hm
    have hdu := hdu.mono hm
    have hS5 := hS5.mono hm
    have hS6 := hS6.mono hm
    have hO7 := hO7.mono hm
    have hw := hw.mono hm
    have hW8 := hW8.mono hm
    rw [ex_merge] at hmg A
    have hL := hL.trans hm
    refine wpList_nil ?_
    clear hS; refine and_keep (H.sw hL) fun hS => ?_
    refine dlist hR (i := 26) rfl (by kernel_rfl) ?_
    have hR := hR.next (i := 26) (by kernel_rfl)
    refine step_callFG (dj := 61) rfl rfl (decide_eq_true rfl) A rfl rfl (c_wireloomref18_Same hmg hput) H ?_
    rintro v6_26 a w m hm rfl A H
    have hM := hM.trans hm
    have G := G.mono hm
    have hS1 := hS1.mono hm
    have hS2 := hS2.mono hm
    have hput := hput.mono hm
    have hS3 := hS3.mono hm
    have hO4 := hO4.mono hm
    have hdu := hdu.mono hm
    have hS5 := hS5.mono hm
    have hS6 := hS6.mono hm
    have hO7 := hO7.mono hm
    have hw := hw.mono hm
    have hW8 := hW8.mono hm
    have hmg := hmg.mono hm
    have hL := hL.trans hm
    refine wpList_nil ?_
    clear hS; refine and_keep (H.sw hL) fun hS => ?_
    refine dstep hR (i := 27) rfl (by kernel_rfl) (fun _ _ _ h => h) (fun _ _ H' => (Runs.pickT A rfl (decide_eq_true rfl) rfl)) A rfl hS ?_; clear A a hR; intro a A hR
    refine dstep hR (i := 28) rfl (by kernel_rfl) (fun _ _ _ h => h) (fun _ _ H' => (Runs.move A rfl)) A rfl hS ?_; clear A a hR; intro a A hR
    refine dstepG hR (i := 29) (dj := 70) rfl (by kernel_rfl) (fun _ _ _ h => h) rfl rfl (decide_eq_true rfl) (fun _ _ H' => (Runs.fa A rfl)) A rfl hS ?_; clear A a hR; intro a A hR
    refine dstepG hR (i := 30) (dj := 70) rfl (by kernel_rfl) (fun _ _ _ h => h) rfl rfl (decide_eq_true rfl) (fun _ _ H' => (Runs.ld1 A H' rfl rfl)) A rfl hS ?_; clear A a hR; intro a A hR
    refine dlist hR (i := 31) rfl (by kernel_rfl) ?_
    have hR := hR.next (i := 31) (by kernel_rfl)
    refine step_callFG (dj := 70) rfl rfl (decide_eq_true rfl) A rfl rfl (c_objects_Keep hput (by decide) (show Ws m none 0 0 [] from Slc.nil m 1 none 0 (by decide))) H ?_
    rintro v6_31 a w m hm ⟨adk, ck, rfl, hk⟩ A H
    have hM := hM.trans hm
    have G := G.mono hm
    have hS1 := hS1.mono hm
    have hS2 := hS2.mono hm
    have hput := hput.mono hm
    have hS3 := hS3.mono hm
    have hO4 := hO4.mono hm
    have hdu := hdu.mono hm
    have hS5 := hS5.mono hm
    have hS6 := hS6.mono hm
    have hO7 := hO7.mono hm
    have hw := hw.mono hm
    have hW8 := hW8.mono hm
    have hmg := hmg.mono hm
    rw [ex_keep] at hk A
    have hL := hL.trans hm
    refine wpList_nil ?_
    clear hS; refine and_keep (H.sw hL) fun hS => ?_
    refine dstepG hR (i := 32) (dj := 70) rfl (by kernel_rfl) (fun _ _ _ h => h) rfl rfl (decide_eq_true rfl) (fun _ _ H' => (Runs.lenL A rfl SlC.h)) A rfl hS ?_; clear A a hR; intro a A hR
    refine dstepG hR (i := 33) (dj := 70) rfl (by kernel_rfl) (fun _ _ _ h => h) rfl rfl (decide_eq_true rfl) (fun _ _ H' => (Runs.eql A rfl rfl)) A rfl hS ?_; clear A a hR; intro a A hR
    refine dstep hR (i := 34) rfl (by kernel_rfl) (fun _ _ _ h => h) (fun _ _ H' => (Runs.pickT A rfl (decide_eq_true rfl) rfl)) A rfl hS ?_; clear A a hR; intro a A hR
    refine dstep hR (i := 35) rfl (by kernel_rfl) (fun _ _ _ h => h) (fun _ _ H' => (Runs.move A rfl)) A rfl hS ?_; clear A a hR; intro a A hR
    refine dstepG hR (i := 36) (dj := 77) rfl (by kernel_rfl) (fun _ _ _ h => h) rfl rfl (decide_eq_true rfl) (fun _ _ H' => (Runs.move A rfl)) A rfl hS ?_; clear A a hR; intro a A hR
    refine dlist hR (i := 37) rfl (by kernel_rfl) ?_
    have hR := hR.next (i := 37) (by kernel_rfl)
    refine step_callFG (dj := 77) rfl rfl (decide_eq_true rfl) A rfl rfl (c_objects_Is hO7) H ?_
    rintro v6_37 a w m hm rfl A H
    have hM := hM.trans hm
    have G := G.mono hm
    have hS1 := hS1.mono hm
    have hS2 := hS2.mono hm
    have hput := hput.mono hm
    have hS3 := hS3.mono hm
    have hO4 := hO4.mono hm
    have hdu := hdu.mono hm
    have hS5 := hS5.mono hm
    have hS6 := hS6.mono hm
    have hO7 := hO7.mono hm
    have hw := hw.mono hm
    have hW8 := hW8.mono hm
    have hmg := hmg.mono hm
    have hL := hL.trans hm
    refine wpList_nil ?_
    clear hS; refine and_keep (H.sw hL) fun hS => ?_
    refine dstep hR (i := 38) rfl (by kernel_rfl) (fun _ _ _ h => h) (fun _ _ H' => (Runs.pickT A rfl (decide_eq_true rfl) rfl)) A rfl hS ?_; clear A a hR; intro a A hR
    refine dstep hR (i := 39) rfl (by kernel_rfl) (fun _ _ _ h => h) (fun _ _ H' => (Runs.move A rfl)) A rfl hS ?_; clear A a hR; intro a A hR
    refine dstepG hR (i := 40) (dj := 81) rfl (by kernel_rfl) (fun _ _ _ h => h) rfl rfl (by decide +kernel) (fun _ _ H' => (Runs.build A rfl rfl rfl)) A rfl hS ?_; clear A a hR; intro a A hR
    refine dstepG hR (i := 41) (dj := 81) rfl (by kernel_rfl) (fun _ _ _ h => h) rfl rfl (by decide +kernel) (fun _ _ H' => (Runs.build A rfl rfl rfl)) A rfl hS ?_; clear A a hR; intro a A hR
    refine dlist hR (i := 42) rfl (by kernel_rfl) ?_
    have hR := hR.next (i := 42) (by kernel_rfl)
    refine unguard (dj := 81) rfl rfl (by decide +kernel) A ?_
    refine step_slice A H rfl rfl rfl rfl rfl rfl ?_; intro b9 a w A H
    obtain ⟨m, hm, hSx, H⟩ := (H.row_pt (n := 2) (size := 2) rfl (by decide)).row_freeze
    have hM := hM.trans hm
    have G := G.mono hm
    have hS1 := hS1.mono hm
    have hS2 := hS2.mono hm
    have hput := hput.mono hm
    have hS3 := hS3.mono hm
    have hO4 := hO4.mono hm
    have hdu := hdu.mono hm
    have hS5 := hS5.mono hm
    have hS6 := hS6.mono hm
    have hO7 := hO7.mono hm
    have hw := hw.mono hm
    have hW8 := hW8.mono hm
    have hmg := hmg.mono hm
    have hO9 : Objs m (some ⟨b9, 0, none⟩) 2 2 [⟨1, []⟩, ⟨1, []⟩] := ⟨rfl, _, hSx, rfl, Dat.nil m, rfl, Dat.nil m, trivial⟩
    have hL := hL.trans hm
    refine wpList_nil ?_
    clear hS; refine and_keep (H.sw hL) fun hS => ?_
    refine dlist hR (i := 43) rfl (by kernel_rfl) ?_
    have hR := hR.next (i := 43) (by kernel_rfl)
    refine step_callFG (dj := 81) rfl rfl (by decide +kernel) A rfl rfl (c_objects_Is hO9) H ?_
    rintro v6_43 a w m hm rfl A H
    have hM := hM.trans hm
    have G := G.mono hm
    have hS1 := hS1.mono hm
    have hS2 := hS2.mono hm
    have hput := hput.mono hm
    have hS3 := hS3.mono hm
    have hO4 := hO4.mono hm
    have hdu := hdu.mono hm
    have hS5 := hS5.mono hm
    have hS6 := hS6.mono hm
    have hO7 := hO7.mono hm
    have hw := hw.mono hm
    have hW8 := hW8.mono hm
    have hmg := hmg.mono hm
    have hO9 := hO9.mono hm
    have hL := hL.trans hm
    refine wpList_nil ?_
    clear hS; refine and_keep (H.sw hL) fun hS => ?_
    refine dstepG hR (i := 44) (dj := 81) rfl (by kernel_rfl) (fun _ _ _ h => h) rfl rfl (by decide +kernel) (fun _ _ H' => (Runs.not A rfl)) A rfl hS ?_; clear A a hR; intro a A hR
    refine dstep hR (i := 45) rfl (by kernel_rfl) (fun _ _ _ h => h) (fun _ _ H' => (Runs.pickT A rfl (by decide +kernel) rfl)) A rfl hS ?_; clear A a hR; intro a A hR
    refine dstep hR (i := 46) rfl (by kernel_rfl) (fun _ _ _ h => h) (fun _ _ H' => (Runs.move A rfl)) A rfl hS ?_; clear A a hR; intro a A hR
    refine dstepG hR (i := 47) (dj := 88) rfl (by kernel_rfl) (fun _ _ _ h => h) rfl rfl (notF (by decide +kernel)) (fun _ _ H' => (Runs.fa A rfl)) A rfl hS ?_; clear A a hR; intro a A hR
    refine dstepG hR (i := 48) (dj := 88) rfl (by kernel_rfl) (fun _ _ _ h => h) rfl rfl (notF (by decide +kernel)) (fun _ _ H' => (Runs.ld1 A H' rfl rfl)) A rfl hS ?_; clear A a hR; intro a A hR
    refine dstepG hR (i := 49) (dj := 88) rfl (by kernel_rfl) (fun _ _ _ h => h) rfl rfl (notF (by decide +kernel)) (fun _ _ H' => (Runs.move A rfl)) A rfl hS ?_; clear A a hR; intro a A hR
    refine dlist hR (i := 50) rfl (by kernel_rfl) ?_
    have hR := hR.next (i := 50) (by kernel_rfl)
    refine step_callFG (dj := 88) rfl rfl (notF (by decide +kernel)) A rfl rfl (c_load_lex G hput (by decide) (srt_one _) ex_nl) H ?_
    rintro v6_50 a w m hm rfl A H
    have hM := hM.trans hm
    have G := G.mono hm
    have hS1 := hS1.mono hm
    have hS2 := hS2.mono hm
    have hput := hput.mono hm
    have hS3 := hS3.mono hm
    have hO4 := hO4.mono hm
    have hdu := hdu.mono hm
    have hS5 := hS5.mono hm
    have hS6 := hS6.mono hm
    have hO7 := hO7.mono hm
    have hw := hw.mono hm
    have hW8 := hW8.mono hm
    have hmg := hmg.mono hm
    have hO9 := hO9.mono hm
    have hL := hL.trans hm
    refine wpList_nil ?_
    clear hS; refine and_keep (H.sw hL) fun hS => ?_
    refine dstepG hR (i := 51) (dj := 88) rfl (by kernel_rfl) (fun _ _ _ h => h) rfl rfl (notF (by decide +kernel)) (fun _ _ H' => (Runs.field1 (ty := 40) A rfl FldC.h (by kernel_rfl) TyC.h rfl)) A rfl hS ?_; clear A a hR; intro a A hR
    refine dstepG hR (i := 52) (dj := 88) rfl (by kernel_rfl) (fun _ _ _ h => h) rfl rfl (notF (by decide +kernel)) (fun _ _ H' => (Runs.eql A rfl rfl)) A rfl hS ?_; clear A a hR; intro a A hR
    refine dstep hR (i := 53) rfl (by kernel_rfl) (fun _ _ _ h => h) (fun _ _ H' => (Runs.pickT A rfl (notF (by decide +kernel)) rfl)) A rfl hS ?_; clear A a hR; intro a A hR
    refine dstep hR (i := 54) rfl (by kernel_rfl) (fun _ _ _ h => h) (fun _ _ H' => (Runs.move A rfl)) A rfl hS ?_; clear A a hR; intro a A hR
    refine dstepG hR (i := 55) (dj := 96) rfl (by kernel_rfl) (fun _ _ _ h => h) rfl rfl (decide_eq_true rfl) (fun _ _ H' => (Runs.build A rfl rfl rfl)) A rfl hS ?_; clear A a hR; intro a A hR
    refine dlist hR (i := 56) rfl (by kernel_rfl) ?_
    have hR := hR.next (i := 56) (by kernel_rfl)
    refine unguard (dj := 96) rfl rfl (decide_eq_true rfl) A ?_
    refine step_slice A H rfl rfl rfl rfl rfl rfl ?_; intro bm a w A H
    obtain ⟨m, hm, hSm, H⟩ := (H.row_pt (n := 1) (size := 4) rfl (by decide)).row_freeze
    have hLm : Lst MoR 4 m (some ⟨bm, 0, none⟩) 1 [zMod] := ⟨_, hSm, LR.one ⟨none, 0, none, 0, rfl, Lst.nil (by decide), Lst.nil (by decide)⟩ rfl⟩
    have hM := hM.trans hm
    have G := G.mono hm
    have hS1 := hS1.mono hm
    have hS2 := hS2.mono hm
    have hput := hput.mono hm
    have hS3 := hS3.mono hm
    have hO4 := hO4.mono hm
    have hdu := hdu.mono hm
    have hS5 := hS5.mono hm
    have hS6 := hS6.mono hm
    have hO7 := hO7.mono hm
    have hw := hw.mono hm
    have hW8 := hW8.mono hm
    have hmg := hmg.mono hm
    have hO9 := hO9.mono hm
    have hL := hL.trans hm
    refine wpList_nil ?_
    clear hS; refine and_keep (H.sw hL) fun hS => ?_
    refine dstepG hR (i := 57) (dj := 96) rfl (by kernel_rfl) (fun _ _ _ h => h) rfl rfl (decide_eq_true rfl) (fun _ _ H' => (Runs.build A rfl rfl rfl)) A rfl hS ?_; clear A a hR; intro a A hR
    refine dlist hR (i := 58) rfl (by kernel_rfl) ?_
    have hR := hR.next (i := 58) (by kernel_rfl)
    refine step_callFG (dj := 96) rfl rfl (decide_eq_true rfl) A rfl rfl (c_wireloomlaw18_save (lf := [zMod]) (Objs.nil m) (by decide) srt_nil G hLm ex_sz) H ?_
    rintro v6_58 a w m hm ⟨adsv, csv, rfl, hsave⟩ A H
    have hM := hM.trans hm
    have G := G.mono hm
    have hS1 := hS1.mono hm
    have hS2 := hS2.mono hm
    have hput := hput.mono hm
    have hS3 := hS3.mono hm
    have hO4 := hO4.mono hm
    have hdu := hdu.mono hm
    have hS5 := hS5.mono hm
    have hS6 := hS6.mono hm
    have hO7 := hO7.mono hm
    have hw := hw.mono hm
    have hW8 := hW8.mono hm
    have hmg := hmg.mono hm
    have hO9 := hO9.mono hm
    have hLm := hLm.mono hm
    rw [ex_save] at hsave A
    have hL := hL.trans hm
    refine wpList_nil ?_
    clear hS; refine and_keep (H.sw hL) fun hS => ?_
    refine dstepG hR (i := 59) (dj := 96) rfl (by kernel_rfl) (fun _ _ _ h => h) rfl rfl (decide_eq_true rfl) (fun _ _ H' => (Runs.field1 (ty := 40) A rfl FldC.h (by kernel_rfl) TyC.h rfl)) A rfl hS ?_; clear A a hR; intro a A hR
    refine dstepG hR (i := 60) (dj := 96) rfl (by kernel_rfl) (fun _ _ _ h => h) rfl rfl (decide_eq_true rfl) (fun _ _ H' => (Runs.eql A rfl rfl)) A rfl hS ?_; clear A a hR; intro a A hR
    refine dstep hR (i := 61) rfl (by kernel_rfl) (fun _ _ _ h => h) (fun _ _ H' => (Runs.pickT A rfl (decide_eq_true rfl) rfl)) A rfl hS ?_; clear A a hR; intro a A hR
    refine dstep hR (i := 62) rfl (by kernel_rfl) (fun _ _ _ h => h) (fun _ _ H' => (Runs.assign A rfl)) A rfl hS ?_; clear A a hR; intro a A hR
    refine draw_done hR (by kernel_rfl) ?_
    clear hS hL hR
    refine wp_ret ?_
    exact retF A rfl rfl hM H rfl
  · refine dalt (i := 9) rfl ?_
    have hR := hR.next (i := 9) (by kernel_rfl)
    refine unguard (dj := 47) rfl rfl (decide_eq_true rfl) A ?_
    refine step_slice A H rfl rfl rfl rfl rfl rfl ?_; intro b8 a w A H
    obtain ⟨m, hm, hW8, H⟩ := (H.row_pt (n := 1) (size := 1) rfl (by decide)).row_freeze
    have hW8 : Ws m (some ⟨b8, 0, none⟩) 1 1 [d12] := hW8
    have hM := hM.trans hm
    have G := G.mono hm
    have hS1 := hS1.mono hm
    have hS2 := hS2.mono hm
    have hput := hput.mono hm
    have hS3 := hS3.mono hm
    have hO4 := hO4.mono hm
    have hdu := hdu.mono hm
    have hS5 := hS5.mono hm
    have hS6 := hS6.mono hm
    have hO7 := hO7.mono hm
    have hL := hL.trans hm
    refine wpList_nil ?_
    clear hS; refine and_keep (H.sw hL) fun hS => ?_
    refine dlist hR (i := 7) rfl (by kernel_rfl) ?_
    have hR := hR.next (i := 7) (by kernel_rfl)
    refine step_callFG (dj := 47) rfl rfl (decide_eq_true rfl) A rfl rfl (c_objects_Damaged hO7 (by decide)) H ?_
    rintro v6_7 a w m hm ⟨adw, cw, rfl, hw⟩ A H
    have hM := hM.trans hm
    have G := G.mono hm
    have hS1 := hS1.mono hm
    have hS2 := hS2.mono hm
    have hput := hput.mono hm
    have hS3 := hS3.mono hm
    have hO4 := hO4.mono hm
    have hdu := hdu.mono hm
    have hS5 := hS5.mono hm
    have hS6 := hS6.mono hm
    have hO7 := hO7.mono hm
    have hW8 := hW8.mono hm
    rw [ex_dmg] at hw A
    have hL := hL.trans hm
    refine wpList_nil ?_
    clear hS; refine and_keep (H.sw hL) fun hS => ?_
    refine dlist hR (i := 10) rfl (by kernel_rfl) ?_
    have hR := hR.next (i := 10) (by kernel_rfl)
    refine step_callFG (dj := 47) rfl rfl (decide_eq_true rfl) A rfl rfl (c_wireloomref01_Same hw hW8) H ?_
    rintro v6_10 a w m hm rfl A H
    have hM := hM.trans hm
    have G := G.mono hm
    have hS1 := hS1.mono hm
    have hS2 := hS2.mono hm
    have hput := hput.mono hm
    have hS3 := hS3.mono hm
    have hO4 := hO4.mono hm
    have hdu := hdu.mono hm
    have hS5 := hS5.mono hm
    have hS6 := hS6.mono hm
    have hO7 := hO7.mono hm
    have hW8 := hW8.mono hm
    have hw := hw.mono hm
    have hL := hL.trans hm
    refine wpList_nil ?_
    clear hS; refine and_keep (H.sw hL) fun hS => ?_
    refine dstep hR (i := 11) rfl (by kernel_rfl) (fun _ _ _ h => h) (fun _ _ H' => (Runs.pickT A rfl (decide_eq_true rfl) rfl)) A rfl hS ?_; clear A a hR; intro a A hR
    refine dstep hR (i := 12) rfl (by kernel_rfl) (fun _ _ _ h => h) (fun _ _ H' => (Runs.move A rfl)) A rfl hS ?_; clear A a hR; intro a A hR
    refine dstepG hR (i := 13) (dj := 54) rfl (by kernel_rfl) (fun _ _ _ h => h) rfl rfl (decide_eq_true rfl) (fun _ _ H' => (Runs.fa A rfl)) A rfl hS ?_; clear A a hR; intro a A hR
    refine dstepG hR (i := 14) (dj := 54) rfl (by kernel_rfl) (fun _ _ _ h => h) rfl rfl (decide_eq_true rfl) (fun _ _ H' => (Runs.ld1 A H' rfl rfl)) A rfl hS ?_; clear A a hR; intro a A hR
    refine dlist hR (i := 15) rfl (by kernel_rfl) ?_
    have hR := hR.next (i := 15) (by kernel_rfl)
    refine step_callFG (dj := 54) rfl rfl (decide_eq_true rfl) A rfl rfl (c_objects_Damaged hput (by decide)) H ?_
    rintro v6_15 a w m hm ⟨adw0, cw0, rfl, hw0⟩ A H
    have hM := hM.trans hm
    have G := G.mono hm
    have hS1 := hS1.mono hm
    have hS2 := hS2.mono hm
    have hput := hput.mono hm
    have hS3 := hS3.mono hm
    have hO4 := hO4.mono hm
    have hdu := hdu.mono hm
    have hS5 := hS5.mono hm
    have hS6 := hS6.mono hm
    have hO7 := hO7.mono hm
    have hW8 := hW8.mono hm
    have hw := hw.mono hm
    rw [ex_dmg0] at hw0 A
    have hL := hL.trans hm
    refine wpList_nil ?_
    clear hS; refine and_keep (H.sw hL) fun hS => ?_
    refine dstepG hR (i := 16) (dj := 54) rfl (by kernel_rfl) (fun _ _ _ h => h) rfl rfl (decide_eq_true rfl) (fun _ _ H' => (Runs.lenL A rfl SlC.h)) A rfl hS ?_; clear A a hR; intro a A hR
    refine dstepG hR (i := 17) (dj := 54) rfl (by kernel_rfl) (fun _ _ _ h => h) rfl rfl (decide_eq_true rfl) (fun _ _ H' => (Runs.eql A rfl rfl)) A rfl hS ?_; clear A a hR; intro a A hR
    refine dstep hR (i := 18) rfl (by kernel_rfl) (fun _ _ _ h => h) (fun _ _ H' => (Runs.pickT A rfl (decide_eq_true rfl) rfl)) A rfl hS ?_; clear A a hR; intro a A hR
    refine dstep hR (i := 19) rfl (by kernel_rfl) (fun _ _ _ h => h) (fun _ _ H' => (Runs.move A rfl)) A rfl hS ?_; clear A a hR; intro a A hR
    refine dstepG hR (i := 20) (dj := 61) rfl (by kernel_rfl) (fun _ _ _ h => h) rfl rfl (decide_eq_true rfl) (fun _ _ H' => (Runs.move A rfl)) A rfl hS ?_; clear A a hR; intro a A hR
    refine dstepG hR (i := 21) (dj := 61) rfl (by kernel_rfl) (fun _ _ _ h => h) rfl rfl (decide_eq_true rfl) (fun _ _ H' => (Runs.fa A rfl)) A rfl hS ?_; clear A a hR; intro a A hR
    refine dstepG hR (i := 22) (dj := 61) rfl (by kernel_rfl) (fun _ _ _ h => h) rfl rfl (decide_eq_true rfl) (fun _ _ H' => (Runs.ld1 A H' rfl rfl)) A rfl hS ?_; clear A a hR; intro a A hR
    refine dstepG hR (i := 24) (dj := 61) rfl (by kernel_rfl) (fun _ _ _ h => h) rfl rfl (decide_eq_true rfl) (fun _ _ H' => (Runs.fa A rfl)) A rfl hS ?_; clear A a hR; intro a A hR
    refine dstepG hR (i := 25) (dj := 61) rfl (by kernel_rfl) (fun _ _ _ h => h) rfl rfl (decide_eq_true rfl) (fun _ _ H' => (Runs.ld1 A H' rfl rfl)) A rfl hS ?_; clear A a hR; intro a A hR
    refine dlist hR (i := 23) rfl (by kernel_rfl) ?_
    have hR := hR.next (i := 23) (by kernel_rfl)
    refine step_callFG (dj := 61) rfl rfl (decide_eq_true rfl) A rfl rfl (c_objects_Union hO7 hput (by decide) (by decide)) H ?_
    rintro v6_23 a w m hm ⟨adm, cm, rfl, hmg⟩ A H
    have hM := hM.trans hm
    have G := G.mono hm
    have hS1 := hS1.mono hm
    have hS2 := hS2.mono hm
    have hput := hput.mono hm
    have hS3 := hS3.mono hm
    have hO4 := hO4.mono hm
    have hdu := hdu.mono hm
    have hS5 := hS5.mono hm
    have hS6 := hS6.mono hm
    have hO7 := hO7.mono hm
    have hW8 := hW8.mono hm
    have hw := hw.mono hm
    rw [ex_merge] at hmg A
    have hL := hL.trans hm
    refine wpList_nil ?_
    clear hS; refine and_keep (H.sw hL) fun hS => ?_
    refine dlist hR (i := 26) rfl (by kernel_rfl) ?_
    have hR := hR.next (i := 26) (by kernel_rfl)
    refine step_callFG (dj := 61) rfl rfl (decide_eq_true rfl) A rfl rfl (c_wireloomref18_Same hmg hput) H ?_
    rintro v6_26 a w m hm rfl A H
    have hM := hM.trans hm
    have G := G.mono hm
    have hS1 := hS1.mono hm
    have hS2 := hS2.mono hm
    have hput := hput.mono hm
    have hS3 := hS3.mono hm
    have hO4 := hO4.mono hm
    have hdu := hdu.mono hm
    have hS5 := hS5.mono hm
    have hS6 := hS6.mono hm
    have hO7 := hO7.mono hm
    have hW8 := hW8.mono hm
    have hw := hw.mono hm
    have hmg := hmg.mono hm
    have hL := hL.trans hm
    refine wpList_nil ?_
    clear hS; refine and_keep (H.sw hL) fun hS => ?_
    refine dstep hR (i := 27) rfl (by kernel_rfl) (fun _ _ _ h => h) (fun _ _ H' => (Runs.pickT A rfl (decide_eq_true rfl) rfl)) A rfl hS ?_; clear A a hR; intro a A hR
    refine dstep hR (i := 28) rfl (by kernel_rfl) (fun _ _ _ h => h) (fun _ _ H' => (Runs.move A rfl)) A rfl hS ?_; clear A a hR; intro a A hR
    refine dstepG hR (i := 29) (dj := 70) rfl (by kernel_rfl) (fun _ _ _ h => h) rfl rfl (decide_eq_true rfl) (fun _ _ H' => (Runs.fa A rfl)) A rfl hS ?_; clear A a hR; intro a A hR
    refine dstepG hR (i := 30) (dj := 70) rfl (by kernel_rfl) (fun _ _ _ h => h) rfl rfl (decide_eq_true rfl) (fun _ _ H' => (Runs.ld1 A H' rfl rfl)) A rfl hS ?_; clear A a hR; intro a A hR
    refine dlist hR (i := 31) rfl (by kernel_rfl) ?_
    have hR := hR.next (i := 31) (by kernel_rfl)
    refine step_callFG (dj := 70) rfl rfl (decide_eq_true rfl) A rfl rfl (c_objects_Keep hput (by decide) (show Ws m none 0 0 [] from Slc.nil m 1 none 0 (by decide))) H ?_
    rintro v6_31 a w m hm ⟨adk, ck, rfl, hk⟩ A H
    have hM := hM.trans hm
    have G := G.mono hm
    have hS1 := hS1.mono hm
    have hS2 := hS2.mono hm
    have hput := hput.mono hm
    have hS3 := hS3.mono hm
    have hO4 := hO4.mono hm
    have hdu := hdu.mono hm
    have hS5 := hS5.mono hm
    have hS6 := hS6.mono hm
    have hO7 := hO7.mono hm
    have hW8 := hW8.mono hm
    have hw := hw.mono hm
    have hmg := hmg.mono hm
    rw [ex_keep] at hk A
    have hL := hL.trans hm
    refine wpList_nil ?_
    clear hS; refine and_keep (H.sw hL) fun hS => ?_
    refine dstepG hR (i := 32) (dj := 70) rfl (by kernel_rfl) (fun _ _ _ h => h) rfl rfl (decide_eq_true rfl) (fun _ _ H' => (Runs.lenL A rfl SlC.h)) A rfl hS ?_; clear A a hR; intro a A hR
    refine dstepG hR (i := 33) (dj := 70) rfl (by kernel_rfl) (fun _ _ _ h => h) rfl rfl (decide_eq_true rfl) (fun _ _ H' => (Runs.eql A rfl rfl)) A rfl hS ?_; clear A a hR; intro a A hR
    refine dstep hR (i := 34) rfl (by kernel_rfl) (fun _ _ _ h => h) (fun _ _ H' => (Runs.pickT A rfl (decide_eq_true rfl) rfl)) A rfl hS ?_; clear A a hR; intro a A hR
    refine dstep hR (i := 35) rfl (by kernel_rfl) (fun _ _ _ h => h) (fun _ _ H' => (Runs.move A rfl)) A rfl hS ?_; clear A a hR; intro a A hR
    refine dstepG hR (i := 36) (dj := 77) rfl (by kernel_rfl) (fun _ _ _ h => h) rfl rfl (decide_eq_true rfl) (fun _ _ H' => (Runs.move A rfl)) A rfl hS ?_; clear A a hR; intro a A hR
    refine dlist hR (i := 37) rfl (by kernel_rfl) ?_
    have hR := hR.next (i := 37) (by kernel_rfl)
    refine step_callFG (dj := 77) rfl rfl (decide_eq_true rfl) A rfl rfl (c_objects_Is hO7) H ?_
    rintro v6_37 a w m hm rfl A H
    have hM := hM.trans hm
    have G := G.mono hm
    have hS1 := hS1.mono hm
    have hS2 := hS2.mono hm
    have hput := hput.mono hm
    have hS3 := hS3.mono hm
    have hO4 := hO4.mono hm
    have hdu := hdu.mono hm
    have hS5 := hS5.mono hm
    have hS6 := hS6.mono hm
    have hO7 := hO7.mono hm
    have hW8 := hW8.mono hm
    have hw := hw.mono hm
    have hmg := hmg.mono hm
    have hL := hL.trans hm
    refine wpList_nil ?_
    clear hS; refine and_keep (H.sw hL) fun hS => ?_
    refine dstep hR (i := 38) rfl (by kernel_rfl) (fun _ _ _ h => h) (fun _ _ H' => (Runs.pickT A rfl (decide_eq_true rfl) rfl)) A rfl hS ?_; clear A a hR; intro a A hR
    refine dstep hR (i := 39) rfl (by kernel_rfl) (fun _ _ _ h => h) (fun _ _ H' => (Runs.move A rfl)) A rfl hS ?_; clear A a hR; intro a A hR
    refine dstepG hR (i := 40) (dj := 81) rfl (by kernel_rfl) (fun _ _ _ h => h) rfl rfl (by decide +kernel) (fun _ _ H' => (Runs.build A rfl rfl rfl)) A rfl hS ?_; clear A a hR; intro a A hR
    refine dstepG hR (i := 41) (dj := 81) rfl (by kernel_rfl) (fun _ _ _ h => h) rfl rfl (by decide +kernel) (fun _ _ H' => (Runs.build A rfl rfl rfl)) A rfl hS ?_; clear A a hR; intro a A hR
    refine dlist hR (i := 42) rfl (by kernel_rfl) ?_
    have hR := hR.next (i := 42) (by kernel_rfl)
    refine unguard (dj := 81) rfl rfl (by decide +kernel) A ?_
    refine step_slice A H rfl rfl rfl rfl rfl rfl ?_; intro b9 a w A H
    obtain ⟨m, hm, hSx, H⟩ := (H.row_pt (n := 2) (size := 2) rfl (by decide)).row_freeze
    have hM := hM.trans hm
    have G := G.mono hm
    have hS1 := hS1.mono hm
    have hS2 := hS2.mono hm
    have hput := hput.mono hm
    have hS3 := hS3.mono hm
    have hO4 := hO4.mono hm
    have hdu := hdu.mono hm
    have hS5 := hS5.mono hm
    have hS6 := hS6.mono hm
    have hO7 := hO7.mono hm
    have hW8 := hW8.mono hm
    have hw := hw.mono hm
    have hmg := hmg.mono hm
    have hO9 : Objs m (some ⟨b9, 0, none⟩) 2 2 [⟨1, []⟩, ⟨1, []⟩] := ⟨rfl, _, hSx, rfl, Dat.nil m, rfl, Dat.nil m, trivial⟩
    have hL := hL.trans hm
    refine wpList_nil ?_
    clear hS; refine and_keep (H.sw hL) fun hS => ?_
    refine dlist hR (i := 43) rfl (by kernel_rfl) ?_
    have hR := hR.next (i := 43) (by kernel_rfl)
    refine step_callFG (dj := 81) rfl rfl (by decide +kernel) A rfl rfl (c_objects_Is hO9) H ?_
    rintro v6_43 a w m hm rfl A H
    have hM := hM.trans hm
    have G := G.mono hm
    have hS1 := hS1.mono hm
    have hS2 := hS2.mono hm
    have hput := hput.mono hm
    have hS3 := hS3.mono hm
    have hO4 := hO4.mono hm
    have hdu := hdu.mono hm
    have hS5 := hS5.mono hm
    have hS6 := hS6.mono hm
    have hO7 := hO7.mono hm
    have hW8 := hW8.mono hm
    have hw := hw.mono hm
    have hmg := hmg.mono hm
    have hO9 := hO9.mono hm
    have hL := hL.trans hm
    refine wpList_nil ?_
    clear hS; refine and_keep (H.sw hL) fun hS => ?_
    refine dstepG hR (i := 44) (dj := 81) rfl (by kernel_rfl) (fun _ _ _ h => h) rfl rfl (by decide +kernel) (fun _ _ H' => (Runs.not A rfl)) A rfl hS ?_; clear A a hR; intro a A hR
    refine dstep hR (i := 45) rfl (by kernel_rfl) (fun _ _ _ h => h) (fun _ _ H' => (Runs.pickT A rfl (by decide +kernel) rfl)) A rfl hS ?_; clear A a hR; intro a A hR
    refine dstep hR (i := 46) rfl (by kernel_rfl) (fun _ _ _ h => h) (fun _ _ H' => (Runs.move A rfl)) A rfl hS ?_; clear A a hR; intro a A hR
    refine dstepG hR (i := 47) (dj := 88) rfl (by kernel_rfl) (fun _ _ _ h => h) rfl rfl (notF (by decide +kernel)) (fun _ _ H' => (Runs.fa A rfl)) A rfl hS ?_; clear A a hR; intro a A hR
    refine dstepG hR (i := 48) (dj := 88) rfl (by kernel_rfl) (fun _ _ _ h => h) rfl rfl (notF (by decide +kernel)) (fun _ _ H' => (Runs.ld1 A H' rfl rfl)) A rfl hS ?_; clear A a hR; intro a A hR
    refine dstepG hR (i := 49) (dj := 88) rfl (by kernel_rfl) (fun _ _ _ h => h) rfl rfl (notF (by decide +kernel)) (fun _ _ H' => (Runs.move A rfl)) A rfl hS ?_; clear A a hR; intro a A hR
    refine dlist hR (i := 50) rfl (by kernel_rfl) ?_
    have hR := hR.next (i := 50) (by kernel_rfl)
    refine step_callFG (dj := 88) rfl rfl (notF (by decide +kernel)) A rfl rfl (c_load_lex G hput (by decide) (srt_one _) ex_nl) H ?_
    rintro v6_50 a w m hm rfl A H
    have hM := hM.trans hm
    have G := G.mono hm
    have hS1 := hS1.mono hm
    have hS2 := hS2.mono hm
    have hput := hput.mono hm
    have hS3 := hS3.mono hm
    have hO4 := hO4.mono hm
    have hdu := hdu.mono hm
    have hS5 := hS5.mono hm
    have hS6 := hS6.mono hm
    have hO7 := hO7.mono hm
    have hW8 := hW8.mono hm
    have hw := hw.mono hm
    have hmg := hmg.mono hm
    have hO9 := hO9.mono hm
    have hL := hL.trans hm
    refine wpList_nil ?_
    clear hS; refine and_keep (H.sw hL) fun hS => ?_
    refine dstepG hR (i := 51) (dj := 88) rfl (by kernel_rfl) (fun _ _ _ h => h) rfl rfl (notF (by decide +kernel)) (fun _ _ H' => (Runs.field1 (ty := 40) A rfl FldC.h (by kernel_rfl) TyC.h rfl)) A rfl hS ?_; clear A a hR; intro a A hR
    refine dstepG hR (i := 52) (dj := 88) rfl (by kernel_rfl) (fun _ _ _ h => h) rfl rfl (notF (by decide +kernel)) (fun _ _ H' => (Runs.eql A rfl rfl)) A rfl hS ?_; clear A a hR; intro a A hR
    refine dstep hR (i := 53) rfl (by kernel_rfl) (fun _ _ _ h => h) (fun _ _ H' => (Runs.pickT A rfl (notF (by decide +kernel)) rfl)) A rfl hS ?_; clear A a hR; intro a A hR
    refine dstep hR (i := 54) rfl (by kernel_rfl) (fun _ _ _ h => h) (fun _ _ H' => (Runs.move A rfl)) A rfl hS ?_; clear A a hR; intro a A hR
    refine dstepG hR (i := 55) (dj := 96) rfl (by kernel_rfl) (fun _ _ _ h => h) rfl rfl (decide_eq_true rfl) (fun _ _ H' => (Runs.build A rfl rfl rfl)) A rfl hS ?_; clear A a hR; intro a A hR
    refine dlist hR (i := 56) rfl (by kernel_rfl) ?_
    have hR := hR.next (i := 56) (by kernel_rfl)
    refine unguard (dj := 96) rfl rfl (decide_eq_true rfl) A ?_
    refine step_slice A H rfl rfl rfl rfl rfl rfl ?_; intro bm a w A H
    obtain ⟨m, hm, hSm, H⟩ := (H.row_pt (n := 1) (size := 4) rfl (by decide)).row_freeze
    have hLm : Lst MoR 4 m (some ⟨bm, 0, none⟩) 1 [zMod] := ⟨_, hSm, LR.one ⟨none, 0, none, 0, rfl, Lst.nil (by decide), Lst.nil (by decide)⟩ rfl⟩
    have hM := hM.trans hm
    have G := G.mono hm
    have hS1 := hS1.mono hm
    have hS2 := hS2.mono hm
    have hput := hput.mono hm
    have hS3 := hS3.mono hm
    have hO4 := hO4.mono hm
    have hdu := hdu.mono hm
    have hS5 := hS5.mono hm
    have hS6 := hS6.mono hm
    have hO7 := hO7.mono hm
    have hW8 := hW8.mono hm
    have hw := hw.mono hm
    have hmg := hmg.mono hm
    have hO9 := hO9.mono hm
    have hL := hL.trans hm
    refine wpList_nil ?_
    clear hS; refine and_keep (H.sw hL) fun hS => ?_
    refine dstepG hR (i := 57) (dj := 96) rfl (by kernel_rfl) (fun _ _ _ h => h) rfl rfl (decide_eq_true rfl) (fun _ _ H' => (Runs.build A rfl rfl rfl)) A rfl hS ?_; clear A a hR; intro a A hR
    refine dlist hR (i := 58) rfl (by kernel_rfl) ?_
    have hR := hR.next (i := 58) (by kernel_rfl)
    refine step_callFG (dj := 96) rfl rfl (decide_eq_true rfl) A rfl rfl (c_wireloomlaw18_save (lf := [zMod]) (Objs.nil m) (by decide) srt_nil G hLm ex_sz) H ?_
    rintro v6_58 a w m hm ⟨adsv, csv, rfl, hsave⟩ A H
    have hM := hM.trans hm
    have G := G.mono hm
    have hS1 := hS1.mono hm
    have hS2 := hS2.mono hm
    have hput := hput.mono hm
    have hS3 := hS3.mono hm
    have hO4 := hO4.mono hm
    have hdu := hdu.mono hm
    have hS5 := hS5.mono hm
    have hS6 := hS6.mono hm
    have hO7 := hO7.mono hm
    have hW8 := hW8.mono hm
    have hw := hw.mono hm
    have hmg := hmg.mono hm
    have hO9 := hO9.mono hm
    have hLm := hLm.mono hm
    rw [ex_save] at hsave A
    have hL := hL.trans hm
    refine wpList_nil ?_
    clear hS; refine and_keep (H.sw hL) fun hS => ?_
    refine dstepG hR (i := 59) (dj := 96) rfl (by kernel_rfl) (fun _ _ _ h => h) rfl rfl (decide_eq_true rfl) (fun _ _ H' => (Runs.field1 (ty := 40) A rfl FldC.h (by kernel_rfl) TyC.h rfl)) A rfl hS ?_; clear A a hR; intro a A hR
    refine dstepG hR (i := 60) (dj := 96) rfl (by kernel_rfl) (fun _ _ _ h => h) rfl rfl (decide_eq_true rfl) (fun _ _ H' => (Runs.eql A rfl rfl)) A rfl hS ?_; clear A a hR; intro a A hR
    refine dstep hR (i := 61) rfl (by kernel_rfl) (fun _ _ _ h => h) (fun _ _ H' => (Runs.pickT A rfl (decide_eq_true rfl) rfl)) A rfl hS ?_; clear A a hR; intro a A hR
    refine dstep hR (i := 62) rfl (by kernel_rfl) (fun _ _ _ h => h) (fun _ _ H' => (Runs.assign A rfl)) A rfl hS ?_; clear A a hR; intro a A hR
    refine draw_done hR (by kernel_rfl) ?_
    clear hS hL hR
    refine wp_ret ?_
    exact retF A rfl rfl hM H rfl
end Sl
end Go.Proofs.YtanhehbfbakdcaaGreatDoor
/- The laws of stores, in plain Lean: lists of objects in order of their Ids. Own work; no program stands here. -/
set_option linter.unusedVariables false
set_option linter.unusedSimpArgs false
namespace Go.Proofs.YtanhehbfbakdcaaGreatDoor
namespace Sl
open Go
theorem srt_cons {x : Obj} {l : List Obj} : Srt (x :: l) ↔ (∀ y ∈ l, x.id < y.id) ∧ Srt l := List.pairwise_cons
/-- what a store has under an Id -/
def lkp : List Obj → UInt64 → Option (List UInt8)
  | [], _ => none
  | o :: l, id => if o.id = id then some o.data else lkp l id
theorem lkp_none {l : List Obj} {id : UInt64} (h : ∀ y ∈ l, y.id ≠ id) : lkp l id = none := by
  induction l with
  | nil => rfl
  | cons x l ih => rw [lkp, if_neg (h x (by simp)), ih fun y hy => h y (by simp [hy])]
theorem lkp_above {l : List Obj} {id : UInt64} (h : ∀ y ∈ l, id < y.id) : lkp l id = none := lkp_none fun y hy e => by
  have := h y hy; rw [e] at this; exact UInt64.lt_irrefl _ this
theorem lkp_mem {l : List Obj} {id : UInt64} {d : List UInt8} (h : lkp l id = some d) : ⟨id, d⟩ ∈ l := by
  induction l with
  | nil => cases h
  | cons x l ih =>
    rw [lkp] at h
    split at h
    · rename_i e; cases h; subst e; simp
    · exact List.mem_cons_of_mem _ (ih h)
theorem mem_lkp {l : List Obj} (hs : Srt l) {o : Obj} (h : o ∈ l) : lkp l o.id = some o.data := by
  induction l with
  | nil => cases h
  | cons x l ih =>
    rcases List.mem_cons.1 h with rfl | h
    · rw [lkp, if_pos rfl]
    · have h1 := (srt_cons.1 hs).1 o h
      rw [lkp, if_neg (fun e => by rw [e] at h1; exact UInt64.lt_irrefl _ h1), ih (srt_cons.1 hs).2 h]
theorem lkp_isSome {l : List Obj} {id : UInt64} : (lkp l id).isSome = true ↔ id ∈ l.map (·.id) := by
  induction l with
  | nil => simp [lkp]
  | cons x l ih =>
    rw [lkp]
    split
    · rename_i e; simp [e]
    · rename_i e; rw [ih]; simp; exact fun h => absurd h.symm e
theorem srt_ext : ∀ {l l' : List Obj}, Srt l → Srt l' → (∀ id, lkp l id = lkp l' id) → l = l'
  | [], [], _, _, _ => rfl
  | [], y :: l', _, _, h => by have := h y.id; simp [lkp] at this
  | x :: l, [], _, _, h => by have := h x.id; simp [lkp] at this
  | x :: l, y :: l', hs, hs', h => by
    obtain ⟨a1, a2⟩ := srt_cons.1 hs
    obtain ⟨b1, b2⟩ := srt_cons.1 hs'
    have hid : x.id = y.id := by
      rcases Decidable.em (x.id = y.id) with e | ne
      · exact e
      · exfalso
        rcases UInt64.lt_or_lt_of_ne ne with hlt | hlt
        · have := h x.id
          rw [lkp, if_pos rfl, lkp, if_neg (Ne.symm ne), lkp_above fun z hz => UInt64.lt_trans hlt (b1 z hz)] at this
          cases this
        · have := h y.id
          rw [lkp, if_neg ne, lkp_above fun z hz => UInt64.lt_trans hlt (a1 z hz), lkp, if_pos rfl] at this
          cases this
    have hd : x.data = y.data := by
      have := h x.id
      rw [lkp, if_pos rfl, lkp, if_pos hid.symm] at this
      exact Option.some.inj this
    have hxy : x = y := by cases x; cases y; simp_all
    subst hxy
    rw [srt_ext a2 b2 fun id => ?_]
    have := h id
    rw [lkp, lkp] at this
    by_cases e : x.id = id
    · rw [← e, lkp_above a1, lkp_above b1]
    · rwa [if_neg e, if_neg e] at this

/-! ### Laying an object in its place -/
def insF (o : Obj) : List Obj → List Obj
  | [] => [o]
  | x :: l => if x.id < o.id then x :: insF o l else if x.id = o.id then o :: l else o :: x :: l
theorem insF_mem {o y : Obj} : ∀ {l : List Obj}, y ∈ insF o l → y = o ∨ y ∈ l
  | [], h => by simp [insF] at h; exact .inl h
  | x :: l, h => by
    rw [insF] at h
    split at h
    · rcases List.mem_cons.1 h with rfl | h
      · simp
      · rcases insF_mem h with e | e
        · exact .inl e
        · simp [e]
    · split at h
      · rcases List.mem_cons.1 h with rfl | h
        · simp
        · simp [h]
      · rcases List.mem_cons.1 h with rfl | h
        · simp
        · exact .inr h
theorem insF_srt {o : Obj} : ∀ {l : List Obj}, Srt l → Srt (insF o l)
  | [], _ => List.pairwise_singleton _ _
  | x :: l, h => by
    obtain ⟨h1, h2⟩ := srt_cons.1 h
    rw [insF]
    split
    · rename_i hlt
      refine srt_cons.2 ⟨fun y hy => ?_, insF_srt h2⟩
      rcases insF_mem hy with rfl | hy
      · exact hlt
      · exact h1 y hy
    · split
      · rename_i he
        exact srt_cons.2 ⟨fun y hy => by rw [← he]; exact h1 y hy, h2⟩
      · rename_i hlt he
        have hox : o.id < x.id := by
          rcases UInt64.lt_or_lt_of_ne he with h | h
          · exact absurd h hlt
          · exact h
        refine srt_cons.2 ⟨fun y hy => ?_, h⟩
        rcases List.mem_cons.1 hy with rfl | hy
        · exact hox
        · exact UInt64.lt_trans hox (h1 y hy)
theorem insF_lkp {o : Obj} {id : UInt64} : ∀ {l : List Obj}, Srt l → lkp (insF o l) id = if id = o.id then some o.data else lkp l id
  | [], _ => by
    show (if o.id = id then some o.data else none) = (if id = o.id then some o.data else none)
    by_cases e : id = o.id
    · rw [if_pos e.symm, if_pos e]
    · rw [if_neg (Ne.symm e), if_neg e]
  | x :: l, h => by
    obtain ⟨h1, h2⟩ := srt_cons.1 h
    rw [insF]
    split
    · rename_i hlt
      rw [lkp, insF_lkp h2, lkp]
      by_cases e : x.id = id
      · have : ¬ id = o.id := fun e2 => by rw [e, e2] at hlt; exact UInt64.lt_irrefl _ hlt
        rw [if_pos e, if_neg this, if_pos e]
      · rw [if_neg e, if_neg e]
    · split
      · rename_i he
        rw [lkp, lkp]
        by_cases e : id = o.id
        · rw [if_pos e.symm, if_pos e]
        · rw [if_neg (Ne.symm e), if_neg e, if_neg (fun e2 => e (by rw [← e2, he]))]
      · rw [lkp]
        by_cases e : id = o.id
        · rw [if_pos e.symm, if_pos e]
        · rw [if_neg (Ne.symm e), if_neg e]
theorem lbP_cons {x : Obj} {l : List Obj} {id : UInt64} : lbP (x :: l) id = if x.id < id then lbP l id + 1 else 0 := by
  unfold lbP
  by_cases h : x.id < id <;> simp [List.takeWhile_cons, h]
theorem atP_cons {x : Obj} {l : List Obj} {id : UInt64} : atP (x :: l) id = if x.id < id then atP l id else decide (x.id = id) := by
  unfold atP
  rw [lbP_cons]
  by_cases h : x.id < id <;> simp [h]
theorem withP_ins {o : Obj} : ∀ {l : List Obj}, withP l o = insF o l
  | [] => by simp [withP, insF, lbP, atP]
  | x :: l => by
    have ih := withP_ins (o := o) (l := l)
    unfold withP at ih ⊢
    rw [lbP_cons, atP_cons, insF]
    by_cases h : x.id < o.id
    · simp only [h, if_true]
      rw [List.take_succ_cons, show lbP l o.id + 1 + (if atP l o.id = true then 1 else 0) = (lbP l o.id + (if atP l o.id = true then 1 else 0)) + 1 by omega, List.drop_succ_cons, List.cons_append, List.cons_append, ih]
    · simp only [h, if_false]
      by_cases e : x.id = o.id <;> simp [e]
theorem atP_at {l : List Obj} (hs : Srt l) {id : UInt64} : (if atP l id then l[lbP l id]? else none) = (lkp l id).map fun d => ⟨id, d⟩ := by
  induction l with
  | nil => simp [atP, lbP, lkp]
  | cons x l ih =>
    obtain ⟨h1, h2⟩ := srt_cons.1 hs
    rw [lbP_cons, atP_cons, lkp]
    by_cases h : x.id < id
    · have hne : ¬ x.id = id := fun e => by rw [e] at h; exact UInt64.lt_irrefl _ h
      simp only [h, if_true, hne, if_false, List.getElem?_cons_succ]
      exact ih h2
    · simp only [h, if_false]
      by_cases e : x.id = id
      · simp only [e, decide_true, if_true, List.getElem?_cons_zero, Option.map_some]
        cases x; simp_all
      · have hlt : id < x.id := by
          rcases UInt64.lt_or_lt_of_ne e with k | k
          · exact absurd k h
          · exact k
        simp only [e, decide_false, if_false, Bool.false_eq_true]
        rw [lkp_above fun y hy => UInt64.lt_trans hlt (h1 y hy)]; rfl
/-- whether data are those of a digest -/
def soundB (id : UInt64) (d : List UInt8) : Bool := decide (id = dig d)
theorem sndP_mk {i : UInt64} {d : List UInt8} : sndP ⟨i, d⟩ = soundB i d := rfl
theorem getP_lkp {l : List Obj} (hs : Srt l) {id : UInt64} : getP l id = (lkp l id).bind fun d => if soundB id d then some d else none := by
  have h := atP_at hs (id := id)
  unfold getP
  by_cases ha : atP l id = true
  · rw [if_pos ha] at h ⊢
    rw [h]
    cases lkp l id with
    | none => rfl
    | some d => rw [Option.map_some, Option.bind_some, Option.bind_some, sndP_mk]
  · rw [if_neg ha] at h ⊢
    cases hq : lkp l id with
    | none => rfl
    | some d => rw [hq] at h; cases h
/-- whether there is a sound object under an Id -/
def okAt (l : List Obj) (id : UInt64) : Bool := (lkp l id).any (soundB id)
theorem okAt_some {l : List Obj} {id : UInt64} {d : List UInt8} (h : lkp l id = some d) : okAt l id = soundB id d := by rw [okAt, h, Option.any_some]
theorem okAt_none {l : List Obj} {id : UInt64} (h : lkp l id = none) : okAt l id = false := by rw [okAt, h, Option.any_none]
theorem putP_ins {l : List Obj} (hs : Srt l) {d : List UInt8} : putP l d = if okAt l (dig d) then l else insF ⟨dig d, d⟩ l := by
  have h := atP_at hs (id := dig d)
  rw [← withP_ins]
  unfold putP withP
  by_cases ha : atP l (dig d) = true
  · rw [if_pos ha] at h ⊢
    rw [if_pos ha]
    cases hq : lkp l (dig d) with
    | none =>
      rw [hq] at h
      unfold atP at ha
      rw [h] at ha; cases ha
    | some e =>
      rw [hq] at h
      rw [h, okAt_some hq, Option.map_some, Option.any_some, sndP_mk]
      have hlt := (List.getElem?_eq_some_iff.1 h).1
      cases soundB (dig d) e with
      | true => rfl
      | false =>
        rw [if_neg Bool.false_ne_true, if_neg Bool.false_ne_true, List.set_eq_take_append_cons_drop, if_pos hlt, List.append_assoc]
        rfl
  · rw [if_neg ha] at h ⊢
    rw [if_neg ha]
    cases hq : lkp l (dig d) with
    | none => rw [okAt_none hq, if_neg Bool.false_ne_true, Nat.add_zero]
    | some e => rw [hq] at h; cases h
theorem putP_srt {l : List Obj} (hs : Srt l) {d : List UInt8} : Srt (putP l d) := by
  rw [putP_ins hs]; split
  · exact hs
  · exact insF_srt hs
theorem putP_lkp {l : List Obj} (hs : Srt l) {d : List UInt8} {id : UInt64} : lkp (putP l d) id = if id = dig d ∧ okAt l (dig d) = false then some d else lkp l id := by
  rw [putP_ins hs]
  cases h : okAt l (dig d) with
  | true => rw [if_pos rfl, if_neg (fun e => by cases e.2)]
  | false =>
    rw [if_neg Bool.false_ne_true, insF_lkp hs]
    by_cases e : id = dig d
    · rw [if_pos e, if_pos ⟨e, rfl⟩]
    · rw [if_neg e, if_neg (fun k => e k.1)]
theorem findP_lkp {l : List Obj} {id : UInt64} : 0 ≤ findP l id ↔ (lkp l id).isSome = true := by
  rw [lkp_isSome]
  unfold findP
  split
  · rename_i i h
    obtain ⟨h1, h2, _⟩ := List.findIdx?_eq_some_iff_getElem.1 h
    exact ⟨fun _ => List.mem_map.2 ⟨_, List.getElem_mem h1, by simpa using h2⟩, fun _ => by omega⟩
  · rename_i h
    refine ⟨fun h => absurd h (by omega), fun hm => ?_⟩
    obtain ⟨o, ho, e⟩ := List.mem_map.1 hm
    have := List.findIdx?_eq_none_iff.1 h o ho
    simp [e] at this
theorem findP_at {l : List Obj} (hs : Srt l) {id : UInt64} (h : 0 ≤ findP l id) : l[(findP l id).toNat]? = (lkp l id).map fun d => ⟨id, d⟩ := by
  unfold findP at h ⊢
  split at h
  · rename_i i hi
    obtain ⟨h1, h2, _⟩ := List.findIdx?_eq_some_iff_getElem.1 hi
    have h2' : l[i].id = id := by simpa using h2
    have := mem_lkp hs (List.getElem_mem h1)
    rw [h2'] at this
    rw [this]
    simp only [Int.toNat_natCast, List.getElem?_eq_getElem h1, Option.map_some, Option.some.injEq]
    rw [← h2']
  · omega
theorem putR_put {l : List Obj} (hs : Srt l) {d : List UInt8} : putR l d = putP l d := by
  rw [putP_ins hs]
  unfold putR
  rw [withP_ins]
  by_cases h : 0 ≤ findP l (dig d)
  · have hat := findP_at hs h
    cases hq : lkp l (dig d) with
    | none => exact absurd (findP_lkp.1 h) (by rw [hq]; exact Bool.false_ne_true)
    | some e =>
      rw [hq, Option.map_some] at hat
      rw [okAt_some hq, hat, Option.any_some, sndP_mk]
      cases soundB (dig d) e with
      | true => rw [if_pos ⟨h, rfl⟩, if_pos rfl]
      | false => rw [if_neg (fun k => by cases k.2), if_neg Bool.false_ne_true]
  · have : lkp l (dig d) = none := by
      cases hq : lkp l (dig d) with
      | none => rfl
      | some e => exact absurd (findP_lkp.2 (by rw [hq]; rfl)) h
    rw [okAt_none this, if_neg (fun k => h k.1), if_neg Bool.false_ne_true]
theorem st1P_srt (ls : List (List UInt8)) : Srt (st1P ls) := by
  unfold st1P
  suffices h : ∀ (ls : List (List UInt8)) (s : List Obj), Srt s → Srt (ls.foldl (fun s d => putR s (d.take 40)) s) from h ls [] List.Pairwise.nil
  intro ls
  induction ls with
  | nil => exact fun s h => h
  | cons d ls ih => exact fun s h => ih _ (by show Srt (putR s (d.take 40)); rw [putR_put h]; exact putP_srt h)
theorem set_ids {l : List Obj} {i : Nat} {o : Obj} {d : List UInt8} (h : l[i]? = some o) : (l.set i ⟨o.id, d⟩).map (·.id) = l.map (·.id) := by
  rw [List.map_set]
  refine List.ext_getElem? fun k => ?_
  rw [List.getElem?_set]
  split
  · rename_i e; subst e
    simp only [List.getElem?_map, h, Option.map_some, List.length_map]
    split
    · rfl
    · rename_i hh; exact absurd (List.getElem?_eq_some_iff.1 h).1 hh
  · rfl
theorem srt_ids {l : List Obj} : Srt l ↔ (l.map (·.id)).Pairwise (· < ·) := by unfold Srt; rw [List.pairwise_map]
theorem dmg1P_srt {s : List Obj} {t : UInt8 × UInt8 × UInt8} (h : Srt s) : Srt (dmg1P s t) := by
  unfold dmg1P
  split
  · rename_i o ho; rw [srt_ids, set_ids ho]; exact srt_ids.1 h
  · exact h
theorem storeP_srt (ls : List (List UInt8)) (ts : List (UInt8 × UInt8 × UInt8)) : Srt (storeP ls ts) := by
  unfold storeP
  suffices h : ∀ (ts : List (UInt8 × UInt8 × UInt8)) (s : List Obj), Srt s → Srt (ts.foldl dmg1P s) from h _ _ (st1P_srt _)
  intro ts
  induction ts with
  | nil => exact fun s h => h
  | cons t ts ih => exact fun s h => ih _ (dmg1P_srt h)
theorem dmg1P_len (s : List Obj) (t : UInt8 × UInt8 × UInt8) : (dmg1P s t).length = s.length := by unfold dmg1P; split <;> simp
theorem storeP_len (ls : List (List UInt8)) (ts : List (UInt8 × UInt8 × UInt8)) : (storeP ls ts).length ≤ 8 := by
  have h1 : ∀ (ls : List (List UInt8)) (s : List Obj), (ls.foldl (fun s d => putR s (d.take 40)) s).length ≤ s.length + ls.length := by
    intro ls
    induction ls with
    | nil => simp
    | cons d ls ih => intro s; have := ih (putR s (d.take 40)); have := putR_len s (d.take 40); simp only [List.foldl_cons, List.length_cons]; omega
  have h2 : ∀ (ts : List (UInt8 × UInt8 × UInt8)) (s : List Obj), (ts.foldl dmg1P s).length = s.length := by
    intro ts
    induction ts with
    | nil => simp
    | cons t ts ih => intro s; rw [List.foldl_cons, ih, dmg1P_len]
  unfold storeP
  rw [h2]
  have := h1 (ls.take 8) []
  unfold st1P
  simp only [List.length_nil, List.length_take] at this
  omega

/-! ### ObjectsAddresses -/
end Sl
end Go.Proofs.YtanhehbfbakdcaaGreatDoor
/- ObjectsAddresses: walk, printed by my gen.py out of annotations. -/
set_option linter.unusedSimpArgs false
set_option linter.unusedVariables false
namespace Go.Proofs.YtanhehbfbakdcaaGreatDoor
namespace Sl
open Go

/-- the error and the data that a read gives -/
def gerr (l : List Obj) (id : UInt64) : Int := if (getP l id).isSome then 0 else 180
def gdat (l : List Obj) (id : UInt64) : List UInt8 := (getP l id).getD []
theorem c_law18_get {ad : Option Addr} {n c : Nat} {l : List Obj} {id : UInt64} {m : Mem} (hl : Objs m ad n c l) (hb : n ≤ 1100000) (hs : Srt l) : Spec Tryz.prog 32 #[.slice ad n c, u64 id] m [] (RetF fun m' v => ∃ u, v = .agg #[u, .int .i64 (gerr l id)] ∧ Dat m' u (gdat l id)) :=
  (c_wireloomlaw18_get hl hb hs).mono fun m' e L' _ h => by
    cases e with
    | returned v =>
      obtain ⟨h1, h2⟩ := h
      refine ⟨h1, ?_⟩
      unfold gerr gdat
      cases hg : getP l id with
      | none => simp only [hg] at h2; subst h2; exact ⟨_, rfl, Dat.nil m'⟩
      | some d => simp only [hg] at h2; exact h2
    | panicked _ => exact h
    | outgrown => exact h

end Sl
end Go.Proofs.YtanhehbfbakdcaaGreatDoor
/- More laws of stores, in plain Lean: damage, unions, what is kept. Own work; no program stands here. -/
set_option linter.unusedVariables false
set_option linter.unusedSimpArgs false
namespace Go.Proofs.YtanhehbfbakdcaaGreatDoor
namespace Sl
open Go
/-! ### Digests tell lists apart that differ at one place -/

/-! ### Unions -/
/-- which of two data under one Id is taken -/
def pkD (id : UInt64) (x y : List UInt8) : List UInt8 := if (!soundB id x && soundB id y) = true then y else x
def pkO (id : UInt64) : Option (List UInt8) → Option (List UInt8) → Option (List UInt8)
  | none, r => r
  | some x, none => some x
  | some x, some y => some (pkD id x y)
theorem pkP_id {x y : Obj} (h : x.id = y.id) : (pkP x y).id = x.id := by unfold pkP; split <;> simp [h]
theorem pkP_data {x y : Obj} (h : x.id = y.id) : (pkP x y).data = pkD x.id x.data y.data := by
  have e1 : sndP x = soundB x.id x.data := rfl
  have e2 : sndP y = soundB x.id y.data := by rw [h]; rfl
  unfold pkP pkD; rw [e1, e2]; split <;> rfl
theorem id_eq {a b : UInt64} (h1 : ¬ a < b) (h2 : ¬ b < a) : a = b := UInt64.le_antisymm (UInt64.not_lt.1 h2) (UInt64.not_lt.1 h1)
theorem mergeP_mem {z : Obj} : ∀ {a b : List Obj}, z ∈ mergeP a b → (∃ x ∈ a, z.id = x.id) ∨ ∃ y ∈ b, z.id = y.id
  | [], b, h => by rw [mergeP_nil'] at h; exact .inr ⟨z, h, rfl⟩
  | x :: a, [], h => by rw [mergeP_nil] at h; exact .inl ⟨z, h, rfl⟩
  | x :: a, y :: b, h => by
    rw [mergeP] at h
    split at h
    · rcases List.mem_cons.1 h with rfl | h
      · exact .inl ⟨z, by simp, rfl⟩
      · rcases mergeP_mem h with ⟨w, h1, h2⟩ | ⟨w, h1, h2⟩
        · exact .inl ⟨w, by simp [h1], h2⟩
        · exact .inr ⟨w, h1, h2⟩
    · split at h
      · rcases List.mem_cons.1 h with rfl | h
        · exact .inr ⟨z, by simp, rfl⟩
        · rcases mergeP_mem h with ⟨w, h1, h2⟩ | ⟨w, h1, h2⟩
          · exact .inl ⟨w, h1, h2⟩
          · exact .inr ⟨w, by simp [h1], h2⟩
      · rename_i n1 n2
        rcases List.mem_cons.1 h with rfl | h
        · exact .inl ⟨x, by simp, pkP_id (id_eq n1 n2)⟩
        · rcases mergeP_mem h with ⟨w, h1, h2⟩ | ⟨w, h1, h2⟩
          · exact .inl ⟨w, by simp [h1], h2⟩
          · exact .inr ⟨w, by simp [h1], h2⟩
termination_by a b => a.length + b.length
theorem mergeP_srt : ∀ {a b : List Obj}, Srt a → Srt b → Srt (mergeP a b)
  | [], b, _, h => by rw [mergeP_nil']; exact h
  | x :: a, [], h, _ => by rw [mergeP_nil]; exact h
  | x :: a, y :: b, ha, hb => by
    obtain ⟨a1, a2⟩ := srt_cons.1 ha
    obtain ⟨b1, b2⟩ := srt_cons.1 hb
    rw [mergeP]
    split
    · rename_i hlt
      refine srt_cons.2 ⟨fun z hz => ?_, mergeP_srt a2 hb⟩
      rcases mergeP_mem hz with ⟨w, h1, h2⟩ | ⟨w, h1, h2⟩
      · rw [h2]; exact a1 w h1
      · rw [h2]
        rcases List.mem_cons.1 h1 with rfl | h1
        · exact hlt
        · exact UInt64.lt_trans hlt (b1 w h1)
    · split
      · rename_i hlt
        refine srt_cons.2 ⟨fun z hz => ?_, mergeP_srt ha b2⟩
        rcases mergeP_mem hz with ⟨w, h1, h2⟩ | ⟨w, h1, h2⟩
        · rw [h2]
          rcases List.mem_cons.1 h1 with rfl | h1
          · exact hlt
          · exact UInt64.lt_trans hlt (a1 w h1)
        · rw [h2]; exact b1 w h1
      · rename_i n1 n2
        have e := id_eq n1 n2
        refine srt_cons.2 ⟨fun z hz => ?_, mergeP_srt a2 b2⟩
        rw [pkP_id e]
        rcases mergeP_mem hz with ⟨w, h1, h2⟩ | ⟨w, h1, h2⟩
        · rw [h2]; exact a1 w h1
        · rw [h2, e]; exact b1 w h1
termination_by a b => a.length + b.length
theorem mergeP_lkp {id : UInt64} : ∀ {a b : List Obj}, Srt a → Srt b → lkp (mergeP a b) id = pkO id (lkp a id) (lkp b id)
  | [], b, _, _ => by rw [mergeP_nil']; rfl
  | x :: a, [], _, _ => by
    rw [mergeP_nil]
    show lkp (x :: a) id = pkO id (lkp (x :: a) id) none
    cases lkp (x :: a) id <;> rfl
  | x :: a, y :: b, ha, hb => by
    obtain ⟨a1, a2⟩ := srt_cons.1 ha
    obtain ⟨b1, b2⟩ := srt_cons.1 hb
    rw [mergeP]
    split
    · rename_i hlt
      rw [lkp, mergeP_lkp a2 hb]
      by_cases e : x.id = id
      · rw [if_pos e]
        have hy : lkp (y :: b) id = none := lkp_above fun z hz => by
          rw [← e]
          rcases List.mem_cons.1 hz with rfl | hz
          · exact hlt
          · exact UInt64.lt_trans hlt (b1 z hz)
        rw [hy, lkp, if_pos e]; rfl
      · rw [if_neg e, show lkp (x :: a) id = lkp a id by rw [lkp, if_neg e]]
    · split
      · rename_i hlt
        rw [lkp, mergeP_lkp ha b2]
        by_cases e : y.id = id
        · rw [if_pos e]
          have hx : lkp (x :: a) id = none := lkp_above fun z hz => by
            rw [← e]
            rcases List.mem_cons.1 hz with rfl | hz
            · exact hlt
            · exact UInt64.lt_trans hlt (a1 z hz)
          rw [hx, show lkp (y :: b) id = some y.data by rw [lkp, if_pos e]]; rfl
        · rw [if_neg e, show lkp (y :: b) id = lkp b id by rw [lkp, if_neg e]]
      · rename_i n1 n2
        have e := id_eq n1 n2
        rw [lkp, mergeP_lkp a2 b2, pkP_id e, pkP_data e]
        by_cases ei : x.id = id
        · rw [if_pos ei, show lkp (x :: a) id = some x.data by rw [lkp, if_pos ei], show lkp (y :: b) id = some y.data by rw [lkp, if_pos (by rw [← e]; exact ei)], ei]; rfl
        · rw [if_neg ei, show lkp (x :: a) id = lkp a id by rw [lkp, if_neg ei], show lkp (y :: b) id = lkp b id by rw [lkp, if_neg (by rw [← e]; exact ei)]]
termination_by a b => a.length + b.length

/-! ### Damage -/
theorem lkp_set {l : List Obj} (hs : Srt l) {i : Nat} {o : Obj} {d : List UInt8} (h : l[i]? = some o) (id : UInt64) : lkp (l.set i ⟨o.id, d⟩) id = if id = o.id then some d else lkp l id := by
  have hs2 : Srt (l.set i ⟨o.id, d⟩) := by rw [srt_ids, set_ids h]; exact srt_ids.1 hs
  have hi := (List.getElem?_eq_some_iff.1 h).1
  by_cases e : id = o.id
  · rw [if_pos e, e]
    exact mem_lkp hs2 (o := ⟨o.id, d⟩) (List.mem_of_getElem? (List.getElem?_set_self hi))
  · rw [if_neg e]
    clear hs2 hs
    induction l generalizing i with
    | nil => simp at hi
    | cons x l ih =>
      cases i with
      | zero =>
        have : x = o := by simpa using h
        subst this
        rw [List.set_cons_zero, lkp, lkp, if_neg (Ne.symm e), if_neg (Ne.symm e)]
      | succ i =>
        rw [List.set_cons_succ, lkp, lkp, ih (by simpa using h) (by simpa using hi)]
theorem set_srt {l : List Obj} (hs : Srt l) {i : Nat} {o : Obj} {d : List UInt8} (h : l[i]? = some o) : Srt (l.set i ⟨o.id, d⟩) := by rw [srt_ids, set_ids h]; exact srt_ids.1 hs
/-- the store whose object under the digest of d is spoilt -/
structure Spoilt (p odd : List Obj) (d e : List UInt8) : Prop where
  at_ : ∃ i : Nat, findP p (dig d) = i ∧ p[i]? = some ⟨dig d, d⟩ ∧ odd = p.set i ⟨dig d, e⟩
  ne : dig e ≠ dig d
theorem Spoilt.srt {p odd : List Obj} {d e : List UInt8} (h : Spoilt p odd d e) (hs : Srt p) : Srt odd := by
  obtain ⟨⟨i, _, hi, rfl⟩, _⟩ := h
  exact set_srt hs (o := ⟨dig d, d⟩) hi
theorem Spoilt.lkp {p odd : List Obj} {d e : List UInt8} (h : Spoilt p odd d e) (hs : Srt p) (id : UInt64) : lkp odd id = if id = dig d then some e else Sl.lkp p id := by
  obtain ⟨⟨i, _, hi, rfl⟩, _⟩ := h
  exact lkp_set hs (o := ⟨dig d, d⟩) hi id
theorem Spoilt.old {p odd : List Obj} {d e : List UInt8} (h : Spoilt p odd d e) (hs : Srt p) : Sl.lkp p (dig d) = some d := by
  obtain ⟨⟨i, _, hi, _⟩, _⟩ := h
  exact mem_lkp hs (o := ⟨dig d, d⟩) (List.mem_of_getElem? hi)
theorem Spoilt.bad {p odd : List Obj} {d e : List UInt8} (h : Spoilt p odd d e) : soundB (dig d) e = false := decide_eq_false fun k => h.ne k.symm
theorem Spoilt.put {p odd : List Obj} {d e : List UInt8} (h : Spoilt p odd d e) (hs : Srt p) : putP odd d = p := by
  have ho := h.srt hs
  have hk : okAt odd (dig d) = false := by rw [okAt_some (d := e) (by rw [h.lkp hs, if_pos rfl])]; exact h.bad
  refine srt_ext (putP_srt ho) hs fun id => ?_
  rw [putP_lkp ho, h.lkp hs]
  by_cases e0 : id = dig d
  · rw [if_pos ⟨e0, hk⟩, e0, h.old hs]
  · rw [if_neg (fun k => e0 k.1), if_neg e0]

/-! ### What is kept -/
theorem keepP_lkp (l : List Obj) (ids : List UInt64) (id : UInt64) : lkp (keepP l ids) id = if id ∈ ids then lkp l id else none := by
  unfold keepP
  induction l with
  | nil => simp [lkp]
  | cons x l ih =>
    rw [List.filter_cons]
    by_cases hx : x.id ∈ ids
    · rw [if_pos (decide_eq_true hx), lkp, ih, lkp]
      by_cases e : x.id = id
      · rw [if_pos e, if_pos e, if_pos (by rw [← e]; exact hx)]
      · rw [if_neg e, if_neg e]
    · rw [if_neg (by rw [decide_eq_false hx]; exact Bool.false_ne_true), ih, lkp]
      by_cases e : x.id = id
      · rw [if_neg (by rw [← e]; exact hx), if_neg (by rw [← e]; exact hx)]
      · rw [if_neg e]
theorem keepP_srt {l : List Obj} (hs : Srt l) (ids : List UInt64) : Srt (keepP l ids) := List.Pairwise.sublist List.filter_sublist hs
theorem keep_find {l : List Obj} {ids : List UInt64} {o : Obj} (h : o ∈ l) : 0 ≤ findP (keepP l ids) o.id ↔ o.id ∈ ids := by
  rw [findP_lkp, keepP_lkp]
  by_cases e : o.id ∈ ids
  · rw [if_pos e]
    exact ⟨fun _ => e, fun _ => lkp_isSome.2 (List.mem_map_of_mem h)⟩
  · rw [if_neg e]
    exact ⟨fun (k : (none : Option (List UInt8)).isSome = true) => Bool.noConfusion k, fun k => absurd k e⟩
theorem keep_get {l : List Obj} (hs : Srt l) {ids : List UInt64} {id : UInt64} (h : id ∈ ids) : getP (keepP l ids) id = getP l id := by
  rw [getP_lkp (keepP_srt hs ids), getP_lkp hs, keepP_lkp, if_pos h]
theorem keep_none {l : List Obj} (hs : Srt l) {ids : List UInt64} {id : UInt64} (h : id ∉ ids) : getP (keepP l ids) id = none := by
  rw [getP_lkp (keepP_srt hs ids), keepP_lkp, if_neg h]; rfl
/-- the Ids of a store that are not in a list -/
def restP (l : List Obj) (ids : List UInt64) : List UInt64 := (l.filter fun o => !decide (o.id ∈ ids)).map (·.id)
theorem rest_mem {l : List Obj} {ids : List UInt64} {o : Obj} (h : o ∈ l) : o.id ∈ restP l ids ↔ o.id ∉ ids := by
  unfold restP
  rw [List.mem_map]
  constructor
  · rintro ⟨x, hx, e⟩
    have := (List.mem_filter.1 hx).2
    rw [e] at this
    simpa using this
  · exact fun k => ⟨o, List.mem_filter.2 ⟨h, by simpa using k⟩, rfl⟩
theorem rest_lkp {l : List Obj} {ids : List UInt64} (id : UInt64) : lkp (keepP l (restP l ids)) id = if id ∈ ids then none else lkp l id := by
  rw [keepP_lkp]
  cases hq : lkp l id with
  | none => simp
  | some d =>
    have hm := lkp_mem hq
    have := rest_mem (ids := ids) hm
    by_cases e : id ∈ ids
    · rw [if_pos e, if_neg (fun k => (this.1 k) e)]
    · rw [if_neg e, if_pos (this.2 e)]
theorem keep_len {l : List Obj} {ids : List UInt64} : (keepP l ids).length + (keepP l (restP l ids)).length = l.length := by
  have e : keepP l (restP l ids) = l.filter fun o => !decide (o.id ∈ ids) := by
    unfold keepP
    refine List.filter_congr fun o ho => ?_
    rw [← decide_not, decide_eq_decide]
    exact rest_mem ho
  rw [e]
  unfold keepP
  induction l with
  | nil => rfl
  | cons x l ih =>
    have ih := ih (by
      unfold keepP
      refine List.filter_congr fun o ho => ?_
      rw [← decide_not, decide_eq_decide]
      exact rest_mem ho)
    rw [List.filter_cons, List.filter_cons]
    by_cases h : x.id ∈ ids
    · rw [if_pos (decide_eq_true h), if_neg (by rw [decide_eq_true h]; exact Bool.false_ne_true), List.length_cons, List.length_cons]; omega
    · rw [if_neg (by rw [decide_eq_false h]; exact Bool.false_ne_true), if_pos (by rw [decide_eq_false h]; rfl), List.length_cons, List.length_cons]; omega
theorem keep_union {l : List Obj} (hs : Srt l) {ids : List UInt64} : mergeP (keepP l ids) (keepP l (restP l ids)) = l := by
  have h1 := keepP_srt hs ids
  have h2 := keepP_srt hs (restP l ids)
  refine srt_ext (mergeP_srt h1 h2) hs fun id => ?_
  rw [mergeP_lkp h1 h2, rest_lkp, keepP_lkp]
  by_cases e : id ∈ ids
  · rw [if_pos e, if_pos e]; cases lkp l id <;> rfl
  · rw [if_neg e, if_neg e]; rfl
theorem keep_union' {l : List Obj} (hs : Srt l) {ids : List UInt64} : mergeP (keepP l (restP l ids)) (keepP l ids) = l := by
  have h1 := keepP_srt hs ids
  have h2 := keepP_srt hs (restP l ids)
  refine srt_ext (mergeP_srt h2 h1) hs fun id => ?_
  rw [mergeP_lkp h2 h1, rest_lkp, keepP_lkp]
  by_cases e : id ∈ ids
  · rw [if_pos e, if_pos e]; cases lkp l id <;> rfl
  · rw [if_neg e, if_neg e]; cases lkp l id <;> rfl
theorem keep_all {l : List Obj} : keepP l (l.map (·.id)) = l := by
  unfold keepP
  exact List.filter_eq_self.2 fun o ho => decide_eq_true (List.mem_map_of_mem ho)
end Sl
end Go.Proofs.YtanhehbfbakdcaaGreatDoor
/- A few more rules: bools held against one another; ways through a code that meet in a state with parts yet unknown. Own work. -/
set_option linter.unusedSimpArgs false
set_option linter.unusedVariables false
namespace Go.Proofs.YtanhehbfbakdcaaGreatDoor
namespace Sl
open Go Go.RowKit
section
variable {P : Program} {n : Nat} {a : Act} {F : List (Nat × Value)} {D : List Deferred} {w0 w : World} {m : Mem} {L : List Res} {Q : Exit → Act → World → Prop} {x y : Operand} {t t' : Nat} {p q : Bool}
def boolT (P : Program) (t : Nat) : Bool := match P.underlying t with
  | some .bool => true
  | _ => false
theorem boolT_spec (h : boolT P t = true) : P.underlying t = some .bool := by
  unfold boolT at h
  split at h
  · assumption
  · cases h
theorem equal_bools (h : boolT P t = true) : (Op.equal t (.bool p) (.bool q)).run P w = .ok (p == q) w := by
  have hu := boolT_spec h
  unfold Op.equal
  rw [show Op.maxDepth = 9999 + 1 from rfl]
  generalize 9999 = dd
  simp only [Op.equalIn, Sem.run_bind, run_underlying hu, Result.andThen_ok, Sem.run_pure]
theorem Runs.bneq (A : Fr n a F D) (hx : ev F x = some (.bool p)) (hy : ev F y = some (.bool q)) (h : boolT P t = true) : Runs P a w (.binOp .neq t x y t') (.bool (p != q)) := by
  intro _ _ _ _ _
  have e := equal_bools (w := w) (p := p) (q := q) h
  have g : (eqGuard .neq t x y (.bool p) (.bool q)).run P w = .ok () w := by simp [eqGuard]
  simp only [execOp, A.ev hx, A.ev hy, Sem.run_bind, g, Result.andThen_ok, binOp, e, Sem.run_pure]
  rfl
variable {ms : Mem} {Ls : List Res} {ops : Array Oper} {o : List Nat} {fuel : Nat}
theorem LsOf_perm {N : Nat} {o o' : List Nat} (h : ((List.range N).all fun j => memN o j == memN o' j) = true) : LsOf N o = LsOf N o' := by
  apply Array.ext
  · rw [LsOf_size, LsOf_size]
  · intro i h1 h2
    rw [LsOf_size] at h1
    have := List.all_eq_true.1 h i (List.mem_range.2 h1)
    have e : memN o i = memN o' i := by simpa using this
    have g1 := LsOf_get (N := N) o (b := false) h1
    have g2 := LsOf_get (N := N) o' (b := false) h1
    rw [Array.getD_eq_getD_getElem?, Array.getElem?_eq_getElem (by rw [LsOf_size]; exact h1)] at g1 g2
    simp only [Option.getD_some] at g1 g2
    rw [g1, g2, e]
/-- what has come up, in another order -/
theorem Ord.perm {o' : List Nat} {S : World → Prop} (h : ((List.range ops.size).all fun j => memN o j == memN o' j) = true && (o'.all fun j => Nat.blt j ops.size)) (k : DrO ops o' → Ord P ops Q S fuel (LsOf ops.size o') a w) (R : DrO ops o) : Ord P ops Q S fuel (LsOf ops.size o) a w := by
  simp only [Bool.and_eq_true] at h
  rw [LsOf_perm (by simpa using h.1)]
  refine k ⟨R.st, fun j hj => ?_, by rw [← LsOf_perm (by simpa using h.1)]; exact R.cl⟩
  have := List.all_eq_true.1 h.2 j hj
  simpa [Nat.blt_eq] using this
end
end Sl
end Go.Proofs.YtanhehbfbakdcaaGreatDoor
/- ObjectsKeep: walk, printed by my gen.py out of annotations. -/
set_option linter.unusedSimpArgs false
set_option linter.unusedVariables false
namespace Go.Proofs.YtanhehbfbakdcaaGreatDoor
namespace Sl
open Go

theorem rest_take {s : List Obj} {ids : List UInt64} {i : Nat} {x : Obj} (h : s[i]? = some x) : restP (s.take (i + 1)) ids = restP (s.take i) ids ++ if x.id ∈ ids then [] else [x.id] := by
  unfold restP
  rw [take_filter _ h, List.map_append]
  by_cases e : x.id ∈ ids <;> simp [e]
theorem rest_le {s : List Obj} {ids : List UInt64} {i : Nat} : (restP (s.take i) ids).length ≤ i := by
  unfold restP; rw [List.length_map]; exact filter_le _

set_option maxHeartbeats 1100000 in
theorem c_ObjectsKeep {adL adB : Option Addr} {nL cL nB cB : Nat} {ls : List (List UInt8)} {ts : List (UInt8 × UInt8 × UInt8)} {mk : Int} {more : UInt64} {m : Mem} (G : Glob m) (hLs : Dats m adL nL cL ls) (hB : Tris m adB nB cB ts) (hnL : nL ≤ 1100000) (hnB : nB ≤ 1100000) : Spec Tryz.prog 7 #[.agg #[.slice adL nL cL, .slice adB nB cB], .int .u16 mk, u64 more] m [] (RetE (.bool true)) := by
  refine Spec.enter0 Tryz.func7 rfl 154 Tryz.ntmps7 rfl fun a w0 Lf A H => ?_
  have hM := Le.refl m
  have hmx : maxLen = 9223372036854775807 := rfl
  refine wp_seq ?_
  refine wp_region_lit ?_
  refine step_box A H rfl (by simp only [Value.cells, List.toList_toArray]; rfl) rfl ?_; intro b3 a w A H
  refine step (Runs.assign A rfl) A rfl ?_; clear A a; intro a A
  refine wpList_nil ?_
  refine wp_seq ?_
  refine wp_region_lit ?_
  refine step_callF A rfl rfl (c_law18_examples G) H ?_
  rintro v1_0 a w m hm rfl A H
  have hM := hM.trans hm
  have G := G.mono hm
  have hLs := hLs.mono hm
  have hB := hB.mono hm
  refine step (Runs.assign A rfl) A rfl ?_; clear A a; intro a A
  refine wpList_nil ?_
  refine wp_seq ?_
  refine wp_seq ?_
  refine wp_region_lit ?_
  refine step (Runs.move A rfl) A rfl ?_; clear A a; intro a A
  refine step (Runs.not A rfl) A rfl ?_; clear A a; intro a A
  refine wpList_nil ?_
  refine cond_false A rfl rfl ?_
  refine wp_skip ?_
  refine wp_seq ?_
  refine wp_region_lit ?_
  refine step (Runs.ldN A H rfl rfl) A rfl ?_; clear A a; intro a A
  refine step_callF A rfl rfl (c_wireloomref18_Store hLs hB (by omega) (by omega)) H ?_
  rintro v4_1 a w m hm ⟨ads, cs0, rfl, hos⟩ A H
  have hM := hM.trans hm
  have G := G.mono hm
  have hLs := hLs.mono hm
  have hB := hB.mono hm
  obtain ⟨s, hse⟩ : ∃ s, s = storeP ls ts := ⟨_, rfl⟩
  rw [← hse] at A hos
  have hss : Srt s := by rw [hse]; exact storeP_srt ls ts
  have hsl : s.length ≤ 8 := by rw [hse]; exact storeP_len ls ts
  refine step (Runs.assign A rfl) A rfl ?_; clear A a; intro a A
  refine wpList_nil ?_
  refine wp_seq ?_
  refine wp_region_lit ?_
  refine step (Runs.move A rfl) A rfl ?_; clear A a; intro a A
  refine step (Runs.move A rfl) A rfl ?_; clear A a; intro a A
  refine step (Runs.move A rfl) A rfl ?_; clear A a; intro a A
  refine step_callF A rfl rfl (c_wireloomlaw18_chosen hos (by omega)) H ?_
  rintro v5_3 a w m hm ⟨adk, nk, ck, kk, rfl, hk, hkn⟩ A H
  have hM := hM.trans hm
  have G := G.mono hm
  have hLs := hLs.mono hm
  have hB := hB.mono hm
  have hos := hos.mono hm
  refine step (Runs.assign A rfl) A rfl ?_; clear A a; intro a A
  refine wpList_nil ?_
  refine wp_seq ?_
  refine wp_region_lit ?_
  refine step_slice A H rfl rfl rfl rfl rfl rfl ?_; intro b10 a w A H
  refine step (Runs.assign A rfl) A rfl ?_; clear A a; intro a A
  refine wpList_nil ?_
  refine wp_seq ?_
  refine wp_seq ?_
  refine wp_region_lit ?_
  refine step (Runs.assign A rfl) A rfl ?_; clear A a; intro a A
  refine wpList_nil ?_
  refine wp_block ?_
  have H := H.row_pt (n := 0) (size := 1) rfl (by omega)
  refine wp_loop_ghost (fun q a w => ∃ (i : Nat) (ad2 : Option Addr) (c2 : Nat) (m' : Mem), q = s.length + 1 - i ∧ (i ≤ s.length) ∧ Le m m' ∧ Fr 154 a [(8, .slice ads s.length cs0), (9, .slice adk nk ck), (10, .slice ad2 (restP (s.take i) kk).length c2), (11, .int .i64 i), (7, .bool true)] [] ∧ St w0 w m' (row 29 1 ad2 (restP (s.take i) kk).length c2 ((restP (s.take i) kk).map u64) :: pt b3 [.slice adL nL cL, .slice adB nB cB] 25 :: Lf)) _ ⟨0, some ⟨b10, 0, none⟩, 0, m, rfl, by omega, Le.refl m, (Fr.cons A rfl (Fr.cons A rfl (Fr.cons A rfl (Fr.cons A rfl (Fr.cons A rfl (Fr.nil A)))))), H⟩ ?_
  clear A H; rintro q a w ⟨i, ad2, c2, m, rfl, hinv, hm, A, H⟩
  have hM := hM.trans hm
  have G := G.mono hm
  have hLs := hLs.mono hm
  have hB := hB.mono hm
  have hos := hos.mono hm
  have hk := hk.mono hm
  have hl1 := hm
  have hrl := rest_le (s := s) (ids := kk) (i := i)
  refine wp_seq ?_
  refine wp_seq ?_
  refine wp_region_lit ?_
  refine step (Runs.move A rfl) A rfl ?_; clear A a; intro a A
  refine step (Runs.move A rfl) A rfl ?_; clear A a; intro a A
  refine step (Runs.lenL A rfl SlC.h) A rfl ?_; clear A a; intro a A
  refine step (Runs.lss A rfl rfl) A rfl ?_; clear A a; intro a A
  refine wpList_nil ?_
  refine cond_split A rfl (fun h1 => ?_) (fun h1 => ?_)
  · have g1 := h1
    try simp only [decide_eq_true_eq, decide_eq_false_iff_not, Bool.not_eq_true', Bool.not_eq_false', ne_eq, Decidable.not_not, Int.not_lt, Int.not_le] at g1
    refine wp_skip ?_
    refine wp_seq ?_
    refine wp_block ?_
    refine wp_seq ?_
    obtain ⟨x, hx⟩ := ex_at (l := s) (i := i) (by omega)
    obtain ⟨bb, off, cs, rfl, hfz, hcs⟩ := hos.all_ (by omega)
    obtain ⟨vx, hx1, hx2, hx3, hxd⟩ := hcs _ _ hx
    have hxm := List.mem_of_getElem? hx
    refine wp_region_lit ?_
    refine step (Runs.move A rfl) A rfl ?_; clear A a; intro a A
    refine step (Runs.move A rfl) A rfl ?_; clear A a; intro a A
    refine step (Runs.move A rfl) A rfl ?_; clear A a; intro a A
    refine step (Runs.indexAddr A rfl rfl SlC.h (by omega) (by omega)) A rfl ?_; clear A a; intro a A
    refine step (Runs.fa A rfl) A rfl ?_; clear A a; intro a A
    refine step (Runs.ld1 A H rfl (v := u64 x.id) (by simpa using hx1)) A rfl ?_; clear A a; intro a A
    refine step_callF A rfl rfl (c_wireloomref18_In hk) H ?_
    rintro v10_6 a w m hm rfl A H
    have hM := hM.trans hm
    have hl1 := hl1.trans hm
    have G := G.mono hm
    have hLs := hLs.mono hm
    have hB := hB.mono hm
    have hos := hos.mono hm
    have hk := hk.mono hm
    have hfz := hfz.mono hm
    refine step (Runs.not A rfl) A rfl ?_; clear A a; intro a A
    refine wpList_nil ?_
    refine cond_split A rfl (fun h2 => ?_) (fun h2 => ?_)
    · have g2 := h2
      try simp only [decide_eq_true_eq, decide_eq_false_iff_not, Bool.not_eq_true', Bool.not_eq_false', ne_eq, Decidable.not_not, Int.not_lt, Int.not_le] at g2
      refine wp_region_lit ?_
      refine step (Runs.move A rfl) A rfl ?_; clear A a; intro a A
      refine step (Runs.move A rfl) A rfl ?_; clear A a; intro a A
      refine step (Runs.move A rfl) A rfl ?_; clear A a; intro a A
      refine step (Runs.indexAddr A rfl rfl SlC.h (by omega) (by omega)) A rfl ?_; clear A a; intro a A
      refine step (Runs.fa A rfl) A rfl ?_; clear A a; intro a A
      refine step (Runs.ld1 A H rfl (v := u64 x.id) (by simpa using hx1)) A rfl ?_; clear A a; intro a A
      refine step_slice A H rfl rfl rfl rfl rfl rfl ?_; intro b3 a w A H
      refine step_append A H rfl rfl rfl rfl (by decide) (by omega) (by simp only [maxLen]; omega) rfl rfl ?_; clear A a; intro ad1 c1 a w A H
      refine step (Runs.assign A rfl) A rfl ?_; clear A a; intro a A
      refine wpList_nil ?_
      refine wp_region_lit ?_
      refine step (Runs.move A rfl) A rfl ?_; clear A a; intro a A
      refine step (Runs.add A rfl rfl (by omega)) A rfl ?_; clear A a; intro a A
      refine step (Runs.assign A rfl) A rfl ?_; clear A a; intro a A
      refine wpList_nil ?_
      have hnk2 : ¬ x.id ∈ kk := by simpa using (by assumption : (!decide (x.id ∈ kk)) = true)
      have hst : restP (s.take (i + 1)) kk = restP (s.take i) kk ++ [x.id] := by rw [rest_take hx, if_neg hnk2]
      have hlen : (restP (s.take (i + 1)) kk).length = (restP (s.take i) kk).length + 1 := by rw [hst]; simp
      have hcl : (restP (s.take (i + 1)) kk).map u64 = (restP (s.take i) kk).map u64 ++ [u64 x.id] := by rw [hst]; simp
      rw [← hlen] at A H
      rw [← hcl] at H
      exact ⟨_, by omega, i + 1, ad1, c1, m, rfl, by omega, hl1, (Fr.cons A rfl (Fr.cons A rfl (Fr.cons A rfl (Fr.cons A rfl (Fr.cons A rfl (Fr.nil A)))))), H.subH⟩
    · have g2 := h2
      try simp only [decide_eq_true_eq, decide_eq_false_iff_not, Bool.not_eq_true', Bool.not_eq_false', ne_eq, Decidable.not_not, Int.not_lt, Int.not_le] at g2
      refine wp_skip ?_
      refine wp_region_lit ?_
      refine step (Runs.move A rfl) A rfl ?_; clear A a; intro a A
      refine step (Runs.add A rfl rfl (by omega)) A rfl ?_; clear A a; intro a A
      refine step (Runs.assign A rfl) A rfl ?_; clear A a; intro a A
      refine wpList_nil ?_
      have hnk2 : x.id ∈ kk := by simpa using (by assumption : (!decide (x.id ∈ kk)) = false)
      have hst : restP (s.take (i + 1)) kk = restP (s.take i) kk := by rw [rest_take hx, if_pos hnk2, List.append_nil]
      rw [← hst] at A H
      exact ⟨_, by omega, i + 1, ad2, c2, m, rfl, by omega, hl1, (Fr.cons A rfl (Fr.cons A rfl (Fr.cons A rfl (Fr.cons A rfl (Fr.cons A rfl (Fr.nil A)))))), H.subH⟩
  · have g1 := h1
    try simp only [decide_eq_true_eq, decide_eq_false_iff_not, Bool.not_eq_true', Bool.not_eq_false', ne_eq, Decidable.not_not, Int.not_lt, Int.not_le] at g1
    refine wp_exit ?_
    refine wp_seq ?_
    have ei : i = s.length := by omega
    rw [show s.take i = s by rw [ei]; exact List.take_length ..] at H A
    refine wp_region_lit ?_
    refine step (Runs.move A rfl) A rfl ?_; clear A a; intro a A
    have HX := H.row_freeze; clear H; obtain ⟨m, hm, hI0, H⟩ := HX
    have hrest : Ws m ad2 (restP s kk).length c2 (restP s kk) := hI0
    have hM := hM.trans hm
    have G := G.mono hm
    have hLs := hLs.mono hm
    have hB := hB.mono hm
    have hos := hos.mono hm
    have hk := hk.mono hm
    refine step (Runs.move A rfl) A rfl ?_; clear A a; intro a A
    refine step_callF A rfl rfl (c_objects_Keep hos (by omega) hk) H ?_
    rintro v12_2 a w m hm ⟨adka, cka, rfl, hka⟩ A H
    have hM := hM.trans hm
    have G := G.mono hm
    have hLs := hLs.mono hm
    have hB := hB.mono hm
    have hos := hos.mono hm
    have hk := hk.mono hm
    have hrest := hrest.mono hm
    obtain ⟨ka, hkae⟩ : ∃ z, z = keepP s kk := ⟨_, rfl⟩
    rw [← hkae] at A hka
    have hkas : Srt ka := by rw [hkae]; exact keepP_srt hss _
    have hkal : ka.length ≤ 8 := by rw [hkae]; exact Nat.le_trans (List.length_filter_le _ _) hsl
    refine step (Runs.move A rfl) A rfl ?_; clear A a; intro a A
    refine step (Runs.move A rfl) A rfl ?_; clear A a; intro a A
    refine step_callF A rfl rfl (c_objects_Keep hos (by omega) hrest) H ?_
    rintro v12_5 a w m hm ⟨adkb, ckb, rfl, hkb⟩ A H
    have hM := hM.trans hm
    have G := G.mono hm
    have hLs := hLs.mono hm
    have hB := hB.mono hm
    have hos := hos.mono hm
    have hk := hk.mono hm
    have hrest := hrest.mono hm
    have hka := hka.mono hm
    obtain ⟨kb, hkbe⟩ : ∃ z, z = keepP s (restP s kk) := ⟨_, rfl⟩
    rw [← hkbe] at A hkb
    have hkbs : Srt kb := by rw [hkbe]; exact keepP_srt hss _
    have hkbl : kb.length ≤ 8 := by rw [hkbe]; exact Nat.le_trans (List.length_filter_le _ _) hsl
    refine step (Runs.assign A rfl) A rfl ?_; clear A a; intro a A
    refine step (Runs.assign A rfl) A rfl ?_; clear A a; intro a A
    refine wpList_nil ?_
    refine wp_seq ?_
    refine wp_seq ?_
    refine wp_region_lit ?_
    refine step (Runs.move A rfl) A rfl ?_; clear A a; intro a A
    refine step_callF A rfl rfl (c_wireloomref18_Is hka) H ?_
    rintro v13_1 a w m hm rfl A H
    have hM := hM.trans hm
    have G := G.mono hm
    have hLs := hLs.mono hm
    have hB := hB.mono hm
    have hos := hos.mono hm
    have hk := hk.mono hm
    have hrest := hrest.mono hm
    have hka := hka.mono hm
    have hkb := hkb.mono hm
    refine step (Runs.not A rfl) A rfl ?_; clear A a; intro a A
    refine step (Runs.move A rfl) A rfl ?_; clear A a; intro a A
    refine stepG (dj := 57) rfl rfl (notT (decide_eq_true hkas)) (Runs.move A rfl) A rfl ?_; clear A a; intro a A
    refine step_callFG (dj := 57) rfl rfl (notT (decide_eq_true hkas)) A rfl rfl (c_wireloomref18_Is hkb) H ?_
    rintro v13_5 a w m hm rfl A H
    have hM := hM.trans hm
    have G := G.mono hm
    have hLs := hLs.mono hm
    have hB := hB.mono hm
    have hos := hos.mono hm
    have hk := hk.mono hm
    have hrest := hrest.mono hm
    have hka := hka.mono hm
    have hkb := hkb.mono hm
    refine stepG (dj := 57) rfl rfl (notT (decide_eq_true hkas)) (Runs.not A rfl) A rfl ?_; clear A a; intro a A
    refine step (Runs.pickF A rfl (notT (decide_eq_true hkas)) rfl) A rfl ?_; clear A a; intro a A
    refine wpList_nil ?_
    refine cond_false A rfl (notT (decide_eq_true hkbs)) ?_
    refine wp_skip ?_
    refine wp_seq ?_
    refine wp_seq ?_
    refine wp_region_lit ?_
    refine step (Runs.assign A rfl) A rfl ?_; clear A a; intro a A
    refine wpList_nil ?_
    refine wp_block ?_
    refine wp_loop_ghost (fun q a w => ∃ (i : Nat) (m' : Mem), q = s.length + 1 - i ∧ (i ≤ s.length) ∧ Le m m' ∧ Fr 154 a [(8, .slice ads s.length cs0), (9, .slice adk nk ck), (12, .slice adka ka.length cka), (13, .slice adkb kb.length ckb), (14, .int .i64 i), (7, .bool true)] [] ∧ St w0 w m' (Lf)) _ ⟨0, m, rfl, by omega, Le.refl m, (Fr.cons A rfl (Fr.cons A rfl (Fr.cons A rfl (Fr.cons A rfl (Fr.cons A rfl (Fr.cons A rfl (Fr.nil A))))))), H.subH⟩ ?_
    clear A H; rintro q a w ⟨i, m, rfl, hinv, hm, A, H⟩
    have hM := hM.trans hm
    have G := G.mono hm
    have hLs := hLs.mono hm
    have hB := hB.mono hm
    have hos := hos.mono hm
    have hk := hk.mono hm
    have hrest := hrest.mono hm
    have hka := hka.mono hm
    have hkb := hkb.mono hm
    have hl2 := hm
    refine wp_seq ?_
    refine wp_seq ?_
    refine wp_region_lit ?_
    refine step (Runs.move A rfl) A rfl ?_; clear A a; intro a A
    refine step (Runs.move A rfl) A rfl ?_; clear A a; intro a A
    refine step (Runs.lenL A rfl SlC.h) A rfl ?_; clear A a; intro a A
    refine step (Runs.lss A rfl rfl) A rfl ?_; clear A a; intro a A
    refine wpList_nil ?_
    refine cond_split A rfl (fun h3 => ?_) (fun h3 => ?_)
    · have g3 := h3
      try simp only [decide_eq_true_eq, decide_eq_false_iff_not, Bool.not_eq_true', Bool.not_eq_false', ne_eq, Decidable.not_not, Int.not_lt, Int.not_le] at g3
      refine wp_skip ?_
      refine wp_seq ?_
      refine wp_block ?_
      refine wp_seq ?_
      obtain ⟨x, hx⟩ := ex_at (l := s) (i := i) (by omega)
      obtain ⟨bb, off, cs, rfl, hfz, hcs⟩ := hos.all_ (by omega)
      obtain ⟨vx, hx1, hx2, hx3, hxd⟩ := hcs _ _ hx
      have hxm := List.mem_of_getElem? hx
      refine wp_region_lit ?_
      refine step (Runs.move A rfl) A rfl ?_; clear A a; intro a A
      refine step (Runs.move A rfl) A rfl ?_; clear A a; intro a A
      refine step (Runs.move A rfl) A rfl ?_; clear A a; intro a A
      refine step (Runs.indexAddr A rfl rfl SlC.h (by omega) (by omega)) A rfl ?_; clear A a; intro a A
      refine step (Runs.fa A rfl) A rfl ?_; clear A a; intro a A
      refine step (Runs.ld1 A H rfl (v := u64 x.id) (by simpa using hx1)) A rfl ?_; clear A a; intro a A
      refine step_callF A rfl rfl (c_wireloomref18_In hk) H ?_
      rintro v18_6 a w m hm rfl A H
      have hM := hM.trans hm
      have hl2 := hl2.trans hm
      have G := G.mono hm
      have hLs := hLs.mono hm
      have hB := hB.mono hm
      have hos := hos.mono hm
      have hk := hk.mono hm
      have hrest := hrest.mono hm
      have hka := hka.mono hm
      have hkb := hkb.mono hm
      have hfz := hfz.mono hm
      refine step (Runs.assign A rfl) A rfl ?_; clear A a; intro a A
      refine wpList_nil ?_
      refine wp_seq ?_
      refine draw_begin (ms := m) (Ls := []) (by kernel_rfl) (N := 46) rfl (by kernel_rfl) H ?_; clear H; intro w H hR
      have hS : SW m [] w := H.sw (Le.refl m)
      have hL := Le.refl m
      refine dstep hR (i := 0) rfl (by kernel_rfl) (fun _ _ _ h => h) (fun _ _ H' => (Runs.move A rfl)) A rfl hS ?_; clear A a hR; intro a A hR
      refine dstep hR (i := 1) rfl (by kernel_rfl) (fun _ _ _ h => h) (fun _ _ H' => (Runs.move A rfl)) A rfl hS ?_; clear A a hR; intro a A hR
      refine dstep hR (i := 2) rfl (by kernel_rfl) (fun _ _ _ h => h) (fun _ _ H' => (Runs.move A rfl)) A rfl hS ?_; clear A a hR; intro a A hR
      refine dstep hR (i := 3) rfl (by kernel_rfl) (fun _ _ _ h => h) (fun _ _ H' => (Runs.move A rfl)) A rfl hS ?_; clear A a hR; intro a A hR
      refine dstep hR (i := 4) rfl (by kernel_rfl) (fun _ _ _ h => h) (fun _ _ H' => (Runs.indexAddr A rfl rfl SlC.h (by omega) (by omega))) A rfl hS ?_; clear A a hR; intro a A hR
      refine dstep hR (i := 5) rfl (by kernel_rfl) (fun _ _ _ h => h) (fun _ _ H' => (Runs.fa A rfl)) A rfl hS ?_; clear A a hR; intro a A hR
      refine dstep hR (i := 6) rfl (by kernel_rfl) (fun _ _ _ h => h) (fun _ _ H' => (Runs.ld1 A H' rfl (v := u64 x.id) (by simpa using hx1))) A rfl hS ?_; clear A a hR; intro a A hR
      refine dlist hR (i := 7) rfl (by kernel_rfl) ?_
      have hR := hR.next (i := 7) (by kernel_rfl)
      refine step_callF A rfl rfl (c_wireloomref18_Find hka) H ?_
      rintro v19_7 a w m hm rfl A H
      have hM := hM.trans hm
      have hl2 := hl2.trans hm
      have G := G.mono hm
      have hLs := hLs.mono hm
      have hB := hB.mono hm
      have hos := hos.mono hm
      have hk := hk.mono hm
      have hrest := hrest.mono hm
      have hka := hka.mono hm
      have hkb := hkb.mono hm
      have hfz := hfz.mono hm
      have hkf : decide (0 ≤ findP ka x.id) = decide (x.id ∈ kk) := by rw [hkae]; exact decide_eq_decide.2 (keep_find hxm)
      have hL := hL.trans hm
      refine wpList_nil ?_
      clear hS; refine and_keep (H.sw hL) fun hS => ?_
      refine dstep hR (i := 8) rfl (by kernel_rfl) (fun _ _ _ h => h) (fun _ _ H' => (Runs.geq A rfl rfl)) A rfl hS ?_; clear A a hR; intro a A hR
      refine dstep hR (i := 9) rfl (by kernel_rfl) (fun _ _ _ h => h) (fun _ _ H' => (Runs.bneq A rfl rfl (by kernel_rfl))) A rfl hS ?_; clear A a hR; intro a A hR
      refine dstep hR (i := 10) rfl (by kernel_rfl) (fun _ _ _ h => h) (fun _ _ H' => (Runs.move A rfl)) A rfl hS ?_; clear A a hR; intro a A hR
      refine dstepG hR (i := 11) (dj := 85) rfl (by kernel_rfl) (fun _ _ _ h => h) rfl rfl (by rw [hkf]; cases decide (x.id ∈ kk) <;> rfl) (fun _ _ H' => (Runs.move A rfl)) A rfl hS ?_; clear A a hR; intro a A hR
      refine dstepG hR (i := 12) (dj := 85) rfl (by kernel_rfl) (fun _ _ _ h => h) rfl rfl (by rw [hkf]; cases decide (x.id ∈ kk) <;> rfl) (fun _ _ H' => (Runs.move A rfl)) A rfl hS ?_; clear A a hR; intro a A hR
      refine onBool A (dj := 87) rfl (fun h4 => ?_) (fun h4 => ?_)
      · have g4 := h4
        try simp only [decide_eq_true_eq, decide_eq_false_iff_not, Bool.not_eq_true', Bool.not_eq_false', ne_eq, Decidable.not_not, Int.not_lt, Int.not_le] at g4
        refine dstepG hR (i := 13) (dj := 87) rfl (by kernel_rfl) (fun _ _ _ h => h) rfl rfl h4 (fun _ _ H' => (Runs.move A rfl)) A rfl hS ?_; clear A a hR; intro a A hR
        refine dstepG hR (i := 14) (dj := 87) rfl (by kernel_rfl) (fun _ _ _ h => h) rfl rfl h4 (fun _ _ H' => (Runs.move A rfl)) A rfl hS ?_; clear A a hR; intro a A hR
        refine dstepG hR (i := 15) (dj := 87) rfl (by kernel_rfl) (fun _ _ _ h => h) rfl rfl h4 (fun _ _ H' => (Runs.move A rfl)) A rfl hS ?_; clear A a hR; intro a A hR
        refine dstepG hR (i := 16) (dj := 87) rfl (by kernel_rfl) (fun _ _ _ h => h) rfl rfl h4 (fun _ _ H' => (Runs.indexAddr A rfl rfl SlC.h (by omega) (by omega))) A rfl hS ?_; clear A a hR; intro a A hR
        refine dstepG hR (i := 17) (dj := 87) rfl (by kernel_rfl) (fun _ _ _ h => h) rfl rfl h4 (fun _ _ H' => (Runs.fa A rfl)) A rfl hS ?_; clear A a hR; intro a A hR
        refine dstepG hR (i := 18) (dj := 87) rfl (by kernel_rfl) (fun _ _ _ h => h) rfl rfl h4 (fun _ _ H' => (Runs.ld1 A H' rfl (v := u64 x.id) (by simpa using hx1))) A rfl hS ?_; clear A a hR; intro a A hR
        refine dstepG hR (i := 20) (dj := 87) rfl (by kernel_rfl) (fun _ _ _ h => h) rfl rfl h4 (fun _ _ H' => (Runs.move A rfl)) A rfl hS ?_; clear A a hR; intro a A hR
        refine dstepG hR (i := 21) (dj := 87) rfl (by kernel_rfl) (fun _ _ _ h => h) rfl rfl h4 (fun _ _ H' => (Runs.move A rfl)) A rfl hS ?_; clear A a hR; intro a A hR
        refine dstepG hR (i := 22) (dj := 87) rfl (by kernel_rfl) (fun _ _ _ h => h) rfl rfl h4 (fun _ _ H' => (Runs.move A rfl)) A rfl hS ?_; clear A a hR; intro a A hR
        refine dstepG hR (i := 23) (dj := 87) rfl (by kernel_rfl) (fun _ _ _ h => h) rfl rfl h4 (fun _ _ H' => (Runs.indexAddr A rfl rfl SlC.h (by omega) (by omega))) A rfl hS ?_; clear A a hR; intro a A hR
        refine dstepG hR (i := 24) (dj := 87) rfl (by kernel_rfl) (fun _ _ _ h => h) rfl rfl h4 (fun _ _ H' => (Runs.fa A rfl)) A rfl hS ?_; clear A a hR; intro a A hR
        refine dstepG hR (i := 25) (dj := 87) rfl (by kernel_rfl) (fun _ _ _ h => h) rfl rfl h4 (fun _ _ H' => (Runs.ld1 A H' rfl (v := u64 x.id) (by simpa using hx1))) A rfl hS ?_; clear A a hR; intro a A hR
        refine dlist hR (i := 19) rfl (by kernel_rfl) ?_
        have hR := hR.next (i := 19) (by kernel_rfl)
        refine step_callFG (dj := 87) rfl rfl h4 A rfl rfl (c_law18_get hka (by omega) hkas) H ?_
        rintro v19_19 a w m hm ⟨u1, rfl, hu1⟩ A H
        have hM := hM.trans hm
        have hl2 := hl2.trans hm
        have G := G.mono hm
        have hLs := hLs.mono hm
        have hB := hB.mono hm
        have hos := hos.mono hm
        have hk := hk.mono hm
        have hrest := hrest.mono hm
        have hka := hka.mono hm
        have hkb := hkb.mono hm
        have hfz := hfz.mono hm
        have hL := hL.trans hm
        refine wpList_nil ?_
        clear hS; refine and_keep (H.sw hL) fun hS => ?_
        refine dlist hR (i := 26) rfl (by kernel_rfl) ?_
        have hR := hR.next (i := 26) (by kernel_rfl)
        refine step_callFG (dj := 87) rfl rfl h4 A rfl rfl (c_law18_get hos (by omega) hss) H ?_
        rintro v19_26 a w m hm ⟨u2, rfl, hu2⟩ A H
        have hM := hM.trans hm
        have hl2 := hl2.trans hm
        have G := G.mono hm
        have hLs := hLs.mono hm
        have hB := hB.mono hm
        have hos := hos.mono hm
        have hk := hk.mono hm
        have hrest := hrest.mono hm
        have hka := hka.mono hm
        have hkb := hkb.mono hm
        have hfz := hfz.mono hm
        have hu1 := hu1.mono hm
        have hgo : getP ka x.id = getP s x.id := by rw [hkae]; exact keep_get hss (of_decide_eq_true (by assumption))
        have hL := hL.trans hm
        refine wpList_nil ?_
        clear hS; refine and_keep (H.sw hL) fun hS => ?_
        refine dlist hR (i := 27) rfl (by kernel_rfl) ?_
        have hR := hR.next (i := 27) (by kernel_rfl)
        refine step_callFG (dj := 87) rfl rfl h4 A rfl rfl (c_law18_same hu1 hu2) H ?_
        rintro v19_27 a w m hm rfl A H
        have hM := hM.trans hm
        have hl2 := hl2.trans hm
        have G := G.mono hm
        have hLs := hLs.mono hm
        have hB := hB.mono hm
        have hos := hos.mono hm
        have hk := hk.mono hm
        have hrest := hrest.mono hm
        have hka := hka.mono hm
        have hkb := hkb.mono hm
        have hfz := hfz.mono hm
        have hu1 := hu1.mono hm
        have hu2 := hu2.mono hm
        have hL := hL.trans hm
        refine wpList_nil ?_
        clear hS; refine and_keep (H.sw hL) fun hS => ?_
        refine dstepG hR (i := 28) (dj := 87) rfl (by kernel_rfl) (fun _ _ _ h => h) rfl rfl h4 (fun _ _ H' => (Runs.not A rfl)) A rfl hS ?_; clear A a hR; intro a A hR
        refine dstepG hR (i := 29) (dj := 85) rfl (by kernel_rfl) (fun _ _ _ h => h) rfl rfl (by rw [hkf]; cases decide (x.id ∈ kk) <;> rfl) (fun _ _ H' => (Runs.pickT A rfl h4 rfl)) A rfl hS ?_; clear A a hR; intro a A hR
        refine dstep hR (i := 30) rfl (by kernel_rfl) (fun _ _ _ h => h) (fun _ _ H' => (Runs.pickF A rfl (by rw [hkf]; cases decide (x.id ∈ kk) <;> rfl) rfl)) A rfl hS ?_; clear A a hR; intro a A hR
        refine dstep hR (i := 31) rfl (by kernel_rfl) (fun _ _ _ h => h) (fun _ _ H' => (Runs.move A rfl)) A rfl hS ?_; clear A a hR; intro a A hR
        refine dstepG hR (i := 32) (dj := 106) rfl (by kernel_rfl) (fun _ _ _ h => h) rfl rfl (notT (decide_eq_true (⟨by rw [gerr, gerr, hgo], by rw [gdat, gdat, hgo]⟩))) (fun _ _ H' => (Runs.move A rfl)) A rfl hS ?_; clear A a hR; intro a A hR
        refine dstepG hR (i := 33) (dj := 106) rfl (by kernel_rfl) (fun _ _ _ h => h) rfl rfl (notT (decide_eq_true (⟨by rw [gerr, gerr, hgo], by rw [gdat, gdat, hgo]⟩))) (fun _ _ H' => (Runs.not A rfl)) A rfl hS ?_; clear A a hR; intro a A hR
        refine dstepG hR (i := 34) (dj := 106) rfl (by kernel_rfl) (fun _ _ _ h => h) rfl rfl (notT (decide_eq_true (⟨by rw [gerr, gerr, hgo], by rw [gdat, gdat, hgo]⟩))) (fun _ _ H' => (Runs.move A rfl)) A rfl hS ?_; clear A a hR; intro a A hR
        refine dskip hR (i := 35) (dj := 109) rfl (by kernel_rfl) (fun _ _ _ h => h) rfl rfl (notT h4) A rfl hS ?_; clear A a hR; intro a A hR
        refine dskip hR (i := 36) (dj := 109) rfl (by kernel_rfl) (fun _ _ _ h => h) rfl rfl (notT h4) A rfl hS ?_; clear A a hR; intro a A hR
        refine dskip hR (i := 37) (dj := 109) rfl (by kernel_rfl) (fun _ _ _ h => h) rfl rfl (notT h4) A rfl hS ?_; clear A a hR; intro a A hR
        refine dskip hR (i := 38) (dj := 109) rfl (by kernel_rfl) (fun _ _ _ h => h) rfl rfl (notT h4) A rfl hS ?_; clear A a hR; intro a A hR
        refine dskip hR (i := 39) (dj := 109) rfl (by kernel_rfl) (fun _ _ _ h => h) rfl rfl (notT h4) A rfl hS ?_; clear A a hR; intro a A hR
        refine dskip hR (i := 40) (dj := 109) rfl (by kernel_rfl) (fun _ _ _ h => h) rfl rfl (notT h4) A rfl hS ?_; clear A a hR; intro a A hR
        refine dskip hR (i := 41) (dj := 109) rfl (by kernel_rfl) (fun _ _ _ h => h) rfl rfl (notT h4) A rfl hS ?_; clear A a hR; intro a A hR
        refine dskip hR (i := 42) (dj := 109) rfl (by kernel_rfl) (fun _ _ _ h => h) rfl rfl (notT h4) A rfl hS ?_; clear A a hR; intro a A hR
        refine dskip hR (i := 43) (dj := 109) rfl (by kernel_rfl) (fun _ _ _ h => h) rfl rfl (notT h4) A rfl hS ?_; clear A a hR; intro a A hR
        refine dstepG hR (i := 44) (dj := 106) rfl (by kernel_rfl) (fun _ _ _ h => h) rfl rfl (notT (decide_eq_true (⟨by rw [gerr, gerr, hgo], by rw [gdat, gdat, hgo]⟩))) (fun _ _ H' => (Runs.pickF A rfl (notT h4) rfl)) A rfl hS ?_; clear A a hR; intro a A hR
        refine dstep hR (i := 45) rfl (by kernel_rfl) (fun _ _ _ h => h) (fun _ _ H' => (Runs.pickF A rfl (notT (decide_eq_true (⟨by rw [gerr, gerr, hgo], by rw [gdat, gdat, hgo]⟩))) rfl)) A rfl hS ?_; clear A a hR; intro a A hR
        refine draw_done hR (by kernel_rfl) ?_
        clear hS hL hR
        refine cond_false A rfl rfl ?_
        refine wp_skip ?_
        refine wp_region_lit ?_
        refine step (Runs.move A rfl) A rfl ?_; clear A a; intro a A
        refine step (Runs.add A rfl rfl (by omega)) A rfl ?_; clear A a; intro a A
        refine step (Runs.assign A rfl) A rfl ?_; clear A a; intro a A
        refine wpList_nil ?_
        exact ⟨_, by omega, i + 1, m, rfl, by omega, hl2, (Fr.cons A rfl (Fr.cons A rfl (Fr.cons A rfl (Fr.cons A rfl (Fr.cons A rfl (Fr.cons A rfl (Fr.nil A))))))), H.subH⟩
      · have g4 := h4
        try simp only [decide_eq_true_eq, decide_eq_false_iff_not, Bool.not_eq_true', Bool.not_eq_false', ne_eq, Decidable.not_not, Int.not_lt, Int.not_le] at g4
        refine dskip hR (i := 13) (dj := 87) rfl (by kernel_rfl) (fun _ _ _ h => h) rfl rfl h4 A rfl hS ?_; clear A a hR; intro a A hR
        refine dskip hR (i := 14) (dj := 87) rfl (by kernel_rfl) (fun _ _ _ h => h) rfl rfl h4 A rfl hS ?_; clear A a hR; intro a A hR
        refine dskip hR (i := 15) (dj := 87) rfl (by kernel_rfl) (fun _ _ _ h => h) rfl rfl h4 A rfl hS ?_; clear A a hR; intro a A hR
        refine dskip hR (i := 16) (dj := 87) rfl (by kernel_rfl) (fun _ _ _ h => h) rfl rfl h4 A rfl hS ?_; clear A a hR; intro a A hR
        refine dskip hR (i := 17) (dj := 87) rfl (by kernel_rfl) (fun _ _ _ h => h) rfl rfl h4 A rfl hS ?_; clear A a hR; intro a A hR
        refine dskip hR (i := 18) (dj := 87) rfl (by kernel_rfl) (fun _ _ _ h => h) rfl rfl h4 A rfl hS ?_; clear A a hR; intro a A hR
        refine dskip hR (i := 19) (dj := 87) rfl (by kernel_rfl) (fun _ _ _ h => h) rfl rfl h4 A rfl hS ?_; clear A a hR; intro a A hR
        refine dskip hR (i := 20) (dj := 87) rfl (by kernel_rfl) (fun _ _ _ h => h) rfl rfl h4 A rfl hS ?_; clear A a hR; intro a A hR
        refine dskip hR (i := 21) (dj := 87) rfl (by kernel_rfl) (fun _ _ _ h => h) rfl rfl h4 A rfl hS ?_; clear A a hR; intro a A hR
        refine dskip hR (i := 22) (dj := 87) rfl (by kernel_rfl) (fun _ _ _ h => h) rfl rfl h4 A rfl hS ?_; clear A a hR; intro a A hR
        refine dskip hR (i := 23) (dj := 87) rfl (by kernel_rfl) (fun _ _ _ h => h) rfl rfl h4 A rfl hS ?_; clear A a hR; intro a A hR
        refine dskip hR (i := 24) (dj := 87) rfl (by kernel_rfl) (fun _ _ _ h => h) rfl rfl h4 A rfl hS ?_; clear A a hR; intro a A hR
        refine dskip hR (i := 25) (dj := 87) rfl (by kernel_rfl) (fun _ _ _ h => h) rfl rfl h4 A rfl hS ?_; clear A a hR; intro a A hR
        refine dskip hR (i := 26) (dj := 87) rfl (by kernel_rfl) (fun _ _ _ h => h) rfl rfl h4 A rfl hS ?_; clear A a hR; intro a A hR
        refine dskip hR (i := 27) (dj := 87) rfl (by kernel_rfl) (fun _ _ _ h => h) rfl rfl h4 A rfl hS ?_; clear A a hR; intro a A hR
        refine dskip hR (i := 28) (dj := 87) rfl (by kernel_rfl) (fun _ _ _ h => h) rfl rfl h4 A rfl hS ?_; clear A a hR; intro a A hR
        refine dstepG hR (i := 29) (dj := 85) rfl (by kernel_rfl) (fun _ _ _ h => h) rfl rfl (by rw [hkf]; cases decide (x.id ∈ kk) <;> rfl) (fun _ _ H' => (Runs.pickF A rfl h4 rfl)) A rfl hS ?_; clear A a hR; intro a A hR
        refine dstep hR (i := 30) rfl (by kernel_rfl) (fun _ _ _ h => h) (fun _ _ H' => (Runs.pickF A rfl (by rw [hkf]; cases decide (x.id ∈ kk) <;> rfl) rfl)) A rfl hS ?_; clear A a hR; intro a A hR
        refine dstep hR (i := 31) rfl (by kernel_rfl) (fun _ _ _ h => h) (fun _ _ H' => (Runs.move A rfl)) A rfl hS ?_; clear A a hR; intro a A hR
        refine dstepG hR (i := 32) (dj := 106) rfl (by kernel_rfl) (fun _ _ _ h => h) rfl rfl rfl (fun _ _ H' => (Runs.move A rfl)) A rfl hS ?_; clear A a hR; intro a A hR
        refine dstepG hR (i := 33) (dj := 106) rfl (by kernel_rfl) (fun _ _ _ h => h) rfl rfl rfl (fun _ _ H' => (Runs.not A rfl)) A rfl hS ?_; clear A a hR; intro a A hR
        refine dstepG hR (i := 34) (dj := 106) rfl (by kernel_rfl) (fun _ _ _ h => h) rfl rfl rfl (fun _ _ H' => (Runs.move A rfl)) A rfl hS ?_; clear A a hR; intro a A hR
        refine dstepG hR (i := 35) (dj := 109) rfl (by kernel_rfl) (fun _ _ _ h => h) rfl rfl (notF h4) (fun _ _ H' => (Runs.move A rfl)) A rfl hS ?_; clear A a hR; intro a A hR
        refine dstepG hR (i := 36) (dj := 109) rfl (by kernel_rfl) (fun _ _ _ h => h) rfl rfl (notF h4) (fun _ _ H' => (Runs.move A rfl)) A rfl hS ?_; clear A a hR; intro a A hR
        refine dstepG hR (i := 37) (dj := 109) rfl (by kernel_rfl) (fun _ _ _ h => h) rfl rfl (notF h4) (fun _ _ H' => (Runs.move A rfl)) A rfl hS ?_; clear A a hR; intro a A hR
        refine dstepG hR (i := 38) (dj := 109) rfl (by kernel_rfl) (fun _ _ _ h => h) rfl rfl (notF h4) (fun _ _ H' => (Runs.indexAddr A rfl rfl SlC.h (by omega) (by omega))) A rfl hS ?_; clear A a hR; intro a A hR
        refine dstepG hR (i := 39) (dj := 109) rfl (by kernel_rfl) (fun _ _ _ h => h) rfl rfl (notF h4) (fun _ _ H' => (Runs.fa A rfl)) A rfl hS ?_; clear A a hR; intro a A hR
        refine dstepG hR (i := 40) (dj := 109) rfl (by kernel_rfl) (fun _ _ _ h => h) rfl rfl (notF h4) (fun _ _ H' => (Runs.ld1 A H' rfl (v := u64 x.id) (by simpa using hx1))) A rfl hS ?_; clear A a hR; intro a A hR
        refine dlist hR (i := 41) rfl (by kernel_rfl) ?_
        have hR := hR.next (i := 41) (by kernel_rfl)
        refine step_callFG (dj := 109) rfl rfl (notF h4) A rfl rfl (c_law18_get hka (by omega) hkas) H ?_
        rintro v19_41 a w m hm ⟨u3, rfl, hu3⟩ A H
        have hM := hM.trans hm
        have hl2 := hl2.trans hm
        have G := G.mono hm
        have hLs := hLs.mono hm
        have hB := hB.mono hm
        have hos := hos.mono hm
        have hk := hk.mono hm
        have hrest := hrest.mono hm
        have hka := hka.mono hm
        have hkb := hkb.mono hm
        have hfz := hfz.mono hm
        have hge : gerr ka x.id = 180 := by rw [gerr, hkae, keep_none hss (of_decide_eq_false (by assumption))]; rfl
        rw [hge] at A
        have hL := hL.trans hm
        refine wpList_nil ?_
        clear hS; refine and_keep (H.sw hL) fun hS => ?_
        refine dstepG hR (i := 42) (dj := 109) rfl (by kernel_rfl) (fun _ _ _ h => h) rfl rfl (notF h4) (fun _ _ H' => (Runs.field1 (ty := 40) A rfl FldC.h (by kernel_rfl) TyC.h rfl)) A rfl hS ?_; clear A a hR; intro a A hR
        refine dstepG hR (i := 43) (dj := 109) rfl (by kernel_rfl) (fun _ _ _ h => h) rfl rfl (notF h4) (fun _ _ H' => (Runs.neq A rfl rfl)) A rfl hS ?_; clear A a hR; intro a A hR
        refine dstepG hR (i := 44) (dj := 106) rfl (by kernel_rfl) (fun _ _ _ h => h) rfl rfl rfl (fun _ _ H' => (Runs.pickT A rfl (notF h4) rfl)) A rfl hS ?_; clear A a hR; intro a A hR
        refine dstep hR (i := 45) rfl (by kernel_rfl) (fun _ _ _ h => h) (fun _ _ H' => (Runs.pickF A rfl rfl rfl)) A rfl hS ?_; clear A a hR; intro a A hR
        refine draw_done hR (by kernel_rfl) ?_
        clear hS hL hR
        refine cond_false A rfl (decide_eq_false fun h => h rfl) ?_
        refine wp_skip ?_
        refine wp_region_lit ?_
        refine step (Runs.move A rfl) A rfl ?_; clear A a; intro a A
        refine step (Runs.add A rfl rfl (by omega)) A rfl ?_; clear A a; intro a A
        refine step (Runs.assign A rfl) A rfl ?_; clear A a; intro a A
        refine wpList_nil ?_
        exact ⟨_, by omega, i + 1, m, rfl, by omega, hl2, (Fr.cons A rfl (Fr.cons A rfl (Fr.cons A rfl (Fr.cons A rfl (Fr.cons A rfl (Fr.cons A rfl (Fr.nil A))))))), H.subH⟩
    · have g3 := h3
      try simp only [decide_eq_true_eq, decide_eq_false_iff_not, Bool.not_eq_true', Bool.not_eq_false', ne_eq, Decidable.not_not, Int.not_lt, Int.not_le] at g3
      refine wp_exit ?_
      refine wp_seq ?_
      refine wp_region_lit ?_
      refine step (Runs.move A rfl) A rfl ?_; clear A a; intro a A
      refine step (Runs.lenL A rfl SlC.h) A rfl ?_; clear A a; intro a A
      refine step (Runs.move A rfl) A rfl ?_; clear A a; intro a A
      refine step (Runs.lenL A rfl SlC.h) A rfl ?_; clear A a; intro a A
      refine step (Runs.add A rfl rfl (by omega)) A rfl ?_; clear A a; intro a A
      refine step (Runs.move A rfl) A rfl ?_; clear A a; intro a A
      refine step (Runs.lenL A rfl SlC.h) A rfl ?_; clear A a; intro a A
      refine step (Runs.eql A rfl rfl) A rfl ?_; clear A a; intro a A
      refine step (Runs.move A rfl) A rfl ?_; clear A a; intro a A
      refine stepG (dj := 129) rfl rfl (decide_eq_true (by have := keep_len (l := s) (ids := kk); rw [← hkae, ← hkbe] at this; omega)) (Runs.move A rfl) A rfl ?_; clear A a; intro a A
      refine stepG (dj := 129) rfl rfl (decide_eq_true (by have := keep_len (l := s) (ids := kk); rw [← hkae, ← hkbe] at this; omega)) (Runs.move A rfl) A rfl ?_; clear A a; intro a A
      refine step_callFG (dj := 129) rfl rfl (decide_eq_true (by have := keep_len (l := s) (ids := kk); rw [← hkae, ← hkbe] at this; omega)) A rfl rfl (c_objects_Union hka hkb (by omega) (by omega)) H ?_
      rintro v21_11 a w m hm ⟨adx, cx, rfl, hxx⟩ A H
      have hM := hM.trans hm
      have G := G.mono hm
      have hLs := hLs.mono hm
      have hB := hB.mono hm
      have hos := hos.mono hm
      have hk := hk.mono hm
      have hrest := hrest.mono hm
      have hka := hka.mono hm
      have hkb := hkb.mono hm
      have hkk : mergeP ka kb = s := by rw [hkae, hkbe]; exact keep_union hss
      rw [hkk] at A hxx
      refine stepG (dj := 129) rfl rfl (decide_eq_true (by have := keep_len (l := s) (ids := kk); rw [← hkae, ← hkbe] at this; omega)) (Runs.move A rfl) A rfl ?_; clear A a; intro a A
      refine step_callFG (dj := 129) rfl rfl (decide_eq_true (by have := keep_len (l := s) (ids := kk); rw [← hkae, ← hkbe] at this; omega)) A rfl rfl (c_wireloomref18_Same hxx hos) H ?_
      rintro v21_13 a w m hm rfl A H
      have hM := hM.trans hm
      have G := G.mono hm
      have hLs := hLs.mono hm
      have hB := hB.mono hm
      have hos := hos.mono hm
      have hk := hk.mono hm
      have hrest := hrest.mono hm
      have hka := hka.mono hm
      have hkb := hkb.mono hm
      have hxx := hxx.mono hm
      refine step (Runs.pickT A rfl (decide_eq_true (by have := keep_len (l := s) (ids := kk); rw [← hkae, ← hkbe] at this; omega)) rfl) A rfl ?_; clear A a; intro a A
      refine step (Runs.move A rfl) A rfl ?_; clear A a; intro a A
      refine stepG (dj := 136) rfl rfl (decide_eq_true rfl) (Runs.move A rfl) A rfl ?_; clear A a; intro a A
      refine stepG (dj := 136) rfl rfl (decide_eq_true rfl) (Runs.move A rfl) A rfl ?_; clear A a; intro a A
      refine step_callFG (dj := 136) rfl rfl (decide_eq_true rfl) A rfl rfl (c_objects_Union hkb hka (by omega) (by omega)) H ?_
      rintro v21_18 a w m hm ⟨ady, cy, rfl, hyy⟩ A H
      have hM := hM.trans hm
      have G := G.mono hm
      have hLs := hLs.mono hm
      have hB := hB.mono hm
      have hos := hos.mono hm
      have hk := hk.mono hm
      have hrest := hrest.mono hm
      have hka := hka.mono hm
      have hkb := hkb.mono hm
      have hxx := hxx.mono hm
      have hkk2 : mergeP kb ka = s := by rw [hkae, hkbe]; exact keep_union' hss
      rw [hkk2] at A hyy
      refine stepG (dj := 136) rfl rfl (decide_eq_true rfl) (Runs.move A rfl) A rfl ?_; clear A a; intro a A
      refine step_callFG (dj := 136) rfl rfl (decide_eq_true rfl) A rfl rfl (c_wireloomref18_Same hyy hos) H ?_
      rintro v21_20 a w m hm rfl A H
      have hM := hM.trans hm
      have G := G.mono hm
      have hLs := hLs.mono hm
      have hB := hB.mono hm
      have hos := hos.mono hm
      have hk := hk.mono hm
      have hrest := hrest.mono hm
      have hka := hka.mono hm
      have hkb := hkb.mono hm
      have hxx := hxx.mono hm
      have hyy := hyy.mono hm
      refine step (Runs.pickT A rfl (decide_eq_true rfl) rfl) A rfl ?_; clear A a; intro a A
      refine step (Runs.move A rfl) A rfl ?_; clear A a; intro a A
      refine stepG (dj := 143) rfl rfl (decide_eq_true rfl) (Runs.move A rfl) A rfl ?_; clear A a; intro a A
      refine stepG (dj := 143) rfl rfl (decide_eq_true rfl) (Runs.move A rfl) A rfl ?_; clear A a; intro a A
      refine step_callSG (dj := 143) rfl rfl (decide_eq_true rfl) A rfl rfl (c_wireloomref18_Ids hos (by omega)) H ?_
      rintro v21_25 a w m L' hm ⟨adi, ci, rfl, rfl⟩ A H
      simp only [List.cons_append, List.nil_append] at H
      have hM := hM.trans hm
      have G := G.mono hm
      have hLs := hLs.mono hm
      have hB := hB.mono hm
      have hos := hos.mono hm
      have hk := hk.mono hm
      have hrest := hrest.mono hm
      have hka := hka.mono hm
      have hkb := hkb.mono hm
      have hxx := hxx.mono hm
      have hyy := hyy.mono hm
      have HX := H.row_freeze; clear H; obtain ⟨m, hm, hI0, H⟩ := HX
      have hIs : Ws m adi s.length ci (s.map (·.id)) := hI0
      have hM := hM.trans hm
      have G := G.mono hm
      have hLs := hLs.mono hm
      have hB := hB.mono hm
      have hos := hos.mono hm
      have hk := hk.mono hm
      have hrest := hrest.mono hm
      have hka := hka.mono hm
      have hkb := hkb.mono hm
      have hxx := hxx.mono hm
      have hyy := hyy.mono hm
      refine step_callFG (dj := 143) rfl rfl (decide_eq_true rfl) A rfl rfl (c_objects_Keep hos (by omega) hIs) H ?_
      rintro v21_26 a w m hm ⟨adz, cz, rfl, hzz⟩ A H
      have hM := hM.trans hm
      have G := G.mono hm
      have hLs := hLs.mono hm
      have hB := hB.mono hm
      have hos := hos.mono hm
      have hk := hk.mono hm
      have hrest := hrest.mono hm
      have hka := hka.mono hm
      have hkb := hkb.mono hm
      have hxx := hxx.mono hm
      have hyy := hyy.mono hm
      have hIs := hIs.mono hm
      rw [keep_all] at A hzz
      refine stepG (dj := 143) rfl rfl (decide_eq_true rfl) (Runs.move A rfl) A rfl ?_; clear A a; intro a A
      refine step_callFG (dj := 143) rfl rfl (decide_eq_true rfl) A rfl rfl (c_wireloomref18_Same hzz hos) H ?_
      rintro v21_28 a w m hm rfl A H
      have hM := hM.trans hm
      have G := G.mono hm
      have hLs := hLs.mono hm
      have hB := hB.mono hm
      have hos := hos.mono hm
      have hk := hk.mono hm
      have hrest := hrest.mono hm
      have hka := hka.mono hm
      have hkb := hkb.mono hm
      have hxx := hxx.mono hm
      have hyy := hyy.mono hm
      have hIs := hIs.mono hm
      have hzz := hzz.mono hm
      refine step (Runs.pickT A rfl (decide_eq_true rfl) rfl) A rfl ?_; clear A a; intro a A
      refine step (Runs.move A rfl) A rfl ?_; clear A a; intro a A
      refine stepG (dj := 151) rfl rfl (decide_eq_true rfl) (Runs.move A rfl) A rfl ?_; clear A a; intro a A
      refine step (Runs.pickT A rfl (decide_eq_true rfl) rfl) A rfl ?_; clear A a; intro a A
      refine step (Runs.assign A rfl) A rfl ?_; clear A a; intro a A
      refine wpList_nil ?_
      refine wp_ret ?_
      exact retF A rfl rfl hM H rfl
end Sl
end Go.Proofs.YtanhehbfbakdcaaGreatDoor
